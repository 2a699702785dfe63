/- Walks: what is foul in the specification. -/
import Derived.Test.YteodgilndjjgdaaR2
namespace Go.Tram
open Go.AM Go.Proofs
set_option maxRecDepth 10000
set_option maxHeartbeats 4000000
set_option linter.unusedVariables false
set_option linter.unusedSimpArgs false

theorem c_rFoul (p : Plan) (r : Int) (k : Nat) (x : Profile) (r' : Int) (k' : Nat) (y : Profile) (h0 : 0 ≤ r) (h1 : r < p.Rails.length) (ro : RailOk p r) (hk : k < (p.rail r).Shape.length + 1)
    (h0' : 0 ≤ r') (h1' : r' < p.Rails.length) (ro' : RailOk p r') (hk' : k' < (p.rail r').Shape.length + 1) (hx : profB x = true) (hy : profB y = true) :
    PureCall Try.prog 20 [p.av, sAV r k, x.av, sAV r' k', y.av] (Bo (foulB (stripOf (p.line r) r k) x (stripOf (p.line r') r' k') y)) := by
  have hl := ro.len
  have hl' := ro'.len
  have os := strip_ok ro hk
  have ot := strip_ok ro' hk'
  have hw := c_rWithin p r k r' k' (x.Half + y.Half) h0 h1 ro hk h0' h1' ro' hk' (by have := profB_iff.1 hx; have := profB_iff.1 hy; omega) (by have := profB_iff.1 hx; have := profB_iff.1 hy; omega)
  have he := c_rends p r k h0 h1 ro hk
  have he' := c_rends p r' k' h0' h1' ro' hk'
  have hb := c_rbends p r k h0 h1 ro hk
  have hb' := c_rbends p r' k' h0' h1' ro' hk'
  have f1 : foulB (stripOf (p.line r) r k) x (stripOf (p.line r') r' k') y = (decide (apart (nth (p.line r) k) (nth (p.line r) (k + 1)) (nth (p.line r') k') (nth (p.line r') (k' + 1)) (x.Half + y.Half) ≤ 0) || (swungB (stripOf (p.line r) r k) (stripOf (p.line r') r' k') (x.Half + x.Swing + y.Half) || (swungB (stripOf (p.line r') r' k') (stripOf (p.line r) r k) (x.Half + y.Half + y.Swing) || bothB (stripOf (p.line r) r k) (stripOf (p.line r') r' k') (x.Half + x.Swing + y.Half + y.Swing)))) := by
    unfold foulB
    rw [show y.Half + y.Swing + x.Half = x.Half + y.Half + y.Swing by omega]
    rfl
  have ea : (stripOf (p.line r) r k).a = nth (p.line r) k := rfl
  have eb : (stripOf (p.line r) r k).b = nth (p.line r) (k + 1) := rfl
  have ec : (stripOf (p.line r') r' k').a = nth (p.line r') k' := rfl
  have ed : (stripOf (p.line r') r' k').b = nth (p.line r') (k' + 1) := rfl
  have el : (stripOf (p.line r) r k).bends = bendL (p.line r) k ++ bendL (p.line r) (k + 1) := rfl
  have el' : (stripOf (p.line r') r' k').bends = bendL (p.line r') k' ++ bendL (p.line r') (k' + 1) := rfl
  rw [f1]
  rw [← el] at hb
  rw [← el'] at hb'
  generalize stripOf (p.line r) r k = S at *
  generalize stripOf (p.line r') r' k' = T at *
  rw [← ea, ← eb] at he
  rw [← ec, ← ed] at he'
  rw [← ea, ← eb, ← ec, ← ed] at hw ⊢
  clear f1 ea eb ec ed el el'
  rw [profB_iff] at hx hy
  have sn := os.n
  have tn := ot.n
  have w1 : IntKind.i64.wrap (x.Half + y.Half) = x.Half + y.Half := wrap_in (by omega) (by omega)
  have w2 : IntKind.i64.wrap (x.Half + x.Swing) = x.Half + x.Swing := wrap_in (by omega) (by omega)
  have w3 : IntKind.i64.wrap (x.Half + x.Swing + y.Half) = x.Half + x.Swing + y.Half := wrap_in (by omega) (by omega)
  have w4 : IntKind.i64.wrap (x.Half + x.Swing + y.Half + y.Swing) = x.Half + x.Swing + y.Half + y.Swing := wrap_in (by omega) (by omega)
  have w5 : IntKind.i64.wrap (x.Half + y.Half + y.Swing) = x.Half + y.Half + y.Swing := wrap_in (by omega) (by omega)
  have hdd := mul_bd (a := x.Half + x.Swing + y.Half + y.Swing) (b := x.Half + x.Swing + y.Half + y.Swing) (A := 7000) (B := 7000) (by omega) (by omega) (by omega) (by omega)
  have w6 : IntKind.i64.wrap ((x.Half + x.Swing + y.Half + y.Swing) * (x.Half + x.Swing + y.Half + y.Swing)) = (x.Half + x.Swing + y.Half + y.Swing) * (x.Half + x.Swing + y.Half + y.Swing) := wrap_in (by omega) (by omega)
  refine PureCall.of_body Try.func20 rfl (by decide) (by simp [Try.ntmps20]) ?_
  simp only [Try.ntmps20, Try.results20]
  refine awp_sr rfl fun K hK => ?_
  simp -dsimp
  refine hK _ _ ?_; clear hK K
  refine awp_seq_k fun K1 hK1 => ?_
  refine awp_sr rfl fun K hK => ?_
  simp -dsimp [w1]
  refine callK_intro _ (hw) (by simp) ?_
  simp -dsimp [w1]
  refine hK _ _ ?_; clear hK K
  refine awp_cond rfl (fun hc0 => ?_) (fun hc0 => ?_)
  · skip
    try simp at hc0
    have hv : (decide (apart S.a S.b T.a T.b (x.Half + y.Half) ≤ 0) || (swungB S T (x.Half + x.Swing + y.Half) || (swungB T S (x.Half + y.Half + y.Swing) || bothB S T (x.Half + x.Swing + y.Half + y.Swing)))) = true := by simp [hc0]
    refine awp_sr rfl fun K hK => ?_
    simp -dsimp
    refine hK _ _ ?_; clear hK K
    exact awp_ret (by simp [hc0])
  · skip
    try simp at hc0
    refine awp_skip ?_
    simp only [thenA, inBlockA, reduceIte, Nat.reduceEqDiff, eq_self]
    refine hK1 _ _ ?_
    refine awp_prune [5, 6, 7, 8, 9] ?_
    simp only [prune, List.map_cons, List.map_nil, Go.AM.look, Nat.reduceEqDiff, reduceIte]
    refine awp_sr rfl fun K hK => ?_
    simp -dsimp
    refine callK_intro _ (he) (by simp) ?_
    simp -dsimp
    refine hK _ _ ?_; clear hK K
    refine awp_sr rfl fun K hK => ?_
    simp -dsimp
    refine callK_intro _ (he') (by simp) ?_
    simp -dsimp
    refine hK _ _ ?_; clear hK K
    refine awp_sd mixed rfl fun K hK => ?_
    simp -dsimp
    refine callK_intro _ (hb) (by simp) ?_
    simp -dsimp
    refine callK_intro _ (hb') (by simp) ?_
    simp -dsimp
    refine hK _ _ _ (by decide +kernel) ?_; clear hK K
    refine awp_seq_k fun K2 hK2 => ?_
    refine awp_sr rfl fun K hK => ?_
    simp -dsimp
    refine hK _ _ ?_; clear hK K
    refine awp_block ?_
    refine awp_prune [7, 9, 11, 12, 13, 14, 15, 16, 17] ?_
    simp only [prune, List.map_cons, List.map_nil, Go.AM.look, Nat.reduceEqDiff, reduceIte]
    refine awp_loop_l [7, 9, 11, 12, 13, 14, 15, 16] (α := Nat) (fun i => [(17, I i)]) (fun _ => [some (.els 2 [p.cells]), some (.els 2 [[I r, I k]]), some (.els 2 [x.cells]), some (.els 2 [[I r', I k']]), some (.els 2 [y.cells]), some (.els 2 [S.a.cells]), some (.els 2 [S.b.cells]), some (.els 2 [T.a.cells]), some (.els 2 [T.b.cells])]) (fun i => i ≤ S.bends.length ∧ ((S.bends.take i).any fun q => decide (spotted T.a T.b q (x.Half + x.Swing + y.Half) ≤ 0)) = false ∧ ((S.bends.take i).any fun q => T.bends.any fun t => decide (dotS q t q t ≤ (x.Half + x.Swing + y.Half + y.Swing) * (x.Half + x.Swing + y.Half + y.Swing))) = false) (fun i => S.bends.length - i) 0 ?_ ?_ ?_
    · simp
    · exact sub_same (by simp)
    rintro i ⟨i1, i2, i3⟩
    simp only [List.cons_append, List.nil_append, prune, List.map_cons, List.map_nil, Go.AM.look, Nat.reduceEqDiff, reduceIte]
    refine awp_seq_k fun K3 hK3 => ?_
    refine awp_sr rfl fun K hK => ?_
    simp -dsimp
    refine hK _ _ ?_; clear hK K
    refine awp_cond rfl (fun hc1 => ?_) (fun hc1 => ?_)
    · skip
      try simp at hc1
      obtain ⟨q, hq⟩ : ∃ q, S.bends[i]? = some q := ⟨_, List.getElem?_eq_getElem hc1⟩
      have wi : IntKind.i64.wrap ((i : Int) + 1) = (i : Int) + 1 := wrap_in (by omega) (by omega)
      have sq := List.all_eq_true.1 os.l q (List.mem_of_getElem? hq)
      refine awp_skip ?_
      simp only [thenA, inBlockA, reduceIte, Nat.reduceEqDiff, eq_self]
      refine hK3 _ _ ?_
      refine awp_prune [7, 9, 11, 12, 13, 14, 15, 16, 17] ?_
      simp only [prune, List.map_cons, List.map_nil, Go.AM.look, Nat.reduceEqDiff, reduceIte]
      refine awp_seq_k fun K4 hK4 => ?_
      refine awp_block ?_
      refine awp_seq_k fun K5 hK5 => ?_
      refine awp_sd mixed rfl fun K hK => ?_
      simp -dsimp [hq, w2, w3]
      refine callK_intro _ (c_spotNear q T.a T.b (x.Half + x.Swing + y.Half) false sq ot.a ot.b (by omega) (by omega)) (by simp) ?_
      simp -dsimp [hq, w2, w3]
      refine hK _ _ _ (by decide +kernel) ?_; clear hK K
      refine awp_cond rfl (fun hc2 => ?_) (fun hc2 => ?_)
      · skip
        simp [nearB] at hc2
        have hv : swungB S T (x.Half + x.Swing + y.Half) = true := List.any_eq_true.2 ⟨q, List.mem_of_getElem? hq, by simp [hc2]⟩
        refine awp_sr rfl fun K hK => ?_
        simp -dsimp
        refine hK _ _ ?_; clear hK K
        exact awp_ret (by simp [hv])
      · skip
        simp [nearB] at hc2
        refine awp_skip ?_
        simp only [thenA, inBlockA, reduceIte, Nat.reduceEqDiff, eq_self]
        refine hK5 _ _ ?_
        refine awp_prune [7, 9, 11, 12, 13, 14, 15, 16, 17] ?_
        simp only [prune, List.map_cons, List.map_nil, Go.AM.look, Nat.reduceEqDiff, reduceIte]
        refine awp_sr rfl fun K hK => ?_
        simp -dsimp
        refine hK _ _ ?_; clear hK K
        refine awp_block ?_
        refine awp_prune [7, 9, 11, 12, 13, 14, 15, 16, 17, 18] ?_
        simp only [prune, List.map_cons, List.map_nil, Go.AM.look, Nat.reduceEqDiff, reduceIte]
        refine awp_loop_l [7, 9, 11, 12, 13, 14, 15, 16, 17] (α := Nat) (fun j => [(18, I j)]) (fun _ => [some (.els 2 [p.cells]), some (.els 2 [[I r, I k]]), some (.els 2 [x.cells]), some (.els 2 [[I r', I k']]), some (.els 2 [y.cells]), some (.els 2 [S.a.cells]), some (.els 2 [S.b.cells]), some (.els 2 [T.a.cells]), some (.els 2 [T.b.cells])]) (fun j => j ≤ T.bends.length ∧ ((T.bends.take j).any fun t => decide (dotS q t q t ≤ (x.Half + x.Swing + y.Half + y.Swing) * (x.Half + x.Swing + y.Half + y.Swing))) = false) (fun j => T.bends.length - j) 0 ?_ ?_ ?_
        · simp
        · exact sub_same (by simp)
        rintro j ⟨j1, j2⟩
        simp only [List.cons_append, List.nil_append, prune, List.map_cons, List.map_nil, Go.AM.look, Nat.reduceEqDiff, reduceIte]
        refine awp_seq_k fun K6 hK6 => ?_
        refine awp_sr rfl fun K hK => ?_
        simp -dsimp
        refine hK _ _ ?_; clear hK K
        refine awp_cond rfl (fun hc3 => ?_) (fun hc3 => ?_)
        · skip
          try simp at hc3
          obtain ⟨t, ht⟩ : ∃ t, T.bends[j]? = some t := ⟨_, List.getElem?_eq_getElem hc3⟩
          have wj : IntKind.i64.wrap ((j : Int) + 1) = (j : Int) + 1 := wrap_in (by omega) (by omega)
          have st := List.all_eq_true.1 ot.l t (List.mem_of_getElem? ht)
          have d1 := spot_diff st sq
          have u1 : IntKind.i64.wrap (q.X - t.X) = q.X - t.X := wrap_in (by omega) (by omega)
          have u2 : IntKind.i64.wrap (q.Y - t.Y) = q.Y - t.Y := wrap_in (by omega) (by omega)
          have b1 := mul_bd (a := q.X - t.X) (b := q.X - t.X) (A := 20000000) (B := 20000000) (by omega) (by omega) (by omega) (by omega)
          have b2 := mul_bd (a := q.Y - t.Y) (b := q.Y - t.Y) (A := 20000000) (B := 20000000) (by omega) (by omega) (by omega) (by omega)
          have u3 : IntKind.i64.wrap ((q.X - t.X) * (q.X - t.X)) = (q.X - t.X) * (q.X - t.X) := wrap_in (by omega) (by omega)
          have u4 : IntKind.i64.wrap ((q.Y - t.Y) * (q.Y - t.Y)) = (q.Y - t.Y) * (q.Y - t.Y) := wrap_in (by omega) (by omega)
          have u5 : IntKind.i64.wrap ((q.X - t.X) * (q.X - t.X) + (q.Y - t.Y) * (q.Y - t.Y)) = dotS q t q t := by rw [dotS_sym]; exact wrap_in (by omega) (by omega)
          refine awp_skip ?_
          simp only [thenA, inBlockA, reduceIte, Nat.reduceEqDiff, eq_self]
          refine hK6 _ _ ?_
          refine awp_prune [7, 9, 11, 12, 13, 14, 15, 16, 17, 18] ?_
          simp only [prune, List.map_cons, List.map_nil, Go.AM.look, Nat.reduceEqDiff, reduceIte]
          refine awp_seq_k fun K7 hK7 => ?_
          refine awp_block ?_
          refine awp_sd mixed rfl fun K hK => ?_
          simp -dsimp [hq, ht, u1, u2]
          refine hK _ _ _ (by decide +kernel) ?_; clear hK K
          refine awp_sr rfl fun K hK => ?_
          simp -dsimp [w2, w3, w4]
          refine hK _ _ ?_; clear hK K
          refine awp_sr rfl fun K hK => ?_
          simp -dsimp [u3, u4, u5, w6]
          refine hK _ _ ?_; clear hK K
          refine awp_cond rfl (fun hc4 => ?_) (fun hc4 => ?_)
          · skip
            try simp at hc4
            have hv : bothB S T (x.Half + x.Swing + y.Half + y.Swing) = true := List.any_eq_true.2 ⟨q, List.mem_of_getElem? hq, List.any_eq_true.2 ⟨t, List.mem_of_getElem? ht, by simpa using hc4⟩⟩
            refine awp_sr rfl fun K hK => ?_
            simp -dsimp
            refine hK _ _ ?_; clear hK K
            exact awp_ret (by simp [hv])
          · skip
            try simp at hc4
            refine awp_skip ?_
            simp only [thenA, inBlockA, reduceIte, Nat.reduceEqDiff, eq_self]
            refine hK7 _ _ ?_
            refine awp_prune [7, 9, 11, 12, 13, 14, 15, 16, 17, 18] ?_
            simp only [prune, List.map_cons, List.map_nil, Go.AM.look, Nat.reduceEqDiff, reduceIte]
            refine awp_r rfl fun K hK => ?_
            simp -dsimp [wj]
            refine hK _ _ ?_; clear hK K
            simp only [thenA, inBlockA, reduceIte, Nat.reduceEqDiff, eq_self]
            exact ⟨j + 1, ⟨by omega, by rw [any_take ht, j2]; simp; omega⟩, by omega, sub_same (by simp)⟩
        · skip
          try simp at hc3
          have hin := any_of_take (by omega) j2
          refine awp_exit ?_
          simp only [thenA, inBlockA, reduceIte, Nat.reduceEqDiff, eq_self]
          refine hK4 _ _ ?_
          refine awp_prune [7, 9, 11, 12, 13, 14, 15, 16, 17] ?_
          simp only [prune, List.map_cons, List.map_nil, Go.AM.look, Nat.reduceEqDiff, reduceIte]
          refine awp_r rfl fun K hK => ?_
          simp -dsimp [wi]
          refine hK _ _ ?_; clear hK K
          simp only [thenA, inBlockA, reduceIte, Nat.reduceEqDiff, eq_self]
          exact ⟨i + 1, ⟨by omega, by rw [any_take hq, i2]; simp [hc2], by rw [any_take hq, i3, hin]; rfl⟩, by omega, sub_same (by simp)⟩
    · skip
      try simp at hc1
      have v1 : swungB S T (x.Half + x.Swing + y.Half) = false := any_of_take (by omega) i2
      have v2 : bothB S T (x.Half + x.Swing + y.Half + y.Swing) = false := any_of_take (by omega) i3
      refine awp_exit ?_
      simp only [thenA, inBlockA, reduceIte, Nat.reduceEqDiff, eq_self]
      refine hK2 _ _ ?_
      refine awp_prune [7, 9, 11, 12, 16] ?_
      simp only [prune, List.map_cons, List.map_nil, Go.AM.look, Nat.reduceEqDiff, reduceIte]
      refine awp_seq_k fun K8 hK8 => ?_
      refine awp_sr rfl fun K hK => ?_
      simp -dsimp
      refine hK _ _ ?_; clear hK K
      refine awp_block ?_
      refine awp_prune [7, 9, 11, 12, 16, 22] ?_
      simp only [prune, List.map_cons, List.map_nil, Go.AM.look, Nat.reduceEqDiff, reduceIte]
      refine awp_loop_l [7, 9, 11, 12, 16] (α := Nat) (fun j => [(22, I j)]) (fun _ => [some (.els 2 [p.cells]), some (.els 2 [[I r, I k]]), some (.els 2 [x.cells]), some (.els 2 [[I r', I k']]), some (.els 2 [y.cells]), some (.els 2 [S.a.cells]), some (.els 2 [S.b.cells]), some (.els 2 [T.a.cells]), some (.els 2 [T.b.cells])]) (fun j => j ≤ T.bends.length ∧ ((T.bends.take j).any fun t => decide (spotted S.a S.b t (x.Half + y.Half + y.Swing) ≤ 0)) = false) (fun j => T.bends.length - j) 0 ?_ ?_ ?_
      · simp
      · exact sub_same (by simp)
      rintro j ⟨j1, j2⟩
      simp only [List.cons_append, List.nil_append, prune, List.map_cons, List.map_nil, Go.AM.look, Nat.reduceEqDiff, reduceIte]
      refine awp_seq_k fun K9 hK9 => ?_
      refine awp_sr rfl fun K hK => ?_
      simp -dsimp
      refine hK _ _ ?_; clear hK K
      refine awp_cond rfl (fun hc5 => ?_) (fun hc5 => ?_)
      · skip
        try simp at hc5
        obtain ⟨t, ht⟩ : ∃ t, T.bends[j]? = some t := ⟨_, List.getElem?_eq_getElem hc5⟩
        have wj : IntKind.i64.wrap ((j : Int) + 1) = (j : Int) + 1 := wrap_in (by omega) (by omega)
        have st := List.all_eq_true.1 ot.l t (List.mem_of_getElem? ht)
        refine awp_skip ?_
        simp only [thenA, inBlockA, reduceIte, Nat.reduceEqDiff, eq_self]
        refine hK9 _ _ ?_
        refine awp_prune [7, 9, 11, 12, 16, 22] ?_
        simp only [prune, List.map_cons, List.map_nil, Go.AM.look, Nat.reduceEqDiff, reduceIte]
        refine awp_seq_k fun K10 hK10 => ?_
        refine awp_block ?_
        refine awp_sd mixed rfl fun K hK => ?_
        simp -dsimp [ht, w1, w5]
        refine callK_intro _ (c_spotNear t S.a S.b (x.Half + y.Half + y.Swing) false st os.a os.b (by omega) (by omega)) (by simp) ?_
        simp -dsimp [ht, w1, w5]
        refine hK _ _ _ (by decide +kernel) ?_; clear hK K
        refine awp_cond rfl (fun hc6 => ?_) (fun hc6 => ?_)
        · skip
          simp [nearB] at hc6
          have hv : swungB T S (x.Half + y.Half + y.Swing) = true := List.any_eq_true.2 ⟨t, List.mem_of_getElem? ht, by simp [hc6]⟩
          refine awp_sr rfl fun K hK => ?_
          simp -dsimp
          refine hK _ _ ?_; clear hK K
          exact awp_ret (by simp [hv])
        · skip
          simp [nearB] at hc6
          refine awp_skip ?_
          simp only [thenA, inBlockA, reduceIte, Nat.reduceEqDiff, eq_self]
          refine hK10 _ _ ?_
          refine awp_prune [7, 9, 11, 12, 16, 22] ?_
          simp only [prune, List.map_cons, List.map_nil, Go.AM.look, Nat.reduceEqDiff, reduceIte]
          refine awp_r rfl fun K hK => ?_
          simp -dsimp [wj]
          refine hK _ _ ?_; clear hK K
          simp only [thenA, inBlockA, reduceIte, Nat.reduceEqDiff, eq_self]
          exact ⟨j + 1, ⟨by omega, by rw [any_take ht, j2]; simp [hc6]⟩, by omega, sub_same (by simp)⟩
      · skip
        try simp at hc5
        have v3 : swungB T S (x.Half + y.Half + y.Swing) = false := any_of_take (by omega) j2
        refine awp_exit ?_
        simp only [thenA, inBlockA, reduceIte, Nat.reduceEqDiff, eq_self]
        refine hK8 _ _ ?_
        refine awp_prune [] ?_
        simp only [prune, List.map_cons, List.map_nil, Go.AM.look, Nat.reduceEqDiff, reduceIte]
        refine awp_sr rfl fun K hK => ?_
        simp -dsimp
        refine hK _ _ ?_; clear hK K
        exact awp_ret (by simp [v1, v2, v3, hc0])
end Go.Tram
