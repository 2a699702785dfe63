/- Walks: the specification of strips and of what is foul. -/
import Derived.Test.YteodgilndjjgdaaR1
import Derived.Test.YteodgilndjjgdaaW12
import Derived.Test.YteodgilndjjgdaaW13
namespace Go.Tram
open Go.AM Go.Proofs
set_option maxRecDepth 10000
set_option maxHeartbeats 4000000
set_option linter.unusedVariables false
set_option linter.unusedSimpArgs false

/-- A strip by its rail and its number. -/
@[simp] def sAV (r : Int) (k : Nat) : AV := .agg [I r, I k]

theorem c_rWithin (p : Plan) (r : Int) (k : Nat) (r' : Int) (k' : Nat) (d : Int) (h0 : 0 ≤ r) (h1 : r < p.Rails.length) (ro : RailOk p r) (hk : k < (p.rail r).Shape.length + 1)
    (h0' : 0 ≤ r') (h1' : r' < p.Rails.length) (ro' : RailOk p r') (hk' : k' < (p.rail r').Shape.length + 1) (d0 : 0 ≤ d) (d1 : d ≤ 1000000) :
    PureCall Try.prog 27 [p.av, sAV r k, sAV r' k', I d] (Bo (decide (apart (nth (p.line r) k) (nth (p.line r) (k + 1)) (nth (p.line r') k') (nth (p.line r') (k' + 1)) d ≤ 0))) := by
  have hl := ro.len
  have hl' := ro'.len
  refine PureCall.of_body Try.func27 rfl (by decide) (by simp [Try.ntmps27]) ?_
  simp only [Try.ntmps27, Try.results27]
  refine awp_sr rfl fun K hK => ?_
  simp -dsimp
  refine hK _ _ ?_; clear hK K
  refine awp_sr rfl fun K hK => ?_
  simp -dsimp
  refine callK_intro _ (c_rends p r k h0 h1 ro hk) (by simp) ?_
  simp -dsimp
  refine hK _ _ ?_; clear hK K
  refine awp_sr rfl fun K hK => ?_
  simp -dsimp
  refine callK_intro _ (c_rends p r' k' h0' h1' ro' hk') (by simp) ?_
  simp -dsimp
  refine hK _ _ ?_; clear hK K
  refine awp_sr rfl fun K hK => ?_
  simp -dsimp
  refine callK_intro _ (c_rnear _ _ _ _ d false (ro.spot k (by omega)) (ro.spot (k + 1) (by omega)) (ro'.spot k' (by omega)) (ro'.spot (k' + 1) (by omega)) d0 d1) (by simp) ?_
  simp -dsimp
  refine hK _ _ ?_; clear hK K
  exact awp_ret (by simp [nearB])

theorem c_rGap (p : Plan) (r : Int) (k : Nat) (r' : Int) (k' : Nat) (h0 : 0 ≤ r) (h1 : r < p.Rails.length) (ro : RailOk p r) (hk : k < (p.rail r).Shape.length + 1)
    (h0' : 0 ≤ r') (h1' : r' < p.Rails.length) (ro' : RailOk p r') (hk' : k' < (p.rail r').Shape.length + 1) :
    PureCall Try.prog 26 [p.av, sAV r k, sAV r' k'] (I (gap (nth (p.line r) k) (nth (p.line r) (k + 1)) (nth (p.line r') k') (nth (p.line r') (k' + 1)))) := by
  have hl := ro.len
  have hl' := ro'.len
  have sa := ro.spot k (by omega)
  have sb := ro.spot (k + 1) (by omega)
  have sc := ro'.spot k' (by omega)
  have sd := ro'.spot (k' + 1) (by omega)
  unfold gap
  generalize hq : (fun x => decide (0 ≤ apart (nth (p.line r) k) (nth (p.line r) (k + 1)) (nth (p.line r') k') (nth (p.line r') (k' + 1)) x)) = q
  refine PureCall.of_body Try.func26 rfl (by decide) (by simp [Try.ntmps26]) ?_
  simp only [Try.ntmps26, Try.results26]
  refine awp_sr rfl fun K hK => ?_
  simp -dsimp
  refine hK _ _ ?_; clear hK K
  refine awp_sr rfl fun K hK => ?_
  simp -dsimp
  refine callK_intro _ (c_rends p r k h0 h1 ro hk) (by simp) ?_
  simp -dsimp
  refine hK _ _ ?_; clear hK K
  refine awp_sr rfl fun K hK => ?_
  simp -dsimp
  refine callK_intro _ (c_rends p r' k' h0' h1' ro' hk') (by simp) ?_
  simp -dsimp
  refine hK _ _ ?_; clear hK K
  refine awp_sr rfl fun K hK => ?_
  simp -dsimp
  refine hK _ _ ?_; clear hK K
  refine awp_seq_k fun K1 hK1 => ?_
  refine awp_block ?_
  refine awp_prune [7, 8, 9, 10, 11, 12] ?_
  simp only [prune, List.map_cons, List.map_nil, Go.AM.look, Nat.reduceEqDiff, reduceIte]
  refine awp_loop_l [7, 8, 9, 10] (α := Int × Int) (fun x => [(11, I x.1), (12, I x.2)]) (fun _ => [some (.els 2 [p.cells]), some (.els 2 [[I r, I k]]), some (.els 2 [[I r', I k']]), some (.els 2 [(nth (p.line r) k).cells]), some (.els 2 [(nth (p.line r) (k + 1)).cells]), some (.els 2 [(nth (p.line r') k').cells]), some (.els 2 [(nth (p.line r') (k' + 1)).cells])]) (fun x => 0 ≤ x.1 ∧ x.1 < x.2 ∧ x.2 ≤ 5001 ∧ bis q 5000 0 5001 = bis q 5000 x.1 x.2) (fun x => (x.2 - x.1).toNat) (0, 5001) ?_ ?_ ?_
  · simp
  · exact sub_same (by simp)
  rintro ⟨lo, hi⟩ ⟨i1, i2, i3, i4⟩
  simp only [] at i1 i2 i3 i4
  have w1 : IntKind.i64.wrap (hi - lo) = hi - lo := wrap_in (by omega) (by omega)
  have w2 : IntKind.i64.wrap (lo + hi) = lo + hi := wrap_in (by omega) (by omega)
  have w3 : (lo + hi).tdiv 2 = (lo + hi) / 2 := Int.tdiv_eq_ediv_of_nonneg (by omega)
  have w4 : IntKind.i64.wrap ((lo + hi) / 2) = (lo + hi) / 2 := wrap_in (by omega) (by omega)
  simp only [List.cons_append, List.nil_append, prune, List.map_cons, List.map_nil, Go.AM.look, Nat.reduceEqDiff, reduceIte]
  refine awp_seq_k fun K2 hK2 => ?_
  refine awp_sr rfl fun K hK => ?_
  simp -dsimp [w1]
  refine hK _ _ ?_; clear hK K
  refine awp_cond rfl (fun hc0 => ?_) (fun hc0 => ?_)
  · skip
    try simp at hc0
    have hstep : bis q 5000 lo hi = if q ((lo + hi) / 2) then bis q 5000 ((lo + hi) / 2) hi else bis q 5000 lo ((lo + hi) / 2) := by
      rw [bis_more 5000 5001 lo hi (by omega) (by omega)]
      conv => lhs; unfold bis
      rw [if_pos (by omega)]
    have hqm : q ((lo + hi) / 2) = decide (0 ≤ apart (nth (p.line r) k) (nth (p.line r) (k + 1)) (nth (p.line r') k') (nth (p.line r') (k' + 1)) ((lo + hi) / 2)) := by rw [← hq]
    refine awp_skip ?_
    simp only [thenA, inBlockA, reduceIte, Nat.reduceEqDiff, eq_self]
    refine hK2 _ _ ?_
    refine awp_prune [7, 8, 9, 10, 11, 12] ?_
    simp only [prune, List.map_cons, List.map_nil, Go.AM.look, Nat.reduceEqDiff, reduceIte]
    refine awp_block ?_
    refine awp_sr rfl fun K hK => ?_
    simp -dsimp [w2, w3, w4]
    refine hK _ _ ?_; clear hK K
    refine awp_sr rfl fun K hK => ?_
    simp -dsimp
    refine callK_intro _ (c_rnear _ _ _ _ ((lo + hi) / 2) true sa sb sc sd (by omega) (by omega)) (by simp) ?_
    simp -dsimp
    refine hK _ _ ?_; clear hK K
    refine awp_cond rfl (fun hc1 => ?_) (fun hc1 => ?_)
    · skip
      simp [nearB] at hc1
      have hs3 : bis q 5000 0 5001 = bis q 5000 lo ((lo + hi) / 2) := by rw [i4, hstep, if_neg (by rw [hqm]; simp; omega)]
      refine awp_r rfl fun K hK => ?_
      simp -dsimp
      refine hK _ _ ?_; clear hK K
      simp only [thenA, inBlockA, reduceIte, Nat.reduceEqDiff, eq_self]
      exact ⟨(lo, (lo + hi) / 2), ⟨by simp only []; omega, by simp only []; omega, by simp only []; omega, hs3⟩, by simp only []; omega, sub_same (by simp)⟩
    · skip
      simp [nearB] at hc1
      have hs2 : bis q 5000 0 5001 = bis q 5000 ((lo + hi) / 2) hi := by rw [i4, hstep, if_pos (by rw [hqm]; simp; omega)]
      refine awp_r rfl fun K hK => ?_
      simp -dsimp
      refine hK _ _ ?_; clear hK K
      simp only [thenA, inBlockA, reduceIte, Nat.reduceEqDiff, eq_self]
      exact ⟨((lo + hi) / 2, hi), ⟨by simp only []; omega, by simp only []; omega, by simp only []; omega, hs2⟩, by simp only []; omega, sub_same (by simp)⟩
  · skip
    try simp at hc0
    refine awp_exit ?_
    simp only [thenA, inBlockA, reduceIte, Nat.reduceEqDiff, eq_self]
    refine hK1 _ _ ?_
    refine awp_prune [11] ?_
    simp only [prune, List.map_cons, List.map_nil, Go.AM.look, Nat.reduceEqDiff, reduceIte]
    refine awp_sr rfl fun K hK => ?_
    simp -dsimp
    refine hK _ _ ?_; clear hK K
    refine awp_ret ?_
    have hb : bis q 5000 0 5001 = lo := by rw [i4, bis_stop (by omega)]
    simp [hb]

theorem c_rPlace (p : Plan) (r : Int) (k : Nat) (h0 : 0 ≤ r) (h1 : r < p.Rails.length) (ro : RailOk p r) (hk : k < (p.rail r).Shape.length + 1) :
    PureCall Try.prog 31 [p.av, sAV r k] (.tup [I (sumTo (p.line r) k), I (sumTo (p.line r) (k + 1))]) := by
  have hl := ro.len
  have hs := ro.s
  refine PureCall.of_body Try.func31 rfl (by decide) (by simp [Try.ntmps31]) ?_
  simp only [Try.ntmps31, Try.results31]
  refine awp_sr rfl fun K hK => ?_
  simp -dsimp
  refine hK _ _ ?_; clear hK K
  refine awp_sr rfl fun K hK => ?_
  simp -dsimp
  refine hK _ _ ?_; clear hK K
  refine awp_seq_k fun K1 hK1 => ?_
  refine awp_sr rfl fun K hK => ?_
  simp -dsimp
  refine hK _ _ ?_; clear hK K
  refine awp_block ?_
  refine awp_prune [2, 3, 6, 7] ?_
  simp only [prune, List.map_cons, List.map_nil, Go.AM.look, Nat.reduceEqDiff, reduceIte]
  refine awp_loop_l [2, 3] (α := Nat) (fun i => [(6, I (sumTo (p.line r) i)), (7, I i)]) (fun _ => [some (.els 2 [p.cells]), some (.els 2 [[I r, I k]])]) (fun i => i ≤ k) (fun i => k + 1 - i) 0 ?_ ?_ ?_
  · simp
  · exact sub_same (by simp [sumTo])
  rintro i i1
  simp only [List.cons_append, List.nil_append, prune, List.map_cons, List.map_nil, Go.AM.look, Nat.reduceEqDiff, reduceIte]
  refine awp_seq_k fun K2 hK2 => ?_
  refine awp_sr rfl fun K hK => ?_
  simp -dsimp
  refine hK _ _ ?_; clear hK K
  refine awp_cond rfl (fun hc0 => ?_) (fun hc0 => ?_)
  · skip
    try simp at hc0
    have wi : IntKind.i64.wrap ((i : Int) + 1) = (i : Int) + 1 := wrap_in (by omega) (by omega)
    have sa := ro.spot i (by omega)
    have sb := ro.spot (i + 1) (by omega)
    have q1 := sumTo_bd ro (i + 1) (by omega)
    have q0 := sumTo_bd ro i (by omega)
    have wa : IntKind.i64.wrap (sumTo (p.line r) i + far (nth (p.line r) i) (nth (p.line r) (i + 1))) = sumTo (p.line r) (i + 1) := by
      have : sumTo (p.line r) (i + 1) = sumTo (p.line r) i + far (nth (p.line r) i) (nth (p.line r) (i + 1)) := by simp only [sumTo]; unfold segLen; rfl
      rw [this] at q1 ⊢
      exact wrap_in (by omega) (by omega)
    refine awp_skip ?_
    simp only [thenA, inBlockA, reduceIte, Nat.reduceEqDiff, eq_self]
    refine hK2 _ _ ?_
    refine awp_prune [2, 3, 6, 7] ?_
    simp only [prune, List.map_cons, List.map_nil, Go.AM.look, Nat.reduceEqDiff, reduceIte]
    refine awp_seq_k fun K3 hK3 => ?_
    refine awp_block ?_
    refine awp_sr rfl fun K hK => ?_
    simp -dsimp
    refine callK_intro _ (c_rends p r i h0 h1 ro (by omega)) (by simp) ?_
    simp -dsimp
    refine hK _ _ ?_; clear hK K
    refine awp_seq_k fun K4 hK4 => ?_
    refine awp_sr rfl fun K hK => ?_
    simp -dsimp
    refine hK _ _ ?_; clear hK K
    refine awp_cond rfl (fun hc1 => ?_) (fun hc1 => ?_)
    · skip
      try simp at hc1
      have hik : i = k := by omega
      subst hik
      refine awp_sr rfl fun K hK => ?_
      simp -dsimp [wa]
      refine callK_intro _ (c_Far _ _ sa sb) (by simp) ?_
      simp -dsimp [wa]
      refine hK _ _ ?_; clear hK K
      exact awp_ret (by simp)
    · skip
      try simp at hc1
      have hik : i ≠ k := by omega
      refine awp_skip ?_
      simp only [thenA, inBlockA, reduceIte, Nat.reduceEqDiff, eq_self]
      refine hK4 _ _ ?_
      refine awp_prune [2, 3, 6, 7, 8, 9] ?_
      simp only [prune, List.map_cons, List.map_nil, Go.AM.look, Nat.reduceEqDiff, reduceIte]
      refine awp_r rfl fun K hK => ?_
      simp -dsimp [wa]
      refine callK_intro _ (c_Far _ _ sa sb) (by simp) ?_
      simp -dsimp [wa]
      refine hK _ _ ?_; clear hK K
      simp only [thenA, inBlockA, reduceIte, Nat.reduceEqDiff, eq_self]
      refine hK3 _ _ ?_
      refine awp_prune [2, 3, 6, 7] ?_
      simp only [prune, List.map_cons, List.map_nil, Go.AM.look, Nat.reduceEqDiff, reduceIte]
      refine awp_r rfl fun K hK => ?_
      simp -dsimp [wi]
      refine hK _ _ ?_; clear hK K
      simp only [thenA, inBlockA, reduceIte, Nat.reduceEqDiff, eq_self]
      exact ⟨i + 1, by omega, by omega, sub_rb [some 0, some 1] rfl (by simp) (by simp)⟩
  · skip
    try simp at hc0
    omega

theorem c_rbends (p : Plan) (r : Int) (k : Nat) (h0 : 0 ≤ r) (h1 : r < p.Rails.length) (ro : RailOk p r) (hk : k < (p.rail r).Shape.length + 1) :
    PureCall Try.prog 59 [p.av, sAV r k] (.lst 2 ((bendL (p.line r) k ++ bendL (p.line r) (k + 1)).map Spot.cells)) := by
  have hl := ro.len
  have hs := ro.s
  have wk : IntKind.i64.wrap ((k : Int) + 1) = (k : Int) + 1 := wrap_in (by omega) (by omega)
  have wl : IntKind.i64.wrap (((p.line r).length : Int) - 1) = ((p.line r).length : Int) - 1 := wrap_in (by omega) (by omega)
  rw [← bendTo_two]
  refine PureCall.of_body Try.func59 rfl (by decide) (by simp [Try.ntmps59]) ?_
  simp only [Try.ntmps59, Try.results59]
  refine awp_sr rfl fun K hK => ?_
  simp -dsimp
  refine hK _ _ ?_; clear hK K
  refine awp_sr rfl fun K hK => ?_
  simp -dsimp
  refine callK_intro _ (c_Line p r h0 h1 ro.f ro.t (by omega)) (by simp) ?_
  simp -dsimp
  refine hK _ _ ?_; clear hK K
  refine awp_sr rfl fun K hK => ?_
  simp -dsimp
  refine hK _ _ ?_; clear hK K
  refine awp_seq_k fun K1 hK1 => ?_
  refine awp_sr rfl fun K hK => ?_
  simp -dsimp
  refine hK _ _ ?_; clear hK K
  refine awp_block ?_
  refine awp_prune [3, 5, 6, 7] ?_
  simp only [prune, List.map_cons, List.map_nil, Go.AM.look, Nat.reduceEqDiff, reduceIte]
  refine awp_loop_l [3, 5] (α := Nat) (fun i => [(7, I i), (6, .row 2 0 (bendTo (p.line r) k (i - k)).length)]) (fun i => [some (.els 2 [p.cells]), some (.els 2 [[I r, I k]]), some (.els 2 ((bendTo (p.line r) k (i - k)).map Spot.cells))]) (fun i => k ≤ i ∧ i ≤ k + 2) (fun i => k + 2 - i) k ?_ ?_ ?_
  · exact ⟨by omega, by omega⟩
  · exact (sub_nil 6 2 (by simp)).trans (sub_rb [some 0, some 1, some 2] rfl (by simp [bendTo]) (by simp [bendTo]))
  rintro i ⟨i1, i2⟩
  have hbt := bendTo_take (p.line r) k (i - k)
  simp only [List.cons_append, List.nil_append, prune, List.map_cons, List.map_nil, Go.AM.look, Nat.reduceEqDiff, reduceIte]
  refine awp_seq_k fun K2 hK2 => ?_
  refine awp_sr rfl fun K hK => ?_
  simp -dsimp [wk]
  refine hK _ _ ?_; clear hK K
  refine awp_cond rfl (fun hc0 => ?_) (fun hc0 => ?_)
  · skip
    try simp at hc0
    have hi2 : i ≤ k + 1 := by omega
    have wi : IntKind.i64.wrap ((i : Int) + 1) = (i : Int) + 1 := wrap_in (by omega) (by omega)
    have hsucc : bendTo (p.line r) k (i + 1 - k) = bendTo (p.line r) k (i - k) ++ bendL (p.line r) i := by rw [show i + 1 - k = i - k + 1 by omega, bendTo_succ, show k + (i - k) = i by omega]
    refine awp_skip ?_
    simp only [thenA, inBlockA, reduceIte, Nat.reduceEqDiff, eq_self]
    refine hK2 _ _ ?_
    refine awp_prune [3, 5, 6, 7] ?_
    simp only [prune, List.map_cons, List.map_nil, Go.AM.look, Nat.reduceEqDiff, reduceIte]
    refine awp_seq_k fun K3 hK3 => ?_
    refine awp_block ?_
    refine awp_seq_k fun K4 hK4 => ?_
    refine awp_sr rfl fun K hK => ?_
    simp -dsimp [wl]
    refine hK _ _ ?_; clear hK K
    refine awp_cond rfl (fun hc1 => ?_) (fun hc1 => ?_)
    · skip
      try simp at hc1
      have hnb : bendL (p.line r) i = [] := by
        have : bendB (p.line r) i = false := by simp [bendB]; omega
        simp [bendL, this]
      refine awp_exit ?_
      simp only [thenA, inBlockA, reduceIte, Nat.reduceEqDiff, eq_self]
      refine hK3 _ _ ?_
      refine awp_prune [3, 5, 6, 7] ?_
      simp only [prune, List.map_cons, List.map_nil, Go.AM.look, Nat.reduceEqDiff, reduceIte]
      refine awp_r rfl fun K hK => ?_
      simp -dsimp [wi]
      refine hK _ _ ?_; clear hK K
      simp only [thenA, inBlockA, reduceIte, Nat.reduceEqDiff, eq_self]
      exact ⟨i + 1, ⟨by omega, by omega⟩, by omega, sub_rb [some 0, some 1, some 2] rfl (by simp [hsucc, hnb]) (by simp [hsucc, hnb])⟩
    · skip
      try simp at hc1
      have hi0 : 0 < i := by omega
      have hi3 : i + 1 < (p.line r).length := by omega
      have qi : IntKind.i64.wrap ((i : Int) - 1) = ((i - 1 : Nat) : Int) := by rw [wrap_in (by omega) (by omega)]; omega
      have g0 := nth_get (l := p.line r) (k := i - 1) (by omega)
      have g1 := nth_get (l := p.line r) (k := i) (by omega)
      have g2 := nth_get (l := p.line r) (k := i + 1) (by omega)
      have sa := ro.spot (i - 1) (by omega)
      have sb := ro.spot i (by omega)
      have sc := ro.spot (i + 1) (by omega)
      have d1 := spot_diff sa sb
      have d2 := spot_diff sb sc
      have mm : ∀ {x y : Int}, (-20000000 ≤ x ∧ x ≤ 20000000) → (-20000000 ≤ y ∧ y ≤ 20000000) → IntKind.i64.wrap (x * y) = x * y := by
        intro x y hx hy
        have := mul_bd (a := x) (b := y) (A := 20000000) (B := 20000000) hx.1 hx.2 hy.1 hy.2
        exact wrap_in (by omega) (by omega)
      have u1 : IntKind.i64.wrap ((nth (p.line r) i).X - (nth (p.line r) (i - 1)).X) = (nth (p.line r) i).X - (nth (p.line r) (i - 1)).X := wrap_in (by omega) (by omega)
      have u2 : IntKind.i64.wrap ((nth (p.line r) i).Y - (nth (p.line r) (i - 1)).Y) = (nth (p.line r) i).Y - (nth (p.line r) (i - 1)).Y := wrap_in (by omega) (by omega)
      have u3 : IntKind.i64.wrap ((nth (p.line r) (i + 1)).X - (nth (p.line r) i).X) = (nth (p.line r) (i + 1)).X - (nth (p.line r) i).X := wrap_in (by omega) (by omega)
      have u4 : IntKind.i64.wrap ((nth (p.line r) (i + 1)).Y - (nth (p.line r) i).Y) = (nth (p.line r) (i + 1)).Y - (nth (p.line r) i).Y := wrap_in (by omega) (by omega)
      have m1 := mm d1.1 d2.2
      have m2 := mm d1.2 d2.1
      have m3 := mm d1.1 d2.1
      have m4 := mm d1.2 d2.2
      have bd := dotS_bd sa sb sb sc
      have ws : IntKind.i64.wrap (((nth (p.line r) i).X - (nth (p.line r) (i - 1)).X) * ((nth (p.line r) (i + 1)).X - (nth (p.line r) i).X) + ((nth (p.line r) i).Y - (nth (p.line r) (i - 1)).Y) * ((nth (p.line r) (i + 1)).Y - (nth (p.line r) i).Y)) = dotS (nth (p.line r) (i - 1)) (nth (p.line r) i) (nth (p.line r) i) (nth (p.line r) (i + 1)) := wrap_in (by unfold dotS at bd; omega) (by unfold dotS at bd; omega)
      have hst := bend_ref (ro.seg (i - 1) (by omega)).1 (ro.seg i (by omega)).1 hi0
      have f3 : Fits ((bendTo (p.line r) k (i - k)).length + 1) 17 := fits_of (by have := bendTo_len (p.line r) k (i - k); omega) (by omega)
      refine awp_skip ?_
      simp only [thenA, inBlockA, reduceIte, Nat.reduceEqDiff, eq_self]
      refine hK4 _ _ ?_
      refine awp_prune [3, 5, 6, 7] ?_
      simp only [prune, List.map_cons, List.map_nil, Go.AM.look, Nat.reduceEqDiff, reduceIte]
      refine awp_sd mixed rfl fun K hK => ?_
      simp -dsimp [qi, g0, g1, u1, u2]
      refine hK _ _ _ (by decide +kernel) ?_; clear hK K
      refine awp_sd mixed rfl fun K hK => ?_
      simp -dsimp [wi, g1, g2, u3, u4]
      refine ⟨by omega, ?_⟩
      refine hK _ _ _ (by decide +kernel) ?_; clear hK K
      refine awp_sr rfl fun K hK => ?_
      simp -dsimp [m1, m2, m3, m4, ws]
      refine hK _ _ ?_; clear hK K
      refine awp_cond rfl (fun hc2 => ?_) (fun hc2 => ?_)
      · skip
        skip
        have hb : bendL (p.line r) i = [nth (p.line r) i] := by
          have : straightB (p.line r) i = false := by
            rw [hst]; simp only [Bool.not_eq_false', Bool.or_eq_true, decide_eq_true_eq]
            simp at hc2
            rcases hc2 with h | h
            · left; unfold crossS; omega
            · right; exact h
          simp [bendL, bendB, hi0, hi3, this]
        refine awp_r rfl fun K hK => ?_
        simp -dsimp [g1, f3]
        refine hK _ _ ?_; clear hK K
        simp only [thenA, inBlockA, reduceIte, Nat.reduceEqDiff, eq_self]
        refine hK3 _ _ ?_
        refine awp_prune [3, 5, 6, 7] ?_
        simp only [prune, List.map_cons, List.map_nil, Go.AM.look, Nat.reduceEqDiff, reduceIte]
        refine awp_r rfl fun K hK => ?_
        simp -dsimp [wi]
        refine hK _ _ ?_; clear hK K
        simp only [thenA, inBlockA, reduceIte, Nat.reduceEqDiff, eq_self]
        exact ⟨i + 1, ⟨by omega, by omega⟩, by omega, sub_rb [some 0, some 1, some 3] rfl (by simp [hsucc, hb]) (by simp [hsucc, hb, hbt])⟩
      · skip
        skip
        have hb : bendL (p.line r) i = [] := by
          have : straightB (p.line r) i = true := by
            rw [hst]; simp only [Bool.not_eq_true', Bool.or_eq_false_iff, decide_eq_false_iff_not]
            simp at hc2
            refine ⟨?_, ?_⟩
            · unfold crossS; omega
            · omega
          simp [bendL, bendB, this]
        refine awp_skip ?_
        simp only [thenA, inBlockA, reduceIte, Nat.reduceEqDiff, eq_self]
        refine hK3 _ _ ?_
        refine awp_prune [3, 5, 6, 7] ?_
        simp only [prune, List.map_cons, List.map_nil, Go.AM.look, Nat.reduceEqDiff, reduceIte]
        refine awp_r rfl fun K hK => ?_
        simp -dsimp [wi]
        refine hK _ _ ?_; clear hK K
        simp only [thenA, inBlockA, reduceIte, Nat.reduceEqDiff, eq_self]
        exact ⟨i + 1, ⟨by omega, by omega⟩, by omega, sub_rb [some 0, some 1, some 2] rfl (by simp [hsucc, hb]) (by simp [hsucc, hb])⟩
  · skip
    try simp at hc0
    have hi : i - k = 2 := by omega
    refine awp_exit ?_
    simp only [thenA, inBlockA, reduceIte, Nat.reduceEqDiff, eq_self]
    refine hK1 _ _ ?_
    refine awp_prune [6] ?_
    simp only [prune, List.map_cons, List.map_nil, Go.AM.look, Nat.reduceEqDiff, reduceIte]
    refine awp_sr rfl fun K hK => ?_
    simp -dsimp
    refine hK _ _ ?_; clear hK K
    exact awp_ret (by simp [hi, bendTo_take])
end Go.Tram
