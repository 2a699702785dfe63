/- Walks: the track's network of a plan, the line and the length of a rail. -/
import Derived.Test.YtdabjdajemiagaaW9
namespace Go.Tram
open Go.AM Go.Proofs
set_option maxRecDepth 10000
set_option maxHeartbeats 4000000
set_option linter.unusedVariables false
set_option linter.unusedSimpArgs false

/-- Where ends are in the lists of their nodes. -/
def putE (kvs : List (List KC × Value)) (es : List REnd) : Nat → List (List KC × Value)
  | 0 => kvs
  | j + 1 => kvSet (putE kvs es j) (keyOf (es[j]?.getD default)) (.int .i64 j)
def placesK (p : Plan) : Nat → List (List KC × Value)
  | 0 => []
  | i + 1 => putE (placesK p i) (p.node i).Ends (p.node i).Ends.length
def lensA (p : Plan) (n : Nat) : List (List AV) := (List.range n).map fun (r : Nat) => [I (p.len r)]
def net (p : Plan) : List AV := p.cells ++ [.lst 1 (lensA p p.Rails.length), .mpc true [.i .i64, .b] (placesK p p.Nodes.length)]

theorem lensA_len (p : Plan) (n : Nat) : (lensA p n).length = n := by simp [lensA]
theorem lensA_succ (p : Plan) (n : Nat) : lensA p (n + 1) = lensA p n ++ [[I (p.len n)]] := by simp [lensA, List.range_succ]
theorem lensA_get {p : Plan} {n k : Nat} (h : k < n) : (lensA p n)[k]? = some [I (p.len k)] := by simp [lensA, h]
theorem lensA_ren (p : Plan) (n : Nat) (g : List (Option Nat)) : (lensA p n).map (fun e => e.map (renAV g 3)) = lensA p n := by unfold lensA; rw [List.map_map]; exact List.map_congr_left fun s _ => rfl
theorem lensA_frz (p : Plan) (n m : Nat) (H : Hp) : (lensA p n).map (fun e => e.map (frzP H (m + 1))) = lensA p n := by unfold lensA; rw [List.map_map]; exact List.map_congr_left fun s _ => rfl

theorem c_rline (p : Plan) (r : Int) (ro : RailOk p r) : PureCall Try.prog 28 [p.av, (p.rail r).av] (.lst 2 ((p.line r).map Spot.cells)) :=
  c_tline p (p.rail r) ro.f ro.t (by have := ro.s; omega)

theorem c_open_f (p : Plan) (h : validB p = false) : PureCall Try.prog 26 [p.av] (.tup [.v (.pointer none), Bo false]) := by
  have hc := c_Check p
  rw [h] at hc
  refine PureCall.of_body Try.func26 rfl (by decide) (by simp [Try.ntmps26]) ?_
  simp only [Try.ntmps26, Try.results26]
  refine awp_sr rfl fun K hK => ?_
  simp -dsimp
  refine hK _ _ ?_; clear hK K
  refine awp_seq_k fun K1 hK1 => ?_
  refine awp_sr rfl fun K hK => ?_
  simp -dsimp
  refine callK_intro _ (hc) (by simp) ?_
  simp -dsimp
  refine hK _ _ ?_; clear hK K
  refine awp_cond rfl (fun hc0 => ?_) (fun hc0 => ?_)
  · skip
    skip
    refine awp_sr rfl fun K hK => ?_
    simp -dsimp
    refine hK _ _ ?_; clear hK K
    exact awp_ret (by simp)
  · skip
    skip
    simp at hc0

theorem c_open_t (p : Plan) (h : validB p = true) : PureCall Try.prog 26 [p.av] (.tup [.iptr (net p), Bo true]) := by
  have hck := c_Check p
  rw [h] at hck
  obtain ⟨hN, hR, hA, hB, _⟩ := valid_parts h
  refine PureCall.of_body Try.func26 rfl (by decide) (by simp [Try.ntmps26]) ?_
  simp only [Try.ntmps26, Try.results26]
  refine awp_sr rfl fun K hK => ?_
  simp -dsimp
  refine hK _ _ ?_; clear hK K
  refine awp_seq_k fun K1 hK1 => ?_
  refine awp_sr rfl fun K hK => ?_
  simp -dsimp
  refine callK_intro _ (hck) (by simp) ?_
  simp -dsimp
  refine hK _ _ ?_; clear hK K
  refine awp_cond rfl (fun hc0 => ?_) (fun hc0 => ?_)
  · skip
    skip
    simp at hc0
  · skip
    skip
    refine awp_skip ?_
    simp only [thenA, inBlockA, reduceIte, Nat.reduceEqDiff, eq_self]
    refine hK1 _ _ ?_
    refine awp_prune [1] ?_
    simp only [prune, List.map_cons, List.map_nil, Go.AM.look, Nat.reduceEqDiff, reduceIte]
    refine awp_sr rfl fun K hK => ?_
    simp -dsimp
    refine hK _ _ ?_; clear hK K
    refine awp_seq_k fun K2 hK2 => ?_
    refine awp_sr rfl fun K hK => ?_
    simp -dsimp
    refine hK _ _ ?_; clear hK K
    refine awp_block ?_
    refine awp_prune [1, 4, 22, 23, 24] ?_
    simp only [prune, List.map_cons, List.map_nil, Go.AM.look, Nat.reduceEqDiff, reduceIte]
    refine awp_loop_l [1, 4, 22, 23] (α := Nat) (fun k => [(24, I k)]) (fun k => [some (.els 2 [p.cells]), some (.map true [.i .i64, .b] []), some (.els 4 [p.cells ++ [.row 3 0 (lensA p k).length, .mp 1]]), some (.els 1 (lensA p k))]) (fun k => k ≤ p.Rails.length) (fun k => p.Rails.length - k) 0 ?_ ?_ ?_
    · simp
    · exact (sub_nilc 2 0 2 1 (es := [p.cells ++ [.v (.slice none 0 0), .mp 1]]) (e := p.cells ++ [.v (.slice none 0 0), .mp 1]) (by simp) (by simp) (by simp)).trans (sub_same (by simp [lensA]))
    rintro k k1
    simp only [List.cons_append, List.nil_append, prune, List.map_cons, List.map_nil, Go.AM.look, Nat.reduceEqDiff, reduceIte]
    refine awp_sr rfl fun K hK => ?_
    simp -dsimp
    refine hK _ _ ?_; clear hK K
    refine awp_seq_k fun K3 hK3 => ?_
    refine awp_cond rfl (fun hc1 => ?_) (fun hc1 => ?_)
    · skip
      try simp at hc1
      have g0 := p.rail_get (i := (k : Int)) (by omega) (by omega)
      simp only [Int.toNat_natCast] at g0
      have ro := rail_ok h (r := (k : Int)) (by omega) (by omega)
      have hl := ro.len
      have hs30 := ro.s
      have wk : IntKind.i64.wrap ((k : Int) + 1) = (k : Int) + 1 := wrap_in (by omega) (by omega)
      have f1 : Fits (k + 1) 9 := fits_of (by omega) (by omega)
      have hll := lensA_len p k
      have htk : (lensA p k).take k = lensA p k := List.take_of_length_le (by omega)
      refine awp_skip ?_
      simp only [thenA, inBlockA, reduceIte, Nat.reduceEqDiff, eq_self]
      refine hK3 _ _ ?_
      refine awp_prune [1, 4, 22, 23, 24] ?_
      simp only [prune, List.map_cons, List.map_nil, Go.AM.look, Nat.reduceEqDiff, reduceIte]
      refine awp_seq_k fun K4 hK4 => ?_
      refine awp_block ?_
      refine awp_sr rfl fun K hK => ?_
      simp -dsimp [g0]
      refine hK _ _ ?_; clear hK K
      refine awp_sr rfl fun K hK => ?_
      simp -dsimp
      refine callK_intro _ (c_rline p k ro) (by simp) ?_
      simp -dsimp
      refine hK _ _ ?_; clear hK K
      refine awp_sr rfl fun K hK => ?_
      simp -dsimp
      refine hK _ _ ?_; clear hK K
      refine awp_seq_k fun K5 hK5 => ?_
      refine awp_sr rfl fun K hK => ?_
      simp -dsimp
      refine hK _ _ ?_; clear hK K
      refine awp_block ?_
      refine awp_prune [1, 4, 7, 8, 9, 22, 23, 24] ?_
      simp only [prune, List.map_cons, List.map_nil, Go.AM.look, Nat.reduceEqDiff, reduceIte]
      refine awp_loop_l [1, 4, 7, 22, 23, 24] (α := Nat) (fun i => [(8, I (sumTo (p.line k) (i - 1))), (9, I i)]) (fun _ => [some (.els 2 [p.cells]), some (.map true [.i .i64, .b] []), some (.els 4 [p.cells ++ [.row 3 0 (lensA p k).length, .mp 1]]), some (.els 1 (lensA p k))]) (fun i => 1 ≤ i ∧ i ≤ (p.line k).length) (fun i => (p.line k).length - i) 1 ?_ ?_ ?_
      · omega
      · exact sub_rb [some 0, some 1, some 2, some 3] rfl (by simp [sumTo]) (by simp [lensA_ren])
      rintro i ⟨j1, j2⟩
      simp only [List.cons_append, List.nil_append, prune, List.map_cons, List.map_nil, Go.AM.look, Nat.reduceEqDiff, reduceIte]
      refine awp_seq_k fun K6 hK6 => ?_
      refine awp_sr rfl fun K hK => ?_
      simp -dsimp
      refine hK _ _ ?_; clear hK K
      refine awp_cond rfl (fun hc2 => ?_) (fun hc2 => ?_)
      · skip
        try simp at hc2
        have wi : IntKind.i64.wrap ((i : Int) - 1) = ((i - 1 : Nat) : Int) := by rw [wrap_in (by omega) (by omega)]; omega
        have wj : IntKind.i64.wrap ((i : Int) + 1) = (i : Int) + 1 := wrap_in (by omega) (by omega)
        have g1 := nth_get (l := p.line k) (k := i - 1) (by omega)
        have g2 := nth_get (l := p.line k) (k := i) (by omega)
        have q1 := sumTo_bd ro (i - 1) (by omega)
        have q2 := far_bd (ro.spot (i - 1) (by omega)) (ro.spot i (by omega))
        have wa : IntKind.i64.wrap (sumTo (p.line k) (i - 1) + far (nth (p.line k) (i - 1)) (nth (p.line k) i)) = sumTo (p.line k) (i - 1) + far (nth (p.line k) (i - 1)) (nth (p.line k) i) := wrap_in (by omega) (by omega)
        refine awp_skip ?_
        simp only [thenA, inBlockA, reduceIte, Nat.reduceEqDiff, eq_self]
        refine hK6 _ _ ?_
        refine awp_prune [1, 4, 7, 8, 9, 22, 23, 24] ?_
        simp only [prune, List.map_cons, List.map_nil, Go.AM.look, Nat.reduceEqDiff, reduceIte]
        refine awp_seq_k fun K7 hK7 => ?_
        refine awp_block ?_
        refine awp_draw mixed rfl fun K hK => ?_
        simp -dsimp [wi, g1, g2, wa]
        refine callK_intro _ (c_span (nth (p.line k) (i - 1)) (nth (p.line k) i) (ro.spot _ (by omega)) (ro.spot _ (by omega))) (by simp) ?_
        simp -dsimp [wi, g1, g2, wa]
        refine hK _ _ _ (by decide +kernel) ?_; clear hK K
        simp only [thenA, inBlockA, reduceIte, Nat.reduceEqDiff, eq_self]
        refine hK7 _ _ ?_
        refine awp_prune [1, 4, 7, 8, 9, 22, 23, 24] ?_
        simp only [prune, List.map_cons, List.map_nil, Go.AM.look, Nat.reduceEqDiff, reduceIte]
        refine awp_r rfl fun K hK => ?_
        simp -dsimp [wj]
        refine hK _ _ ?_; clear hK K
        simp only [thenA, inBlockA, reduceIte, Nat.reduceEqDiff, eq_self]
        obtain ⟨j, rfl⟩ : ∃ j, i = j + 1 := ⟨i - 1, by omega⟩
        exact ⟨j + 2, ⟨by omega, by omega⟩, by omega, sub_same (by simp [sumTo, segLen] <;> omega)⟩
      · skip
        try simp at hc2
        have hlen : sumTo (p.line k) (i - 1) = p.len k := by unfold Plan.len; congr 1; omega
        refine awp_exit ?_
        simp only [thenA, inBlockA, reduceIte, Nat.reduceEqDiff, eq_self]
        refine hK5 _ _ ?_
        refine awp_prune [1, 4, 8, 22, 23, 24] ?_
        simp only [prune, List.map_cons, List.map_nil, Go.AM.look, Nat.reduceEqDiff, reduceIte]
        refine awp_r rfl fun K hK => ?_
        simp -dsimp [hlen, hll, f1]
        refine hK _ _ ?_; clear hK K
        simp only [thenA, inBlockA, reduceIte, Nat.reduceEqDiff, eq_self]
        refine hK4 _ _ ?_
        refine awp_prune [1, 4, 22, 23, 24] ?_
        simp only [prune, List.map_cons, List.map_nil, Go.AM.look, Nat.reduceEqDiff, reduceIte]
        refine awp_r rfl fun K hK => ?_
        simp -dsimp [wk]
        refine hK _ _ ?_; clear hK K
        simp only [thenA, inBlockA, reduceIte, Nat.reduceEqDiff, eq_self]
        exact ⟨k + 1, by omega, by omega, sub_rb [some 0, some 1, some 2, some 4] rfl (by simp) (by simp [lensA_succ, lensA_ren, hll, htk])⟩
    · skip
      try simp at hc1
      have hk : k = p.Rails.length := by omega
      subst hk
      refine awp_exit ?_
      simp only [thenA, inBlockA, reduceIte, Nat.reduceEqDiff, eq_self]
      refine hK2 _ _ ?_
      refine awp_prune [1, 4] ?_
      simp only [prune, List.map_cons, List.map_nil, Go.AM.look, Nat.reduceEqDiff, reduceIte]
      refine awp_seq_k fun K8 hK8 => ?_
      refine awp_sr rfl fun K hK => ?_
      simp -dsimp
      refine hK _ _ ?_; clear hK K
      refine awp_block ?_
      refine awp_prune [4, 61, 62, 63] ?_
      simp only [prune, List.map_cons, List.map_nil, Go.AM.look, Nat.reduceEqDiff, reduceIte]
      refine awp_loop_l [4, 61, 62] (α := Nat) (fun i => [(63, I i)]) (fun i => [some (.els 2 [p.cells]), some (.map true [.i .i64, .b] (placesK p i)), some (.els 4 [p.cells ++ [.row 3 0 (lensA p p.Rails.length).length, .mp 1]]), some (.els 1 (lensA p p.Rails.length))]) (fun i => i ≤ p.Nodes.length) (fun i => p.Nodes.length - i) 0 ?_ ?_ ?_
      · simp
      · exact sub_same (by simp)
      rintro i i1
      simp only [List.cons_append, List.nil_append, prune, List.map_cons, List.map_nil, Go.AM.look, Nat.reduceEqDiff, reduceIte]
      refine awp_sr rfl fun K hK => ?_
      simp -dsimp
      refine hK _ _ ?_; clear hK K
      refine awp_seq_k fun K9 hK9 => ?_
      refine awp_cond rfl (fun hc3 => ?_) (fun hc3 => ?_)
      · skip
        try simp at hc3
        have n0 := p.node_get (i := (i : Int)) (by omega) (by omega)
        simp only [Int.toNat_natCast] at n0
        have wi : IntKind.i64.wrap ((i : Int) + 1) = (i : Int) + 1 := wrap_in (by omega) (by omega)
        have hle := nodeB_len (node_ends hA (i := (i : Int)) (by omega) (by omega))
        refine awp_skip ?_
        simp only [thenA, inBlockA, reduceIte, Nat.reduceEqDiff, eq_self]
        refine hK9 _ _ ?_
        refine awp_prune [4, 61, 62, 63] ?_
        simp only [prune, List.map_cons, List.map_nil, Go.AM.look, Nat.reduceEqDiff, reduceIte]
        refine awp_seq_k fun K10 hK10 => ?_
        refine awp_block ?_
        refine awp_sr rfl fun K hK => ?_
        simp -dsimp [n0]
        refine hK _ _ ?_; clear hK K
        refine awp_sr rfl fun K hK => ?_
        simp -dsimp
        refine hK _ _ ?_; clear hK K
        refine awp_block ?_
        refine awp_prune [4, 61, 62, 63, 68, 69, 70] ?_
        simp only [prune, List.map_cons, List.map_nil, Go.AM.look, Nat.reduceEqDiff, reduceIte]
        refine awp_loop_l [4, 61, 62, 63, 68, 69] (α := Nat) (fun j => [(70, I j)]) (fun j => [some (.els 2 [p.cells]), some (.map true [.i .i64, .b] (putE (placesK p i) (p.node i).Ends j)), some (.els 4 [p.cells ++ [.row 3 0 (lensA p p.Rails.length).length, .mp 1]]), some (.els 1 (lensA p p.Rails.length))]) (fun j => j ≤ (p.node i).Ends.length) (fun j => (p.node i).Ends.length - j) 0 ?_ ?_ ?_
        · simp
        · exact sub_rb [some 0, some 1, some 2, some 3] rfl (by simp) (by simp [putE, lensA_ren])
        rintro j j1
        simp only [List.cons_append, List.nil_append, prune, List.map_cons, List.map_nil, Go.AM.look, Nat.reduceEqDiff, reduceIte]
        refine awp_sr rfl fun K hK => ?_
        simp -dsimp
        refine hK _ _ ?_; clear hK K
        refine awp_seq_k fun K11 hK11 => ?_
        refine awp_cond rfl (fun hc4 => ?_) (fun hc4 => ?_)
        · skip
          try simp at hc4
          obtain ⟨e, he⟩ : ∃ e, (p.node i).Ends[j]? = some e := ⟨_, List.getElem?_eq_getElem hc4⟩
          have wj : IntKind.i64.wrap ((j : Int) + 1) = (j : Int) + 1 := wrap_in (by omega) (by omega)
          refine awp_skip ?_
          simp only [thenA, inBlockA, reduceIte, Nat.reduceEqDiff, eq_self]
          refine hK11 _ _ ?_
          refine awp_prune [4, 61, 62, 63, 68, 69, 70] ?_
          simp only [prune, List.map_cons, List.map_nil, Go.AM.look, Nat.reduceEqDiff, reduceIte]
          refine awp_seq_k fun K12 hK12 => ?_
          refine awp_block ?_
          refine awp_sr rfl fun K hK => ?_
          simp -dsimp [he]
          refine hK _ _ ?_; clear hK K
          refine awp_draw mixed rfl fun K hK => ?_
          simp -dsimp
          refine hK _ _ _ (by decide +kernel) ?_; clear hK K
          simp only [thenA, inBlockA, reduceIte, Nat.reduceEqDiff, eq_self]
          refine hK12 _ _ ?_
          refine awp_prune [4, 61, 62, 63, 68, 69, 70] ?_
          simp only [prune, List.map_cons, List.map_nil, Go.AM.look, Nat.reduceEqDiff, reduceIte]
          refine awp_r rfl fun K hK => ?_
          simp -dsimp [wj]
          refine hK _ _ ?_; clear hK K
          simp only [thenA, inBlockA, reduceIte, Nat.reduceEqDiff, eq_self]
          exact ⟨j + 1, by omega, by omega, sub_rb [some 0, some 1, some 2, some 3] rfl (by simp) (by simp [putE, he, keyOf, lensA_ren])⟩
        · skip
          try simp at hc4
          have hj : j = (p.node i).Ends.length := by omega
          subst hj
          refine awp_exit ?_
          simp only [thenA, inBlockA, reduceIte, Nat.reduceEqDiff, eq_self]
          refine hK10 _ _ ?_
          refine awp_prune [4, 61, 62, 63] ?_
          simp only [prune, List.map_cons, List.map_nil, Go.AM.look, Nat.reduceEqDiff, reduceIte]
          refine awp_r rfl fun K hK => ?_
          simp -dsimp [wi]
          refine hK _ _ ?_; clear hK K
          simp only [thenA, inBlockA, reduceIte, Nat.reduceEqDiff, eq_self]
          exact ⟨i + 1, by omega, by omega, sub_same (by simp [placesK])⟩
      · skip
        try simp at hc3
        have hi : i = p.Nodes.length := by omega
        subst hi
        refine awp_exit ?_
        simp only [thenA, inBlockA, reduceIte, Nat.reduceEqDiff, eq_self]
        refine hK8 _ _ ?_
        refine awp_prune [4] ?_
        simp only [prune, List.map_cons, List.map_nil, Go.AM.look, Nat.reduceEqDiff, reduceIte]
        refine awp_sr rfl fun K hK => ?_
        simp -dsimp
        refine hK _ _ ?_; clear hK K
        exact awp_ret (by simp [net, lensA_frz])

theorem c_nhas (p : Plan) (r : Int) (b : Bool) (h : validB p = true) : PureCall Try.prog 27 [.iptr (net p), .agg [I r, Bo b]] (Bo (inr r 0 (p.Rails.length - 1))) := by
  obtain ⟨hN, hR, _⟩ := valid_parts h
  have w : IntKind.i64.wrap ((p.Rails.length : Int) - 1) = (p.Rails.length : Int) - 1 := wrap_in (by omega) (by omega)
  unfold net
  refine PureCall.of_body Try.func27 rfl (by decide) (by simp [Try.ntmps27]) ?_
  simp only [Try.ntmps27, Try.results27]
  refine awp_sr rfl fun K hK => ?_
  simp -dsimp
  refine hK _ _ ?_; clear hK K
  refine awp_sd mixed rfl fun K hK => ?_
  simp -dsimp [w]
  refine callK_intro _ (c_within _ _ _) (by simp) ?_
  simp -dsimp [w]
  refine hK _ _ _ (by decide +kernel) ?_; clear hK K
  exact awp_ret (by simp)

theorem c_tLine (p : Plan) (r : Int) (h : validB p = true) (h0 : 0 ≤ r) (h1 : r < p.Rails.length) : PureCall Try.prog 8 [p.av, I r] (.tup [.lst 2 ((p.line r).map Spot.cells), I 0]) := by
  have ro := rail_ok h h0 h1
  have g0 := p.rail_get h0 h1
  have hin : inr r 0 (p.Rails.length - 1) = true := inr_iff.2 (by omega)
  refine PureCall.of_body Try.func8 rfl (by decide) (by simp [Try.ntmps8]) ?_
  simp only [Try.ntmps8, Try.results8]
  refine awp_sr rfl fun K hK => ?_
  simp -dsimp
  refine hK _ _ ?_; clear hK K
  refine awp_sr rfl fun K hK => ?_
  simp -dsimp
  refine callK_intro _ (c_open_t p h) (by simp) ?_
  simp -dsimp
  refine hK _ _ ?_; clear hK K
  refine awp_seq_k fun K1 hK1 => ?_
  refine awp_sr rfl fun K hK => ?_
  simp -dsimp
  refine callK_may _ (fun hm => c_nhas p r false h) (by simp) ?_
  simp -dsimp
  refine hK _ _ ?_; clear hK K
  refine awp_cond rfl (fun hc0 => ?_) (fun hc0 => ?_)
  · skip
    skip
    simp [hin] at hc0
  · skip
    skip
    refine awp_skip ?_
    simp only [thenA, inBlockA, reduceIte, Nat.reduceEqDiff, eq_self]
    refine hK1 _ _ ?_
    refine awp_prune [1, 2] ?_
    simp only [prune, List.map_cons, List.map_nil, Go.AM.look, Nat.reduceEqDiff, reduceIte]
    refine awp_sd mixed rfl fun K hK => ?_
    simp -dsimp [g0, h0]
    refine callK_intro _ (c_rline p r ro) (by simp) ?_
    simp -dsimp [g0, h0]
    refine hK _ _ _ (by decide +kernel) ?_; clear hK K
    exact awp_ret (by simp)

theorem c_tLength (p : Plan) (r : Int) (h : validB p = true) (h0 : 0 ≤ r) (h1 : r < p.Rails.length) : PureCall Try.prog 7 [p.av, I r] (.tup [I (p.len r), I 0]) := by
  have hin : inr r 0 (p.Rails.length - 1) = true := inr_iff.2 (by omega)
  have hg : (lensA p p.Rails.length)[r.toNat]? = some [I (p.len r)] := by rw [lensA_get (by omega)]; rw [show ((r.toNat : Nat) : Int) = r by omega]
  refine PureCall.of_body Try.func7 rfl (by decide) (by simp [Try.ntmps7]) ?_
  simp only [Try.ntmps7, Try.results7]
  refine awp_sr rfl fun K hK => ?_
  simp -dsimp
  refine hK _ _ ?_; clear hK K
  refine awp_sr rfl fun K hK => ?_
  simp -dsimp
  refine callK_intro _ (c_open_t p h) (by simp) ?_
  simp -dsimp
  refine hK _ _ ?_; clear hK K
  refine awp_seq_k fun K1 hK1 => ?_
  refine awp_sr rfl fun K hK => ?_
  simp -dsimp
  refine callK_may _ (fun hm => c_nhas p r false h) (by simp) ?_
  simp -dsimp
  refine hK _ _ ?_; clear hK K
  refine awp_cond rfl (fun hc0 => ?_) (fun hc0 => ?_)
  · skip
    skip
    simp [hin] at hc0
  · skip
    skip
    refine awp_skip ?_
    simp only [thenA, inBlockA, reduceIte, Nat.reduceEqDiff, eq_self]
    refine hK1 _ _ ?_
    refine awp_prune [1, 6] ?_
    simp only [prune, List.map_cons, List.map_nil, Go.AM.look, Nat.reduceEqDiff, reduceIte]
    refine awp_sr rfl fun K hK => ?_
    simp -dsimp [net, hg, h0]
    refine hK _ _ ?_; clear hK K
    exact awp_ret (by simp)
end Go.Tram
