/- Walks: what the track says of nodes and rails. -/
import Derived.Test.YtdabjdajemiagaaW5
namespace Go.Tram
open Go.AM Go.Proofs
set_option maxRecDepth 10000
set_option maxHeartbeats 4000000
set_option linter.unusedVariables false
set_option linter.unusedSimpArgs false

theorem c_span (a b : Spot) (ha : spotB a = true) (hb : spotB b = true) : PureCall Try.prog 46 [a.av, b.av] (I (far a b)) := by
  have hs := sqd_bd ha hb
  have ha' := spotB_iff.1 ha
  have hb' := spotB_iff.1 hb
  have w1 : IntKind.i64.wrap (a.X - b.X) = a.X - b.X := wrap_in (by omega) (by omega)
  have w2 : IntKind.i64.wrap (a.Y - b.Y) = a.Y - b.Y := wrap_in (by omega) (by omega)
  have h1 := mul_bd (a := a.X - b.X) (b := a.X - b.X) (A := 20000000) (B := 20000000) (by omega) (by omega) (by omega) (by omega)
  have h2 := mul_bd (a := a.Y - b.Y) (b := a.Y - b.Y) (A := 20000000) (B := 20000000) (by omega) (by omega) (by omega) (by omega)
  have w3 : IntKind.i64.wrap ((a.X - b.X) * (a.X - b.X)) = (a.X - b.X) * (a.X - b.X) := wrap_in (by omega) (by omega)
  have w4 : IntKind.i64.wrap ((a.Y - b.Y) * (a.Y - b.Y)) = (a.Y - b.Y) * (a.Y - b.Y) := wrap_in (by omega) (by omega)
  have w5 : IntKind.i64.wrap ((a.X - b.X) * (a.X - b.X) + (a.Y - b.Y) * (a.Y - b.Y)) = sqd a b := wrap_in (by unfold sqd at hs; omega) (by unfold sqd at hs; omega)
  refine PureCall.of_body Try.func46 rfl (by decide) (by simp [Try.ntmps46]) ?_
  simp only [Try.ntmps46, Try.results46]
  refine awp_sr rfl fun K hK => ?_
  simp -dsimp [w1, w2, w3, w4, w5]
  refine hK _ _ ?_; clear hK K
  refine awp_sd mixed rfl fun K hK => ?_
  simp -dsimp [w1, w2, w3, w4, w5]
  refine hK _ _ _ (by decide +kernel) ?_; clear hK K
  refine awp_sr rfl fun K hK => ?_
  simp -dsimp [w1, w2, w3, w4, w5]
  refine callK_intro _ (c_troot _ hs.1 (by omega)) (by simp) ?_
  simp -dsimp [w1, w2, w3, w4, w5]
  refine hK _ _ ?_; clear hK K
  exact awp_ret (by simp [far])

theorem sizes_get {k : Int} (h1 : 1 ≤ k) (h6 : k ≤ 6) : (List.take 1 (List.drop k.toNat [I 0, I 1, I 2, I 4, I 3, I 3, I 3])).head?.getD AV.any = I (endsN k) := by
  have : k = 1 ∨ k = 2 ∨ k = 3 ∨ k = 4 ∨ k = 5 ∨ k = 6 := by omega
  rcases this with rfl | rfl | rfl | rfl | rfl | rfl <;> rfl

theorem c_tnode (n : Node) : PureCall Try.prog 32 [n.av] (Bo (nodeB n)) := by
  refine PureCall.of_body Try.func32 rfl (by decide) (by simp [Try.ntmps32]) ?_
  simp only [Try.ntmps32, Try.results32]
  refine awp_sr rfl fun K hK => ?_
  simp -dsimp
  refine hK _ _ ?_; clear hK K
  refine awp_seq_k fun K1 hK1 => ?_
  refine awp_sd mixed rfl fun K hK => ?_
  simp -dsimp
  refine callK_may _ (fun hm => c_tspot n.Spot) (by simp) ?_
  simp -dsimp
  refine callK_may _ (fun hm => c_sizes) (by simp) ?_
  simp -dsimp
  refine ⟨by omega, valK_intro (I (endsN n.Kind)) (fun hm => by simp at hm; exact sizes_get (by omega) (by omega)) ?_⟩
  simp
  refine hK _ _ _ (by decide +kernel) ?_; clear hK K
  refine awp_cond rfl (fun hc0 => ?_) (fun hc0 => ?_)
  · skip
    try simp at hc0
    refine awp_sr rfl fun K hK => ?_
    simp -dsimp
    refine hK _ _ ?_; clear hK K
    refine awp_ret ?_
    have : nodeB n = false := by
      cases hq : nodeB n with
      | false => rfl
      | true =>
        simp [nodeB] at hq
        have hk : 1 ≤ n.Kind ∧ n.Kind ≤ 6 := by have := hq.2.2.1; unfold endsN at this; repeat (split at this; omega); omega
        simp [hq] at hc0
        omega
    simp [this]
  · skip
    try simp at hc0
    have he : endsN n.Kind ≠ 0 := by have := hc0.1.1; unfold endsN; repeat (split; omega); omega
    refine awp_skip ?_
    simp only [thenA, inBlockA, reduceIte, Nat.reduceEqDiff, eq_self]
    refine hK1 _ _ ?_
    refine awp_prune [1] ?_
    simp only [prune, List.map_cons, List.map_nil, Go.AM.look, Nat.reduceEqDiff, reduceIte]
    refine awp_seq_k fun K2 hK2 => ?_
    refine awp_sr rfl fun K hK => ?_
    simp -dsimp
    refine hK _ _ ?_; clear hK K
    refine awp_cond rfl (fun hc1 => ?_) (fun hc1 => ?_)
    · skip
      try simp at hc1
      refine awp_sr rfl fun K hK => ?_
      simp -dsimp
      refine callK_intro _ (c_within _ _ _) (by simp) ?_
      simp -dsimp
      refine hK _ _ ?_; clear hK K
      refine awp_ret ?_
      simp [nodeB, hc0, hc1, he]
    · skip
      try simp at hc1
      refine awp_skip ?_
      simp only [thenA, inBlockA, reduceIte, Nat.reduceEqDiff, eq_self]
      refine hK2 _ _ ?_
      refine awp_prune [1] ?_
      simp only [prune, List.map_cons, List.map_nil, Go.AM.look, Nat.reduceEqDiff, reduceIte]
      refine awp_sr rfl fun K hK => ?_
      simp -dsimp
      refine hK _ _ ?_; clear hK K
      refine awp_ret ?_
      simp [nodeB, hc0, hc1, he]
      exact Bool.eq_iff_iff.2 (by simp)

theorem railA_iff {p : Plan} {r : Rail} (h : railA p r = true) : (0 ≤ r.From ∧ r.From < p.Nodes.length) ∧ (0 ≤ r.To ∧ r.To < p.Nodes.length) ∧ r.Shape.length ≤ 30 := by
  simp only [railA, Bool.and_eq_true, inr_iff, decide_eq_true_eq] at h
  omega

theorem railB_line {p : Plan} {r : Rail} (hA : p.Nodes.all nodeB = true) : railB p r = (railA p r && ((lineOf p r).all spotB && (List.range (r.Shape.length + 1)).all (segB (lineOf p r)))) := by
  cases h : railA p r with
  | false => simp [railB, h]
  | true =>
    obtain ⟨h1, h2, _⟩ := railA_iff h
    have sF := nodeB_spot (node_ends hA (i := r.From) h1.1 h1.2)
    have sT := nodeB_spot (node_ends hA (i := r.To) h2.1 h2.2)
    simp only [railB, h, lineOf, List.all_cons, List.all_append, List.all_nil, sF, sT, Bool.true_and, Bool.and_true]

theorem lineOf_len (p : Plan) (r : Rail) : (lineOf p r).length = r.Shape.length + 2 := by simp [lineOf]

theorem c_trail (p : Plan) (r : Rail) (hA : p.Nodes.all nodeB = true) (hN : p.Nodes.length ≤ 300) : PureCall Try.prog 35 [p.av, r.av] (Bo (railB p r)) := by
  have wn : IntKind.i64.wrap ((p.Nodes.length : Int) - 1) = (p.Nodes.length : Int) - 1 := wrap_in (by omega) (by omega)
  have hl := lineOf_len p r
  refine PureCall.of_body Try.func35 rfl (by decide) (by simp [Try.ntmps35]) ?_
  simp only [Try.ntmps35, Try.results35]
  refine awp_sr rfl fun K hK => ?_
  simp -dsimp
  refine hK _ _ ?_; clear hK K
  refine awp_seq_k fun K1 hK1 => ?_
  refine awp_sr rfl fun K hK => ?_
  simp -dsimp [wn]
  refine callK_intro _ (c_within _ _ _) (by simp) ?_
  simp -dsimp [wn]
  refine callK_may _ (fun hm => c_within _ _ _) (by simp) ?_
  simp -dsimp [wn]
  refine callK_may _ (fun hm => c_within _ _ _) (by simp) ?_
  simp -dsimp [wn]
  refine callK_may _ (fun hm => c_within _ _ _) (by simp) ?_
  simp -dsimp [wn]
  refine hK _ _ ?_; clear hK K
  refine awp_cond rfl (fun hc0 => ?_) (fun hc0 => ?_)
  · skip
    try simp at hc0
    refine awp_sr rfl fun K hK => ?_
    simp -dsimp
    refine hK _ _ ?_; clear hK K
    refine awp_ret ?_
    have hra : railA p r = false := by
      cases hq : railA p r with
      | false => rfl
      | true => simp [railA] at hq; simp [hq, wn] at hc0; omega
    simp [railB, hra]
  · skip
    try simp at hc0
    have hra : railA p r = true := by simp [railA, hc0]; omega
    obtain ⟨hF, hT, hsl⟩ := railA_iff hra
    refine awp_skip ?_
    simp only [thenA, inBlockA, reduceIte, Nat.reduceEqDiff, eq_self]
    refine hK1 _ _ ?_
    refine awp_prune [2, 3] ?_
    simp only [prune, List.map_cons, List.map_nil, Go.AM.look, Nat.reduceEqDiff, reduceIte]
    refine awp_sr rfl fun K hK => ?_
    simp -dsimp
    refine callK_intro _ (c_tline p r hF hT (by omega)) (by simp) ?_
    simp -dsimp
    refine hK _ _ ?_; clear hK K
    refine awp_seq_k fun K2 hK2 => ?_
    refine awp_sr rfl fun K hK => ?_
    simp -dsimp
    refine hK _ _ ?_; clear hK K
    refine awp_block ?_
    refine awp_prune [5, 47, 48, 49] ?_
    simp only [prune, List.map_cons, List.map_nil, Go.AM.look, Nat.reduceEqDiff, reduceIte]
    refine awp_loop_l [5, 47, 48] (α := Nat) (fun k => [(49, I k)]) (fun _ => [some (.els 2 [p.cells]), some (.els 5 [r.cells])]) (fun k => k ≤ (lineOf p r).length ∧ ∀ m, m < k → spotB (nth (lineOf p r) m) = true ∧ (0 < m → segB (lineOf p r) (m - 1) = true)) (fun k => (lineOf p r).length - k) 0 ?_ ?_ ?_
    · exact ⟨by omega, fun m hm => by omega⟩
    · exact sub_same (by simp)
    rintro k ⟨k1, k2⟩
    simp only [List.cons_append, List.nil_append, prune, List.map_cons, List.map_nil, Go.AM.look, Nat.reduceEqDiff, reduceIte]
    refine awp_sr rfl fun K hK => ?_
    simp -dsimp
    refine hK _ _ ?_; clear hK K
    refine awp_seq_k fun K3 hK3 => ?_
    refine awp_cond rfl (fun hc1 => ?_) (fun hc1 => ?_)
    · skip
      try simp at hc1
      have g0 := nth_get (l := lineOf p r) (k := k) (by omega)
      have wk : IntKind.i64.wrap ((k : Int) + 1) = (k : Int) + 1 := wrap_in (by omega) (by omega)
      have wm : 0 < k → IntKind.i64.wrap ((k : Int) - 1) = ((k - 1 : Nat) : Int) := fun h => by rw [wrap_in (by omega) (by omega)]; omega
      refine awp_skip ?_
      simp only [thenA, inBlockA, reduceIte, Nat.reduceEqDiff, eq_self]
      refine hK3 _ _ ?_
      refine awp_prune [5, 47, 48, 49] ?_
      simp only [prune, List.map_cons, List.map_nil, Go.AM.look, Nat.reduceEqDiff, reduceIte]
      refine awp_seq_k fun K4 hK4 => ?_
      refine awp_block ?_
      refine awp_sr rfl fun K hK => ?_
      simp -dsimp [g0]
      refine hK _ _ ?_; clear hK K
      refine awp_sd mixed rfl fun K hK => ?_
      simp -dsimp
      refine callK_intro _ (c_tspot (nth (lineOf p r) k)) (by simp) ?_
      simp -dsimp
      refine ⟨fun _ h => by rw [wm h]; omega, idxK_intro (Spot.cells (nth (lineOf p r) (k - 1))) (fun hm => by simp at hm; rw [wm hm.2]; simp [nth_get (l := lineOf p r) (k := k - 1) (by omega)]) ?_⟩
      simp
      refine callK_may _ (fun hm => c_span (nth (lineOf p r) (k - 1)) (nth (lineOf p r) k) (by simp at hm; exact (k2 (k - 1) (by omega)).1) (by simp at hm; exact hm.1)) (by simp) ?_
      simp -dsimp
      refine callK_may _ (fun hm => c_within _ _ _) (by simp) ?_
      simp -dsimp
      refine hK _ _ _ (by decide +kernel) ?_; clear hK K
      refine awp_cond rfl (fun hc2 => ?_) (fun hc2 => ?_)
      · skip
        try simp at hc2
        have hB : railB p r = false := by
          rw [railB_line hA]
          by_cases hs : spotB (nth (lineOf p r) k) = true
          · have h3 : 0 < k ∧ inr (far (nth (lineOf p r) (k - 1)) (nth (lineOf p r) k)) 1 1000000 = false := by simp [hs] at hc2; exact hc2
            have hseg : segB (lineOf p r) (k - 1) = false := by simp only [segB, segLen]; rw [show k - 1 + 1 = k by omega]; exact h3.2
            have : (List.range (r.Shape.length + 1)).all (segB (lineOf p r)) = false := by rw [List.all_eq_false]; exact ⟨k - 1, by simp; omega, by simp [hseg]⟩
            simp [this]
          · have : (lineOf p r).all spotB = false := all_ff g0 (by simpa using hs)
            simp only [this, Bool.false_and, Bool.and_false]
        refine awp_sr rfl fun K hK => ?_
        simp -dsimp
        refine hK _ _ ?_; clear hK K
        exact awp_ret (by simp [hB])
      · skip
        try simp at hc2
        refine awp_skip ?_
        simp only [thenA, inBlockA, reduceIte, Nat.reduceEqDiff, eq_self]
        refine hK4 _ _ ?_
        refine awp_prune [5, 47, 48, 49] ?_
        simp only [prune, List.map_cons, List.map_nil, Go.AM.look, Nat.reduceEqDiff, reduceIte]
        refine awp_r rfl fun K hK => ?_
        simp -dsimp [wk]
        refine hK _ _ ?_; clear hK K
        simp only [thenA, inBlockA, reduceIte, Nat.reduceEqDiff, eq_self]
        refine ⟨k + 1, ⟨by omega, fun m hm => ?_⟩, by omega, sub_rb [some 0, some 1] rfl (by simp) (by simp [Function.comp_def])⟩
        by_cases hmk : m < k
        · exact k2 m hmk
        · obtain rfl : m = k := by omega
          refine ⟨hc2.1, fun h => ?_⟩
          simp only [segB, segLen]
          rw [show m - 1 + 1 = m by omega]
          exact hc2.2 h
    · skip
      try simp at hc1
      have hB : railB p r = true := by
        rw [railB_line hA, hra]
        simp only [Bool.true_and, Bool.and_eq_true, List.all_eq_true, List.mem_range]
        refine ⟨fun s hs => ?_, fun m hm => ?_⟩
        · obtain ⟨m, hm⟩ := List.getElem?_of_mem hs
          have hml := (List.getElem?_eq_some_iff.1 hm).1
          have := (k2 m (by omega)).1
          rw [nth_get hml] at hm
          simp only [Option.some.injEq] at hm
          rwa [hm] at this
        · exact (k2 (m + 1) (by omega)).2 (by omega)
      refine awp_exit ?_
      simp only [thenA, inBlockA, reduceIte, Nat.reduceEqDiff, eq_self]
      refine hK2 _ _ ?_
      refine awp_prune [] ?_
      simp only [prune, List.map_cons, List.map_nil, Go.AM.look, Nat.reduceEqDiff, reduceIte]
      refine awp_sr rfl fun K hK => ?_
      simp -dsimp
      refine hK _ _ ?_; clear hK K
      exact awp_ret (by simp [hB])
end Go.Tram
