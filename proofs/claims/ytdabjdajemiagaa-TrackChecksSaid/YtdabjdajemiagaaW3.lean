/- Walks: the specification's validity of a plan. -/
import Derived.Test.YtdabjdajemiagaaW2
namespace Go.Tram
open Go.AM Go.Proofs
set_option maxRecDepth 10000
set_option maxHeartbeats 4000000
set_option linter.unusedVariables false
set_option linter.unusedSimpArgs false

theorem wrap_cast {k : Nat} {j : Int} (h1 : -9223372036854775808 ≤ j) (h2 : j ≤ 9223372036854775807) (h : j = k) : IntKind.i64.wrap j = (k : Int) := by rw [wrap_in h1 h2, h]

theorem c_Valid (p : Plan) : PureCall Try.prog 6 [p.av] (Bo (validB p)) := by
  refine PureCall.of_body Try.func6 rfl (by decide) (by simp [Try.ntmps6]) ?_
  simp only [Try.ntmps6, Try.results6]
  refine awp_sr rfl fun K hK => ?_
  simp -dsimp
  refine hK _ _ ?_; clear hK K
  refine awp_seq_k fun K1 hK1 => ?_
  refine awp_sr rfl fun K hK => ?_
  simp -dsimp
  refine callK_intro _ (c_in _ _ _) (by simp) ?_
  simp -dsimp
  refine callK_may _ (fun hm => c_in _ _ _) (by simp) ?_
  simp -dsimp
  refine hK _ _ ?_; clear hK K
  refine awp_cond rfl (fun hc0 => ?_) (fun hc0 => ?_)
  · skip
    try simp at hc0
    refine awp_sr rfl fun K hK => ?_
    simp -dsimp
    refine hK _ _ ?_; clear hK K
    refine awp_ret ?_
    have : validB p = false := by simp [validB, validA]; intro h1 h2; rcases hc0 with hc0 | hc0 <;> simp_all
    simp [this]
  · skip
    try simp at hc0
    have hN := inr_iff.1 hc0.1
    have hR := inr_iff.1 hc0.2
    refine awp_skip ?_
    simp only [thenA, inBlockA, reduceIte, Nat.reduceEqDiff, eq_self]
    refine hK1 _ _ ?_
    refine awp_prune [1] ?_
    simp only [prune, List.map_cons, List.map_nil, Go.AM.look, Nat.reduceEqDiff, reduceIte]
    refine awp_seq_k fun K2 hK2 => ?_
    refine awp_sr rfl fun K hK => ?_
    simp -dsimp
    refine hK _ _ ?_; clear hK K
    refine awp_block ?_
    refine awp_prune [1, 3] ?_
    simp only [prune, List.map_cons, List.map_nil, Go.AM.look, Nat.reduceEqDiff, reduceIte]
    refine awp_loop_l [1] (α := Nat) (fun k => [(3, I k)]) (fun _ => [some (.els 2 [p.cells])]) (fun k => k ≤ p.Nodes.length ∧ (p.Nodes.take k).all nodeB = true) (fun k => p.Nodes.length - k) 0 ?_ ?_ ?_
    · simp
    · exact sub_same (by simp)
    rintro k ⟨k1, k2⟩
    simp only [List.cons_append, List.nil_append, prune, List.map_cons, List.map_nil, Go.AM.look, Nat.reduceEqDiff, reduceIte]
    refine awp_seq_k fun K3 hK3 => ?_
    refine awp_sr rfl fun K hK => ?_
    simp -dsimp
    refine hK _ _ ?_; clear hK K
    refine awp_cond rfl (fun hc1 => ?_) (fun hc1 => ?_)
    · skip
      try simp at hc1
      have g0 := p.node_get (i := (k : Int)) (by omega) (by omega)
      simp only [Int.toNat_natCast] at g0
      have wi : IntKind.i64.wrap ((k : Int) + 1) = (k : Int) + 1 := wrap_in (by omega) (by omega)
      refine awp_skip ?_
      simp only [thenA, inBlockA, reduceIte, Nat.reduceEqDiff, eq_self]
      refine hK3 _ _ ?_
      refine awp_prune [1, 3] ?_
      simp only [prune, List.map_cons, List.map_nil, Go.AM.look, Nat.reduceEqDiff, reduceIte]
      refine awp_seq_k fun K4 hK4 => ?_
      refine awp_block ?_
      refine awp_sr rfl fun K hK => ?_
      simp -dsimp [g0]
      refine hK _ _ ?_; clear hK K
      refine awp_sr rfl fun K hK => ?_
      simp -dsimp
      refine hK _ _ ?_; clear hK K
      refine awp_seq_k fun K5 hK5 => ?_
      refine awp_sr rfl fun K hK => ?_
      simp -dsimp
      refine hK _ _ ?_; clear hK K
      refine awp_cond rfl (fun hc2 => ?_) (fun hc2 => ?_)
      · skip
        try simp at hc2
        refine awp_r rfl fun K hK => ?_
        simp -dsimp
        refine callK_intro _ (c_in _ _ _) (by simp) ?_
        simp -dsimp
        refine hK _ _ ?_; clear hK K
        simp only [thenA, inBlockA, reduceIte, Nat.reduceEqDiff, eq_self]
        refine hK5 _ _ ?_
        refine awp_prune [1, 3, 4, 5] ?_
        simp only [prune, List.map_cons, List.map_nil, Go.AM.look, Nat.reduceEqDiff, reduceIte]
        refine awp_sd mixed rfl fun K hK => ?_
        simp -dsimp
        refine callK_intro _ (c_spot (p.node k).Spot) (by simp) ?_
        simp -dsimp
        refine callK_may _ (fun hm => c_ends (p.node k).Kind) (by simp) ?_
        simp -dsimp
        refine callK_may _ (fun hm => c_ends (p.node k).Kind) (by simp) ?_
        simp -dsimp
        refine hK _ _ _ (by decide +kernel) ?_; clear hK K
        refine awp_cond rfl (fun hc3 => ?_) (fun hc3 => ?_)
        · skip
          try simp at hc3
          refine awp_sr rfl fun K hK => ?_
          simp -dsimp
          refine hK _ _ ?_; clear hK K
          refine awp_ret ?_
          have : nodeB (p.node k) = false := by simp [nodeB, hc2]; intro h1 h2 h3; simp_all
          simp [valid_ff_node g0 this]
        · skip
          try simp at hc3
          refine awp_skip ?_
          simp only [thenA, inBlockA, reduceIte, Nat.reduceEqDiff, eq_self]
          refine hK4 _ _ ?_
          refine awp_prune [1, 3] ?_
          simp only [prune, List.map_cons, List.map_nil, Go.AM.look, Nat.reduceEqDiff, reduceIte]
          refine awp_r rfl fun K hK => ?_
          simp -dsimp [wi]
          refine hK _ _ ?_; clear hK K
          simp only [thenA, inBlockA, reduceIte, Nat.reduceEqDiff, eq_self]
          refine ⟨k + 1, ⟨by omega, ?_⟩, by omega, sub_rb [some 0] rfl (by simp) (by simp)⟩
          rw [take_all' g0, k2]; simp [nodeB, hc2, hc3]
      · skip
        try simp at hc2
        refine awp_skip ?_
        simp only [thenA, inBlockA, reduceIte, Nat.reduceEqDiff, eq_self]
        refine hK5 _ _ ?_
        refine awp_prune [1, 3, 4, 5] ?_
        simp only [prune, List.map_cons, List.map_nil, Go.AM.look, Nat.reduceEqDiff, reduceIte]
        refine awp_sd mixed rfl fun K hK => ?_
        simp -dsimp
        refine callK_intro _ (c_spot (p.node k).Spot) (by simp) ?_
        simp -dsimp
        refine callK_may _ (fun hm => c_ends (p.node k).Kind) (by simp) ?_
        simp -dsimp
        refine callK_may _ (fun hm => c_ends (p.node k).Kind) (by simp) ?_
        simp -dsimp
        refine hK _ _ _ (by decide +kernel) ?_; clear hK K
        refine awp_cond rfl (fun hc3 => ?_) (fun hc3 => ?_)
        · skip
          try simp at hc3
          refine awp_sr rfl fun K hK => ?_
          simp -dsimp
          refine hK _ _ ?_; clear hK K
          refine awp_ret ?_
          have : nodeB (p.node k) = false := by simp [nodeB, hc2]; intro h1 h2 h3; simp_all
          simp [valid_ff_node g0 this]
        · skip
          try simp at hc3
          refine awp_skip ?_
          simp only [thenA, inBlockA, reduceIte, Nat.reduceEqDiff, eq_self]
          refine hK4 _ _ ?_
          refine awp_prune [1, 3] ?_
          simp only [prune, List.map_cons, List.map_nil, Go.AM.look, Nat.reduceEqDiff, reduceIte]
          refine awp_r rfl fun K hK => ?_
          simp -dsimp [wi]
          refine hK _ _ ?_; clear hK K
          simp only [thenA, inBlockA, reduceIte, Nat.reduceEqDiff, eq_self]
          refine ⟨k + 1, ⟨by omega, ?_⟩, by omega, sub_rb [some 0] rfl (by simp) (by simp)⟩
          rw [take_all' g0, k2]; simp [nodeB, hc2, hc3]
    · skip
      try simp at hc1
      have hA := all_of_take (by omega) k2
      refine awp_exit ?_
      simp only [thenA, inBlockA, reduceIte, Nat.reduceEqDiff, eq_self]
      refine hK2 _ _ ?_
      refine awp_prune [1] ?_
      simp only [prune, List.map_cons, List.map_nil, Go.AM.look, Nat.reduceEqDiff, reduceIte]
      refine awp_seq_k fun K6 hK6 => ?_
      refine awp_sr rfl fun K hK => ?_
      simp -dsimp
      refine hK _ _ ?_; clear hK K
      refine awp_block ?_
      refine awp_prune [1, 6] ?_
      simp only [prune, List.map_cons, List.map_nil, Go.AM.look, Nat.reduceEqDiff, reduceIte]
      refine awp_loop_l [1] (α := Nat) (fun k => [(6, I k)]) (fun _ => [some (.els 2 [p.cells])]) (fun k => k ≤ p.Rails.length ∧ (p.Rails.take k).all (railB p) = true) (fun k => p.Rails.length - k) 0 ?_ ?_ ?_
      · simp
      · exact sub_same (by simp)
      rintro u ⟨u1, u2⟩
      simp only [List.cons_append, List.nil_append, prune, List.map_cons, List.map_nil, Go.AM.look, Nat.reduceEqDiff, reduceIte]
      refine awp_seq_k fun K7 hK7 => ?_
      refine awp_sr rfl fun K hK => ?_
      simp -dsimp
      refine hK _ _ ?_; clear hK K
      refine awp_cond rfl (fun hc4 => ?_) (fun hc4 => ?_)
      · skip
        try simp at hc4
        have r0 := p.rail_get (i := (u : Int)) (by omega) (by omega)
        simp only [Int.toNat_natCast] at r0
        have wu : IntKind.i64.wrap ((u : Int) + 1) = (u : Int) + 1 := wrap_in (by omega) (by omega)
        have wn : IntKind.i64.wrap ((p.Nodes.length : Int) - 1) = (p.Nodes.length : Int) - 1 := wrap_in (by omega) (by omega)
        refine awp_skip ?_
        simp only [thenA, inBlockA, reduceIte, Nat.reduceEqDiff, eq_self]
        refine hK7 _ _ ?_
        refine awp_prune [1, 6] ?_
        simp only [prune, List.map_cons, List.map_nil, Go.AM.look, Nat.reduceEqDiff, reduceIte]
        refine awp_seq_k fun K8 hK8 => ?_
        refine awp_block ?_
        refine awp_sr rfl fun K hK => ?_
        simp -dsimp [r0]
        refine hK _ _ ?_; clear hK K
        refine awp_seq_k fun K9 hK9 => ?_
        refine awp_sr rfl fun K hK => ?_
        simp -dsimp [wn]
        refine callK_intro _ (c_in _ _ _) (by simp) ?_
        simp -dsimp [wn]
        refine callK_may _ (fun hm => c_in _ _ _) (by simp) ?_
        simp -dsimp [wn]
        refine callK_may _ (fun hm => c_in _ _ _) (by simp) ?_
        simp -dsimp [wn]
        refine callK_may _ (fun hm => c_in _ _ _) (by simp) ?_
        simp -dsimp [wn]
        refine hK _ _ ?_; clear hK K
        refine awp_cond rfl (fun hc5 => ?_) (fun hc5 => ?_)
        · skip
          try simp at hc5
          have hra : railA p (p.rail u) = false := by
            cases hq : railA p (p.rail u) with
            | false => rfl
            | true => simp [railA] at hq; simp [hq] at hc5; omega
          refine awp_sr rfl fun K hK => ?_
          simp -dsimp
          refine hK _ _ ?_; clear hK K
          exact awp_ret (by simp [valid_ff_rail r0 (by simp [railB, hra] : railB p (p.rail u) = false)])
        · skip
          try simp at hc5
          have hra : railA p (p.rail u) = true := by simp [railA, hc5]; omega
          have hF := inr_iff.1 hc5.1.1.1.1
          have hT := inr_iff.1 hc5.1.1.1.2
          have hlen : (p.rail u).Shape.length ≤ 30 := by omega
          have sF := nodeB_spot (node_ends hA (i := (p.rail u).From) (by omega) (by omega))
          have sT := nodeB_spot (node_ends hA (i := (p.rail u).To) (by omega) (by omega))
          refine awp_skip ?_
          simp only [thenA, inBlockA, reduceIte, Nat.reduceEqDiff, eq_self]
          refine hK9 _ _ ?_
          refine awp_prune [1, 6, 7] ?_
          simp only [prune, List.map_cons, List.map_nil, Go.AM.look, Nat.reduceEqDiff, reduceIte]
          refine awp_seq_k fun K10 hK10 => ?_
          refine awp_sr rfl fun K hK => ?_
          simp -dsimp
          refine hK _ _ ?_; clear hK K
          refine awp_block ?_
          refine awp_prune [1, 6, 7, 8] ?_
          simp only [prune, List.map_cons, List.map_nil, Go.AM.look, Nat.reduceEqDiff, reduceIte]
          refine awp_loop_l [1, 6, 7] (α := Nat) (fun j => [(8, I j)]) (fun _ => [some (.els 2 [p.cells]), some (.els 5 [(p.rail u).cells])]) (fun j => j ≤ (p.rail u).Shape.length ∧ ((p.rail u).Shape.take j).all spotB = true) (fun j => (p.rail u).Shape.length - j) 0 ?_ ?_ ?_
          · simp
          · exact sub_same (by simp)
          rintro j ⟨j1, j2⟩
          simp only [List.cons_append, List.nil_append, prune, List.map_cons, List.map_nil, Go.AM.look, Nat.reduceEqDiff, reduceIte]
          refine awp_seq_k fun K11 hK11 => ?_
          refine awp_sr rfl fun K hK => ?_
          simp -dsimp
          refine hK _ _ ?_; clear hK K
          refine awp_cond rfl (fun hc6 => ?_) (fun hc6 => ?_)
          · skip
            try simp at hc6
            have s0 : (p.rail u).Shape[j]? = some (nth (p.rail u).Shape j) := nth_get hc6
            have wj : IntKind.i64.wrap ((j : Int) + 1) = (j : Int) + 1 := wrap_in (by omega) (by omega)
            refine awp_skip ?_
            simp only [thenA, inBlockA, reduceIte, Nat.reduceEqDiff, eq_self]
            refine hK11 _ _ ?_
            refine awp_prune [1, 6, 7, 8] ?_
            simp only [prune, List.map_cons, List.map_nil, Go.AM.look, Nat.reduceEqDiff, reduceIte]
            refine awp_seq_k fun K12 hK12 => ?_
            refine awp_block ?_
            refine awp_sr rfl fun K hK => ?_
            simp -dsimp [s0]
            refine callK_intro _ (c_spot (nth (p.rail u).Shape j)) (by simp) ?_
            simp -dsimp [s0]
            refine hK _ _ ?_; clear hK K
            refine awp_cond rfl (fun hc7 => ?_) (fun hc7 => ?_)
            · skip
              try simp at hc7
              refine awp_sr rfl fun K hK => ?_
              simp -dsimp
              refine hK _ _ ?_; clear hK K
              exact awp_ret (by simp [valid_ff_rail r0 (by simp [railB, all_ff s0 hc7] : railB p (p.rail u) = false)])
            · skip
              try simp at hc7
              refine awp_skip ?_
              simp only [thenA, inBlockA, reduceIte, Nat.reduceEqDiff, eq_self]
              refine hK12 _ _ ?_
              refine awp_prune [1, 6, 7, 8] ?_
              simp only [prune, List.map_cons, List.map_nil, Go.AM.look, Nat.reduceEqDiff, reduceIte]
              refine awp_r rfl fun K hK => ?_
              simp -dsimp [wj]
              refine hK _ _ ?_; clear hK K
              simp only [thenA, inBlockA, reduceIte, Nat.reduceEqDiff, eq_self]
              refine ⟨j + 1, ⟨by omega, ?_⟩, by omega, sub_same (by simp)⟩
              rw [take_all' s0, j2]; simp [hc7]
          · skip
            try simp at hc6
            have hS := all_of_take (by omega) j2
            have hls : (p.line u).all spotB = true := line_spots sF sT hS
            have hll := line_len p u
            have hb : ∀ m, m < (p.line u).length → spotB (nth (p.line u) m) = true := fun m hm => List.all_eq_true.1 hls _ (List.mem_of_getElem? (nth_get hm))
            refine awp_exit ?_
            simp only [thenA, inBlockA, reduceIte, Nat.reduceEqDiff, eq_self]
            refine hK10 _ _ ?_
            refine awp_prune [1, 6] ?_
            simp only [prune, List.map_cons, List.map_nil, Go.AM.look, Nat.reduceEqDiff, reduceIte]
            refine awp_sr rfl fun K hK => ?_
            simp -dsimp
            refine callK_intro _ (c_Line p u (by omega) (by omega) ⟨by omega, by omega⟩ ⟨by omega, by omega⟩ (by omega)) (by simp) ?_
            simp -dsimp
            refine hK _ _ ?_; clear hK K
            refine awp_sr rfl fun K hK => ?_
            simp -dsimp
            refine hK _ _ ?_; clear hK K
            refine awp_block ?_
            refine awp_prune [1, 6, 9, 10] ?_
            simp only [prune, List.map_cons, List.map_nil, Go.AM.look, Nat.reduceEqDiff, reduceIte]
            refine awp_loop_l [1, 6, 9] (α := Nat) (fun j => [(10, I j)]) (fun _ => [some (.els 2 [p.cells]), some (.els 5 [(p.rail u).cells])]) (fun j => 1 ≤ j ∧ j ≤ (p.line u).length ∧ ∀ m, m + 1 < j → segB (p.line u) m = true) (fun j => (p.line u).length - j) 1 ?_ ?_ ?_
            · refine ⟨by omega, by omega, fun m hm => by omega⟩
            · exact sub_same (by simp)
            rintro j ⟨j1, j2, j3⟩
            simp only [List.cons_append, List.nil_append, prune, List.map_cons, List.map_nil, Go.AM.look, Nat.reduceEqDiff, reduceIte]
            refine awp_seq_k fun K13 hK13 => ?_
            refine awp_sr rfl fun K hK => ?_
            simp -dsimp
            refine hK _ _ ?_; clear hK K
            refine awp_cond rfl (fun hc8 => ?_) (fun hc8 => ?_)
            · skip
              try simp at hc8
              have wk : IntKind.i64.wrap ((j : Int) - 1) = ((j - 1 : Nat) : Int) := by rw [wrap_in (by omega) (by omega)]; omega
              have wj : IntKind.i64.wrap ((j : Int) + 1) = (j : Int) + 1 := wrap_in (by omega) (by omega)
              have l1 := nth_get (l := p.line u) (k := j - 1) (by omega)
              have l2 := nth_get (l := p.line u) (k := j) (by omega)
              refine awp_skip ?_
              simp only [thenA, inBlockA, reduceIte, Nat.reduceEqDiff, eq_self]
              refine hK13 _ _ ?_
              refine awp_prune [1, 6, 9, 10] ?_
              simp only [prune, List.map_cons, List.map_nil, Go.AM.look, Nat.reduceEqDiff, reduceIte]
              refine awp_seq_k fun K14 hK14 => ?_
              refine awp_block ?_
              refine awp_sd mixed rfl fun K hK => ?_
              simp -dsimp [wk, l1, l2]
              refine callK_intro _ (c_Far (nth (p.line u) (j - 1)) (nth (p.line u) j) (hb _ (by omega)) (hb _ (by omega))) (by simp) ?_
              simp -dsimp [wk, l1, l2]
              refine callK_intro _ (c_in _ _ _) (by simp) ?_
              simp -dsimp [wk, l1, l2]
              refine hK _ _ _ (by decide +kernel) ?_; clear hK K
              refine awp_cond rfl (fun hc9 => ?_) (fun hc9 => ?_)
              · skip
                simp at hc9
                have hseg : segB (p.line u) (j - 1) = inr (far (nth (p.line u) (j - 1)) (nth (p.line u) j)) 1 1000000 := by simp only [segB, segLen]; rw [show j - 1 + 1 = j by omega]
                have hfs : railB p (p.rail u) = false := by
                  have : (List.range ((p.rail u).Shape.length + 1)).all (segB (lineOf p (p.rail u))) = false := by rw [List.all_eq_false]; exact ⟨j - 1, by simp; omega, by rw [show lineOf p (p.rail u) = p.line u from rfl, hseg]; simp [hc9]⟩
                  simp [railB, this]
                refine awp_sr rfl fun K hK => ?_
                simp -dsimp
                refine hK _ _ ?_; clear hK K
                exact awp_ret (by simp [valid_ff_rail r0 hfs])
              · skip
                simp at hc9
                have hseg : segB (p.line u) (j - 1) = inr (far (nth (p.line u) (j - 1)) (nth (p.line u) j)) 1 1000000 := by simp only [segB, segLen]; rw [show j - 1 + 1 = j by omega]
                refine awp_skip ?_
                simp only [thenA, inBlockA, reduceIte, Nat.reduceEqDiff, eq_self]
                refine hK14 _ _ ?_
                refine awp_prune [1, 6, 9, 10] ?_
                simp only [prune, List.map_cons, List.map_nil, Go.AM.look, Nat.reduceEqDiff, reduceIte]
                refine awp_r rfl fun K hK => ?_
                simp -dsimp [wj]
                refine hK _ _ ?_; clear hK K
                simp only [thenA, inBlockA, reduceIte, Nat.reduceEqDiff, eq_self]
                refine ⟨j + 1, ⟨by omega, by omega, fun m hm => ?_⟩, by omega, sub_same (by simp)⟩
                by_cases hmj : m + 1 < j
                · exact j3 m hmj
                · rw [show m = j - 1 by omega, hseg]; exact hc9
            · skip
              try simp at hc8
              refine awp_exit ?_
              simp only [thenA, inBlockA, reduceIte, Nat.reduceEqDiff, eq_self]
              refine hK8 _ _ ?_
              refine awp_prune [1, 6] ?_
              simp only [prune, List.map_cons, List.map_nil, Go.AM.look, Nat.reduceEqDiff, reduceIte]
              refine awp_r rfl fun K hK => ?_
              simp -dsimp [wu]
              refine hK _ _ ?_; clear hK K
              simp only [thenA, inBlockA, reduceIte, Nat.reduceEqDiff, eq_self]
              refine ⟨u + 1, ⟨by omega, ?_⟩, by omega, sub_rb [some 0] rfl (by simp) (by simp)⟩
              rw [take_all' r0, u2, railB, hra, hS]
              simp only [Bool.true_and]
              rw [List.all_eq_true]
              intro m hm
              simp only [List.mem_range] at hm
              exact j3 m (by omega)
      · skip
        try simp at hc4
        have hB := all_of_take (by omega) u2
        refine awp_exit ?_
        simp only [thenA, inBlockA, reduceIte, Nat.reduceEqDiff, eq_self]
        refine hK6 _ _ ?_
        refine awp_prune [1] ?_
        simp only [prune, List.map_cons, List.map_nil, Go.AM.look, Nat.reduceEqDiff, reduceIte]
        refine awp_sr rfl fun K hK => ?_
        simp -dsimp
        refine hK _ _ ?_; clear hK K
        refine awp_seq_k fun K15 hK15 => ?_
        refine awp_sr rfl fun K hK => ?_
        simp -dsimp
        refine hK _ _ ?_; clear hK K
        refine awp_block ?_
        refine awp_prune [1, 11, 12] ?_
        simp only [prune, List.map_cons, List.map_nil, Go.AM.look, Nat.reduceEqDiff, reduceIte]
        refine awp_loop_l [1] (α := Nat) (fun i => [(11, .row 1 0 (endsOf p i).length), (12, I i)]) (fun i => [some (.els 2 [p.cells]), some (.els 2 (eCells (endsOf p i)))]) (fun i => i ≤ p.Nodes.length ∧ (endsOf p i).all (endB p) = true ∧ ((endsOf p i).map (·.2)).Nodup) (fun i => p.Nodes.length - i) 0 ?_ ?_ ?_
        · simp [endsOf]
        · exact (sub_nil 11 2 (by simp)).trans (sub_same (by simp [endsOf]))
        rintro i ⟨i1, i2, i3⟩
        simp only [List.cons_append, List.nil_append, prune, List.map_cons, List.map_nil, Go.AM.look, Nat.reduceEqDiff, reduceIte]
        refine awp_seq_k fun K16 hK16 => ?_
        refine awp_sr rfl fun K hK => ?_
        simp -dsimp
        refine hK _ _ ?_; clear hK K
        refine awp_cond rfl (fun hc10 => ?_) (fun hc10 => ?_)
        · skip
          try simp at hc10
          have n0 := p.node_get (i := (i : Int)) (by omega) (by omega)
          simp only [Int.toNat_natCast] at n0
          have wi : IntKind.i64.wrap ((i : Int) + 1) = (i : Int) + 1 := wrap_in (by omega) (by omega)
          have wr : IntKind.i64.wrap ((p.Rails.length : Int) - 1) = (p.Rails.length : Int) - 1 := wrap_in (by omega) (by omega)
          have hle := nodeB_len (node_ends hA (i := (i : Int)) (by omega) (by omega))
          refine awp_skip ?_
          simp only [thenA, inBlockA, reduceIte, Nat.reduceEqDiff, eq_self]
          refine hK16 _ _ ?_
          refine awp_prune [1, 11, 12] ?_
          simp only [prune, List.map_cons, List.map_nil, Go.AM.look, Nat.reduceEqDiff, reduceIte]
          refine awp_seq_k fun K17 hK17 => ?_
          refine awp_block ?_
          refine awp_sr rfl fun K hK => ?_
          simp -dsimp
          refine hK _ _ ?_; clear hK K
          refine awp_block ?_
          refine awp_prune [1, 11, 12, 13] ?_
          simp only [prune, List.map_cons, List.map_nil, Go.AM.look, Nat.reduceEqDiff, reduceIte]
          refine awp_loop_l [1, 12] (α := Nat) (fun j => [(11, .row 1 0 (curE p i j).length), (13, I j)]) (fun j => [some (.els 2 [p.cells]), some (.els 2 (eCells (curE p i j)))]) (fun j => j ≤ (p.node i).Ends.length ∧ (curE p i j).all (endB p) = true ∧ ((curE p i j).map (·.2)).Nodup) (fun j => (p.node i).Ends.length - j) 0 ?_ ?_ ?_
          · rw [curE_zero]; exact ⟨by omega, i2, i3⟩
          · simp only [curE_zero]
            exact sub_same (by simp)
          rintro j ⟨j1, j2, j3⟩
          simp only [List.cons_append, List.nil_append, prune, List.map_cons, List.map_nil, Go.AM.look, Nat.reduceEqDiff, reduceIte]
          refine awp_seq_k fun K18 hK18 => ?_
          refine awp_sr rfl fun K hK => ?_
          simp -dsimp [n0]
          refine hK _ _ ?_; clear hK K
          refine awp_cond rfl (fun hc11 => ?_) (fun hc11 => ?_)
          · skip
            try simp at hc11
            obtain ⟨e, he⟩ : ∃ e, (p.node i).Ends[j]? = some e := ⟨_, List.getElem?_eq_getElem hc11⟩
            have hcl := curE_len hA (j := j) hc10
            have wj : IntKind.i64.wrap ((j : Int) + 1) = (j : Int) + 1 := wrap_in (by omega) (by omega)
            have f1 : Fits ((curE p i j).length + 1) 17 := fits_of (by omega) (by omega)
            have f2 : Fits ((curE p i j).length + 1) 25 := fits_of (by omega) (by omega)
            refine awp_skip ?_
            simp only [thenA, inBlockA, reduceIte, Nat.reduceEqDiff, eq_self]
            refine hK18 _ _ ?_
            refine awp_prune [1, 11, 12, 13] ?_
            simp only [prune, List.map_cons, List.map_nil, Go.AM.look, Nat.reduceEqDiff, reduceIte]
            refine awp_seq_k fun K19 hK19 => ?_
            refine awp_block ?_
            refine awp_sr rfl fun K hK => ?_
            simp -dsimp [n0, he]
            refine hK _ _ ?_; clear hK K
            refine awp_seq_k fun K20 hK20 => ?_
            refine awp_sr rfl fun K hK => ?_
            simp -dsimp [wr]
            refine callK_intro _ (c_in _ _ _) (by simp) ?_
            simp -dsimp [wr]
            refine callK_may _ (fun hm => c_at p e (by simp [inr_iff] at hm; omega) (by simp [inr_iff] at hm; omega)) (by simp) ?_
            simp -dsimp [wr]
            refine hK _ _ ?_; clear hK K
            refine awp_cond rfl (fun hc12 => ?_) (fun hc12 => ?_)
            · skip
              try simp at hc12
              have hef : endB p (i, e) = false := by
                cases hq : endB p (i, e) with
                | false => rfl
                | true => simp [endB] at hq; simp [hq] at hc12
              refine awp_sr rfl fun K hK => ?_
              simp -dsimp
              refine hK _ _ ?_; clear hK K
              exact awp_ret (by simp [valid_ff_end hc10 he hef])
            · skip
              try simp at hc12
              refine awp_skip ?_
              simp only [thenA, inBlockA, reduceIte, Nat.reduceEqDiff, eq_self]
              refine hK20 _ _ ?_
              refine awp_prune [1, 11, 12, 13, 14] ?_
              simp only [prune, List.map_cons, List.map_nil, Go.AM.look, Nat.reduceEqDiff, reduceIte]
              refine awp_seq_k fun K21 hK21 => ?_
              refine awp_sr rfl fun K hK => ?_
              simp -dsimp
              refine hK _ _ ?_; clear hK K
              refine awp_block ?_
              refine awp_prune [1, 11, 12, 13, 14, 15] ?_
              simp only [prune, List.map_cons, List.map_nil, Go.AM.look, Nat.reduceEqDiff, reduceIte]
              refine awp_loop_l [1, 11, 12, 13, 14] (α := Nat) (fun m => [(15, I m)]) (fun _ => [some (.els 2 [p.cells]), some (.els 2 (eCells (curE p i j))), some (.els 2 [e.cells])]) (fun m => m ≤ (curE p i j).length ∧ ∀ x ∈ (curE p i j).take m, x.2 ≠ e) (fun m => (curE p i j).length - m) 0 ?_ ?_ ?_
              · simp
              · exact sub_same (by simp)
              rintro m ⟨m1, m2⟩
              simp only [List.cons_append, List.nil_append, prune, List.map_cons, List.map_nil, Go.AM.look, Nat.reduceEqDiff, reduceIte]
              refine awp_seq_k fun K22 hK22 => ?_
              refine awp_sr rfl fun K hK => ?_
              simp -dsimp
              refine hK _ _ ?_; clear hK K
              refine awp_cond rfl (fun hc13 => ?_) (fun hc13 => ?_)
              · skip
                try simp at hc13
                obtain ⟨x, hx⟩ : ∃ x, (curE p i j)[m]? = some x := ⟨_, List.getElem?_eq_getElem hc13⟩
                have wm : IntKind.i64.wrap ((m : Int) + 1) = (m : Int) + 1 := wrap_in (by omega) (by omega)
                refine awp_skip ?_
                simp only [thenA, inBlockA, reduceIte, Nat.reduceEqDiff, eq_self]
                refine hK22 _ _ ?_
                refine awp_prune [1, 11, 12, 13, 14, 15] ?_
                simp only [prune, List.map_cons, List.map_nil, Go.AM.look, Nat.reduceEqDiff, reduceIte]
                refine awp_seq_k fun K23 hK23 => ?_
                refine awp_block ?_
                refine awp_sd mixed rfl fun K hK => ?_
                simp -dsimp [hx, hc13]
                refine hK _ _ _ (by decide +kernel) ?_; clear hK K
                refine awp_cond rfl (fun hc14 => ?_) (fun hc14 => ?_)
                · skip
                  try simp at hc14
                  refine awp_sr rfl fun K hK => ?_
                  simp -dsimp
                  refine hK _ _ ?_; clear hK K
                  have hxe : x.2 = e := by cases hxx : x.2; cases e; simp_all
                  exact awp_ret (by simp [valid_ff_dup hc10 he hx hxe])
                · skip
                  try simp at hc14
                  refine awp_skip ?_
                  simp only [thenA, inBlockA, reduceIte, Nat.reduceEqDiff, eq_self]
                  refine hK23 _ _ ?_
                  refine awp_prune [1, 11, 12, 13, 14, 15] ?_
                  simp only [prune, List.map_cons, List.map_nil, Go.AM.look, Nat.reduceEqDiff, reduceIte]
                  refine awp_r rfl fun K hK => ?_
                  simp -dsimp [wm]
                  refine hK _ _ ?_; clear hK K
                  simp only [thenA, inBlockA, reduceIte, Nat.reduceEqDiff, eq_self]
                  refine ⟨m + 1, ⟨by omega, ?_⟩, by omega, sub_same (by simp)⟩
                  intro y hy
                  rw [List.take_add_one, hx] at hy
                  rcases List.mem_append.1 hy with hy | hy
                  · exact m2 y hy
                  · simp only [Option.toList_some, List.mem_singleton] at hy
                    subst hy
                    intro hh
                    rw [← hh] at hc14
                    have hxm : (curE p i j)[m] = y := (List.getElem?_eq_some_iff.1 hx).2
                    simp [hxm] at hc14
              · skip
                try simp at hc13
                have hne : ∀ x ∈ curE p i j, x.2 ≠ e := by intro x hx; exact m2 x (by rw [List.take_of_length_le (by omega)]; exact hx)
                refine awp_exit ?_
                simp only [thenA, inBlockA, reduceIte, Nat.reduceEqDiff, eq_self]
                refine hK21 _ _ ?_
                refine awp_prune [1, 11, 12, 13, 14] ?_
                simp only [prune, List.map_cons, List.map_nil, Go.AM.look, Nat.reduceEqDiff, reduceIte]
                refine awp_r rfl fun K hK => ?_
                simp -dsimp [f1, f2]
                refine hK _ _ ?_; clear hK K
                simp only [thenA, inBlockA, reduceIte, Nat.reduceEqDiff, eq_self]
                refine hK19 _ _ ?_
                refine awp_prune [1, 11, 12, 13] ?_
                simp only [prune, List.map_cons, List.map_nil, Go.AM.look, Nat.reduceEqDiff, reduceIte]
                refine awp_r rfl fun K hK => ?_
                simp -dsimp [wj]
                refine hK _ _ ?_; clear hK K
                simp only [thenA, inBlockA, reduceIte, Nat.reduceEqDiff, eq_self]
                refine ⟨j + 1, ⟨by omega, ?_, ?_⟩, by omega, sub_rb [some 0, some 3] rfl (by simp [curE_succ he]) (by simp [curE_succ he, Function.comp_def, List.take_of_length_le])⟩
                · rw [curE_succ he, List.all_append, j2]; simp [endB, hc12]
                · rw [curE_succ he, List.map_append, List.nodup_append]
                  refine ⟨j3, by simp, ?_⟩
                  intro a ha b hb
                  simp only [List.map_cons, List.map_nil, List.mem_singleton] at hb
                  subst hb
                  obtain ⟨y, hy, rfl⟩ := List.mem_map.1 ha
                  exact hne y hy
          · skip
            try simp at hc11
            have hce := curE_all (p := p) (i := i) (j := j) (by omega)
            refine awp_exit ?_
            simp only [thenA, inBlockA, reduceIte, Nat.reduceEqDiff, eq_self]
            refine hK17 _ _ ?_
            refine awp_prune [1, 11, 12] ?_
            simp only [prune, List.map_cons, List.map_nil, Go.AM.look, Nat.reduceEqDiff, reduceIte]
            refine awp_r rfl fun K hK => ?_
            simp -dsimp [wi]
            refine hK _ _ ?_; clear hK K
            simp only [thenA, inBlockA, reduceIte, Nat.reduceEqDiff, eq_self]
            exact ⟨i + 1, ⟨by omega, by rw [← hce]; exact j2, by rw [← hce]; exact j3⟩, by omega, by simp only [← hce]; exact sub_same (by simp)⟩
        · skip
          try simp at hc10
          have hii : i = p.Nodes.length := by omega
          subst hii
          have hle := endsOf_len hA p.Nodes.length (Nat.le_refl _)
          have w2 : IntKind.i64.wrap (2 * (p.Rails.length : Int)) = 2 * (p.Rails.length : Int) := wrap_in (by omega) (by omega)
          refine awp_exit ?_
          simp only [thenA, inBlockA, reduceIte, Nat.reduceEqDiff, eq_self]
          refine hK15 _ _ ?_
          refine awp_prune [1, 11] ?_
          simp only [prune, List.map_cons, List.map_nil, Go.AM.look, Nat.reduceEqDiff, reduceIte]
          refine awp_sr rfl fun K hK => ?_
          simp -dsimp [w2]
          refine hK _ _ ?_; clear hK K
          refine awp_ret ?_
          have hv : validB p = decide ((endsOf p p.Nodes.length).length = 2 * p.Rails.length) := by simp [validB, validA, validE, hc0, hA, hB, i2, i3]
          simp only [hv]
          simp
          exact Bool.eq_iff_iff.2 (by simp; omega)
end Go.Tram
