/- Walks: the law of places. -/
import Derived.Test.YteodgilndjjgdaaL2
namespace Go.Tram
open Go.AM Go.Proofs
set_option maxRecDepth 100000
set_option maxHeartbeats 4000000
set_option linter.unusedVariables false
set_option linter.unusedSimpArgs false

theorem c_SweepPlaces (p : Plan) (r s : Int) (hf : p.Fit) : PureCall Try.prog 7 [p.av, I r, I s] (Bo true) := by
  have h1 := c_Strips p r
  have h2 := c_Place p ⟨r, s⟩
  cases hok : (validB p && inr r 0 (p.Rails.length - 1)) with
  | false =>
    have e2 : (validB p && stripB p ⟨r, s⟩) = false := by
      simp only [stripB]
      revert hok; cases validB p <;> cases inr r 0 (p.Rails.length - 1) <;> simp
    rw [hok] at h1
    rw [e2] at h2
    simp only [Bool.false_eq_true, if_false] at h1 h2
    refine PureCall.of_body Try.func7 rfl (by decide) (by simp [Try.ntmps7]) ?_
    simp only [Try.ntmps7, Try.results7]
    refine awp_sr rfl fun K hK => ?_
    simp -dsimp
    refine hK _ _ ?_; clear hK K
    refine awp_seq_k fun K1 hK1 => ?_
    refine awp_sr rfl fun K hK => ?_
    simp -dsimp
    refine callK_intro _ (c_few p hf) (by simp) ?_
    simp -dsimp
    refine hK _ _ ?_; clear hK K
    refine awp_cond rfl (fun hc0 => ?_) (fun hc0 => ?_)
    · skip
      try simp at hc0
      refine awp_sr rfl fun K hK => ?_
      simp -dsimp
      refine callK_intro _ (c_known) (by simp) ?_
      simp -dsimp
      refine hK _ _ ?_; clear hK K
      exact awp_ret (by simp)
    · skip
      try simp at hc0
      refine awp_skip ?_
      simp only [thenA, inBlockA, reduceIte, Nat.reduceEqDiff, eq_self]
      refine hK1 _ _ ?_
      refine awp_prune [1, 2, 3] ?_
      simp only [prune, List.map_cons, List.map_nil, Go.AM.look, Nat.reduceEqDiff, reduceIte]
      refine awp_sr rfl fun K hK => ?_
      simp -dsimp
      refine callK_intro _ (h1) (by simp) ?_
      simp -dsimp
      refine hK _ _ ?_; clear hK K
      refine awp_sr rfl fun K hK => ?_
      simp -dsimp
      refine callK_intro _ (h2) (by simp) ?_
      simp -dsimp
      refine hK _ _ ?_; clear hK K
      refine awp_seq_k fun K2 hK2 => ?_
      refine awp_sr rfl fun K hK => ?_
      simp -dsimp
      refine callK_intro _ (c_Valid p) (by simp) ?_
      simp -dsimp
      refine hK _ _ ?_; clear hK K
      refine awp_cond rfl (fun hc1 => ?_) (fun hc1 => ?_)
      · skip
        skip
        refine awp_sr rfl fun K hK => ?_
        simp -dsimp
        refine callK_may _ (fun hm => c_known) (by simp) ?_
        simp -dsimp
        refine hK _ _ ?_; clear hK K
        exact awp_ret (by simp)
      · skip
        skip
        exfalso; simp at hc1; simp [hc1, inr] at hok; omega
  | true =>
    have hall : validB p = true ∧ inr r 0 (p.Rails.length - 1) = true := by simpa using hok
    obtain ⟨hv, hr⟩ := hall
    have hi := inr_iff.1 hr
    have hr0 : 0 ≤ r ∧ r < p.Rails.length := by omega
    have ro := rail_ok hv hr0.1 hr0.2
    have hn30 := ro.s
    have hlen := ro.len
    have hval := c_Valid p
    rw [hv] at hval
    rw [hok, if_pos rfl] at h1
    have hs := c_rStrips p r hr0.1 hr0.2 (by omega)
    have nr0 : ¬ r < 0 := by omega
    have nr1 : ¬ ((p.Rails.length : Int) ≤ r) := by omega
    cases hst : stripB p ⟨r, s⟩ with
    | false =>
      have hso : s < 0 ∨ ((p.rail r).Shape.length : Int) + 1 ≤ s := by
        simp only [stripB, hr, Bool.true_and, inr, Bool.and_eq_false_iff, decide_eq_false_iff_not] at hst
        omega
      rw [hv, hst, if_neg (by simp)] at h2
      refine PureCall.of_body Try.func7 rfl (by decide) (by simp [Try.ntmps7]) ?_
      simp only [Try.ntmps7, Try.results7]
      refine awp_sr rfl fun K hK => ?_
      simp -dsimp
      refine hK _ _ ?_; clear hK K
      refine awp_seq_k fun K1 hK1 => ?_
      refine awp_sr rfl fun K hK => ?_
      simp -dsimp
      refine callK_intro _ (c_few p hf) (by simp) ?_
      simp -dsimp
      refine hK _ _ ?_; clear hK K
      refine awp_cond rfl (fun hc0 => ?_) (fun hc0 => ?_)
      · skip
        try simp at hc0
        refine awp_sr rfl fun K hK => ?_
        simp -dsimp
        refine callK_intro _ (c_known) (by simp) ?_
        simp -dsimp
        refine hK _ _ ?_; clear hK K
        exact awp_ret (by simp)
      · skip
        try simp at hc0
        refine awp_skip ?_
        simp only [thenA, inBlockA, reduceIte, Nat.reduceEqDiff, eq_self]
        refine hK1 _ _ ?_
        refine awp_prune [1, 2, 3] ?_
        simp only [prune, List.map_cons, List.map_nil, Go.AM.look, Nat.reduceEqDiff, reduceIte]
        refine awp_sr rfl fun K hK => ?_
        simp -dsimp
        refine callK_intro _ (h1) (by simp) ?_
        simp -dsimp
        refine hK _ _ ?_; clear hK K
        refine awp_sr rfl fun K hK => ?_
        simp -dsimp
        refine callK_intro _ (h2) (by simp) ?_
        simp -dsimp
        refine hK _ _ ?_; clear hK K
        refine awp_seq_k fun K2 hK2 => ?_
        refine awp_sr rfl fun K hK => ?_
        simp -dsimp [nr0, nr1]
        refine callK_intro _ (hval) (by simp) ?_
        simp -dsimp [nr0, nr1]
        refine hK _ _ ?_; clear hK K
        refine awp_cond rfl (fun hc1 => ?_) (fun hc1 => ?_)
        · skip
          skip
          simp at hc1
        · skip
          skip
          refine awp_skip ?_
          simp only [thenA, inBlockA, reduceIte, Nat.reduceEqDiff, eq_self]
          refine hK2 _ _ ?_
          refine awp_prune [1, 2, 3, 7, 8, 9, 10, 11] ?_
          simp only [prune, List.map_cons, List.map_nil, Go.AM.look, Nat.reduceEqDiff, reduceIte]
          refine awp_seq_k fun K3 hK3 => ?_
          refine awp_sr rfl fun K hK => ?_
          simp -dsimp
          refine callK_may _ (fun hm => hs) (by simp) ?_
          simp -dsimp
          refine hK _ _ ?_; clear hK K
          refine awp_cond rfl (fun hc2 => ?_) (fun hc2 => ?_)
          · skip
            skip
            simp at hc2
          · skip
            skip
            refine awp_skip ?_
            simp only [thenA, inBlockA, reduceIte, Nat.reduceEqDiff, eq_self]
            refine hK3 _ _ ?_
            refine awp_prune [1, 2, 3, 7, 9, 10, 11] ?_
            simp only [prune, List.map_cons, List.map_nil, Go.AM.look, Nat.reduceEqDiff, reduceIte]
            refine awp_seq_k fun K4 hK4 => ?_
            refine awp_sr rfl fun K hK => ?_
            simp -dsimp [hso]
            refine hK _ _ ?_; clear hK K
            refine awp_cond rfl (fun hc3 => ?_) (fun hc3 => ?_)
            · skip
              skip
              refine awp_sr rfl fun K hK => ?_
              simp -dsimp
              refine callK_may _ (fun hm => c_known) (by simp) ?_
              simp -dsimp
              refine hK _ _ ?_; clear hK K
              exact awp_ret (by simp)
            · skip
              skip
              exfalso; simp at hc3; try omega
    | true =>
      obtain ⟨_, a2, a3⟩ := strip_cast hst
      simp only at a2 a3
      rw [hv, hst, if_pos (by rfl)] at h2
      have hp := c_rPlace p r s.toNat hr0.1 hr0.2 ro a3
      simp only [sAV, a2] at hp
      have hfr : (p.strip ⟨r, s⟩).From = sumTo (p.line r) s.toNat := rfl
      have hto : (p.strip ⟨r, s⟩).To = sumTo (p.line r) (s.toNat + 1) := rfl
      rw [hfr, hto] at h2
      have hso : ¬ s < 0 ∧ ¬ ((p.rail r).Shape.length : Int) + 1 ≤ s := by omega
      have hpl : ∀ i : Nat, i < (p.rail r).Shape.length + 1 → PureCall Try.prog 29 [p.av, .agg [I r, I i]] (.tup [I (sumTo (p.line r) i), I (sumTo (p.line r) (i + 1)), I 0]) := by
        intro i hi
        have h := c_Place p ⟨r, i⟩
        have hsb : stripB p ⟨r, i⟩ = true := by simp only [stripB, hr, Bool.true_and]; exact inr_iff.2 ⟨by omega, by omega⟩
        rw [hv, hsb, if_pos (by rfl)] at h
        exact h
      have hlt : ∀ i : Nat, i < (p.rail r).Shape.length + 1 → sumTo (p.line r) i < sumTo (p.line r) (i + 1) := by
        intro i hi
        have := (ro.seg i (by omega)).1
        simp only [sumTo]; omega
      have hL := c_tLength p r hv hr0.1 hr0.2
      rw [← sumTo_len] at hL
      refine PureCall.of_body Try.func7 rfl (by decide) (by simp [Try.ntmps7]) ?_
      simp only [Try.ntmps7, Try.results7]
      refine awp_sr rfl fun K hK => ?_
      simp -dsimp
      refine hK _ _ ?_; clear hK K
      refine awp_seq_k fun K1 hK1 => ?_
      refine awp_sr rfl fun K hK => ?_
      simp -dsimp
      refine callK_intro _ (c_few p hf) (by simp) ?_
      simp -dsimp
      refine hK _ _ ?_; clear hK K
      refine awp_cond rfl (fun hc0 => ?_) (fun hc0 => ?_)
      · skip
        try simp at hc0
        refine awp_sr rfl fun K hK => ?_
        simp -dsimp
        refine callK_intro _ (c_known) (by simp) ?_
        simp -dsimp
        refine hK _ _ ?_; clear hK K
        exact awp_ret (by simp)
      · skip
        try simp at hc0
        refine awp_skip ?_
        simp only [thenA, inBlockA, reduceIte, Nat.reduceEqDiff, eq_self]
        refine hK1 _ _ ?_
        refine awp_prune [1, 2, 3] ?_
        simp only [prune, List.map_cons, List.map_nil, Go.AM.look, Nat.reduceEqDiff, reduceIte]
        refine awp_sr rfl fun K hK => ?_
        simp -dsimp
        refine callK_intro _ (h1) (by simp) ?_
        simp -dsimp
        refine hK _ _ ?_; clear hK K
        refine awp_sr rfl fun K hK => ?_
        simp -dsimp
        refine callK_intro _ (h2) (by simp) ?_
        simp -dsimp
        refine hK _ _ ?_; clear hK K
        refine awp_seq_k fun K2 hK2 => ?_
        refine awp_sr rfl fun K hK => ?_
        simp -dsimp [nr0, nr1]
        refine callK_intro _ (hval) (by simp) ?_
        simp -dsimp [nr0, nr1]
        refine hK _ _ ?_; clear hK K
        refine awp_cond rfl (fun hc1 => ?_) (fun hc1 => ?_)
        · skip
          skip
          simp at hc1
        · skip
          skip
          refine awp_skip ?_
          simp only [thenA, inBlockA, reduceIte, Nat.reduceEqDiff, eq_self]
          refine hK2 _ _ ?_
          refine awp_prune [1, 2, 3, 7, 8, 9, 10, 11] ?_
          simp only [prune, List.map_cons, List.map_nil, Go.AM.look, Nat.reduceEqDiff, reduceIte]
          refine awp_seq_k fun K3 hK3 => ?_
          refine awp_sr rfl fun K hK => ?_
          simp -dsimp
          refine callK_may _ (fun hm => hs) (by simp) ?_
          simp -dsimp
          refine hK _ _ ?_; clear hK K
          refine awp_cond rfl (fun hc2 => ?_) (fun hc2 => ?_)
          · skip
            skip
            simp at hc2
          · skip
            skip
            refine awp_skip ?_
            simp only [thenA, inBlockA, reduceIte, Nat.reduceEqDiff, eq_self]
            refine hK3 _ _ ?_
            refine awp_prune [1, 2, 3, 7, 9, 10, 11] ?_
            simp only [prune, List.map_cons, List.map_nil, Go.AM.look, Nat.reduceEqDiff, reduceIte]
            refine awp_seq_k fun K4 hK4 => ?_
            refine awp_sr rfl fun K hK => ?_
            simp -dsimp [hso]
            refine hK _ _ ?_; clear hK K
            refine awp_cond rfl (fun hc3 => ?_) (fun hc3 => ?_)
            · skip
              skip
              exfalso; simp at hc3; try omega
            · skip
              skip
              refine awp_skip ?_
              simp only [thenA, inBlockA, reduceIte, Nat.reduceEqDiff, eq_self]
              refine hK4 _ _ ?_
              refine awp_prune [1, 2, 3, 7, 9, 10, 11] ?_
              simp only [prune, List.map_cons, List.map_nil, Go.AM.look, Nat.reduceEqDiff, reduceIte]
              refine awp_sr rfl fun K hK => ?_
              simp -dsimp
              refine callK_intro _ (hp) (by simp) ?_
              simp -dsimp
              refine hK _ _ ?_; clear hK K
              refine awp_seq_k fun K5 hK5 => ?_
              refine awp_sr rfl fun K hK => ?_
              simp -dsimp
              refine hK _ _ ?_; clear hK K
              refine awp_cond rfl (fun hc4 => ?_) (fun hc4 => ?_)
              · skip
                skip
                simp at hc4
              · skip
                skip
                refine awp_skip ?_
                simp only [thenA, inBlockA, reduceIte, Nat.reduceEqDiff, eq_self]
                refine hK5 _ _ ?_
                refine awp_prune [1, 3, 7] ?_
                simp only [prune, List.map_cons, List.map_nil, Go.AM.look, Nat.reduceEqDiff, reduceIte]
                refine awp_sr rfl fun K hK => ?_
                simp -dsimp
                refine hK _ _ ?_; clear hK K
                refine awp_seq_k fun K6 hK6 => ?_
                refine awp_sr rfl fun K hK => ?_
                simp -dsimp
                refine hK _ _ ?_; clear hK K
                refine awp_block ?_
                refine awp_prune [1, 3, 7, 14, 15] ?_
                simp only [prune, List.map_cons, List.map_nil, Go.AM.look, Nat.reduceEqDiff, reduceIte]
                refine awp_loop_l [1, 3, 7] (α := Nat) (fun i => [(14, I (sumTo (p.line r) i)), (15, I i)]) (fun _ => [some (.els 2 [p.cells])]) (fun i => i ≤ (p.rail r).Shape.length + 1) (fun i => (p.rail r).Shape.length + 1 - i) 0 ?_ ?_ ?_
                · simp
                · exact sub_same (by simp [sumTo])
                rintro i i1
                simp only [List.cons_append, List.nil_append, prune, List.map_cons, List.map_nil, Go.AM.look, Nat.reduceEqDiff, reduceIte]
                refine awp_seq_k fun K7 hK7 => ?_
                refine awp_sr rfl fun K hK => ?_
                simp -dsimp
                refine hK _ _ ?_; clear hK K
                refine awp_cond rfl (fun hc5 => ?_) (fun hc5 => ?_)
                · skip
                  simp at hc5
                  have wi : IntKind.i64.wrap ((i : Int) + 1) = (i : Int) + 1 := wrap_in (by omega) (by omega)
                  have hl := hlt i (by omega)
                  have hl' : ¬ sumTo (p.line r) (i + 1) ≤ sumTo (p.line r) i := by omega
                  refine awp_skip ?_
                  simp only [thenA, inBlockA, reduceIte, Nat.reduceEqDiff, eq_self]
                  refine hK7 _ _ ?_
                  refine awp_prune [1, 3, 7, 14, 15] ?_
                  simp only [prune, List.map_cons, List.map_nil, Go.AM.look, Nat.reduceEqDiff, reduceIte]
                  refine awp_seq_k fun K8 hK8 => ?_
                  refine awp_block ?_
                  refine awp_sr rfl fun K hK => ?_
                  simp -dsimp
                  refine callK_intro _ (hpl i (by omega)) (by simp) ?_
                  simp -dsimp
                  refine hK _ _ ?_; clear hK K
                  refine awp_seq_k fun K9 hK9 => ?_
                  refine awp_sr rfl fun K hK => ?_
                  simp -dsimp [hl']
                  refine hK _ _ ?_; clear hK K
                  refine awp_cond rfl (fun hc6 => ?_) (fun hc6 => ?_)
                  · skip
                    skip
                    simp at hc6
                  · skip
                    skip
                    refine awp_skip ?_
                    simp only [thenA, inBlockA, reduceIte, Nat.reduceEqDiff, eq_self]
                    refine hK9 _ _ ?_
                    refine awp_prune [1, 3, 7, 15, 17] ?_
                    simp only [prune, List.map_cons, List.map_nil, Go.AM.look, Nat.reduceEqDiff, reduceIte]
                    refine awp_r rfl fun K hK => ?_
                    simp -dsimp
                    refine hK _ _ ?_; clear hK K
                    simp only [thenA, inBlockA, reduceIte, Nat.reduceEqDiff, eq_self]
                    refine hK8 _ _ ?_
                    refine awp_prune [1, 3, 7, 14, 15] ?_
                    simp only [prune, List.map_cons, List.map_nil, Go.AM.look, Nat.reduceEqDiff, reduceIte]
                    refine awp_r rfl fun K hK => ?_
                    simp -dsimp [wi]
                    refine hK _ _ ?_; clear hK K
                    simp only [thenA, inBlockA, reduceIte, Nat.reduceEqDiff, eq_self]
                    exact ⟨i + 1, by omega, by omega, sub_same (by simp)⟩
                · skip
                  simp at hc5
                  have hie : i = (p.rail r).Shape.length + 1 := by omega
                  subst hie
                  refine awp_exit ?_
                  simp only [thenA, inBlockA, reduceIte, Nat.reduceEqDiff, eq_self]
                  refine hK6 _ _ ?_
                  refine awp_prune [1, 3, 14] ?_
                  simp only [prune, List.map_cons, List.map_nil, Go.AM.look, Nat.reduceEqDiff, reduceIte]
                  refine awp_sr rfl fun K hK => ?_
                  simp -dsimp
                  refine callK_intro _ (hL) (by simp) ?_
                  simp -dsimp
                  refine hK _ _ ?_; clear hK K
                  refine awp_sr rfl fun K hK => ?_
                  simp -dsimp
                  refine callK_may _ (fun hm => c_known) (by simp) ?_
                  simp -dsimp
                  refine hK _ _ ?_; clear hK K
                  exact awp_ret (by simp)
end Go.Tram
