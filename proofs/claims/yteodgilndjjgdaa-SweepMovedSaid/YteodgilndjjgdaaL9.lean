/- Walks: the laws of where rails come nearest, and of all that is foul. -/
import Derived.Test.YteodgilndjjgdaaL2
import Derived.Test.YteodgilndjjgdaaR6
namespace Go.Tram
open Go.AM Go.Proofs
set_option maxRecDepth 100000
set_option maxHeartbeats 4000000
set_option linter.unusedVariables false
set_option linter.unusedSimpArgs false

theorem c_SweepWitness (p : Plan) (a b : Int) (hf : p.Fit) : PureCall Try.prog 10 [p.av, I a, I b] (Bo true) := by
  cases hv : validB p with
  | false =>
    have h1 := c_Witness_v p a b hv
    have hval := c_Valid p
    rw [hv] at hval
    refine PureCall.of_body Try.func10 rfl (by decide) (by simp [Try.ntmps10]) ?_
    simp only [Try.ntmps10, Try.results10]
    refine awp_sr rfl fun K hK => ?_
    simp -dsimp
    refine hK _ _ ?_; clear hK K
    refine awp_seq_k fun K1 hK1 => ?_
    refine awp_sr rfl fun K hK => ?_
    simp -dsimp
    refine callK_intro _ (c_few p hf) (by simp) ?_
    simp -dsimp
    refine hK _ _ ?_; clear hK K
    refine awp_cond rfl (fun hc0 => ?_) (fun hc0 => ?_)
    · skip
      try simp at hc0
      refine awp_sr rfl fun K hK => ?_
      simp -dsimp
      refine callK_intro _ (c_known) (by simp) ?_
      simp -dsimp
      refine hK _ _ ?_; clear hK K
      exact awp_ret (by simp)
    · skip
      try simp at hc0
      refine awp_skip ?_
      simp only [thenA, inBlockA, reduceIte, Nat.reduceEqDiff, eq_self]
      refine hK1 _ _ ?_
      refine awp_prune [1, 2, 3] ?_
      simp only [prune, List.map_cons, List.map_nil, Go.AM.look, Nat.reduceEqDiff, reduceIte]
      refine awp_sr rfl fun K hK => ?_
      simp -dsimp
      refine callK_intro _ (h1) (by simp) ?_
      simp -dsimp
      refine hK _ _ ?_; clear hK K
      refine awp_seq_k fun K2 hK2 => ?_
      refine awp_sr rfl fun K hK => ?_
      simp -dsimp
      refine callK_intro _ (hval) (by simp) ?_
      simp -dsimp
      refine hK _ _ ?_; clear hK K
      refine awp_cond rfl (fun hc1 => ?_) (fun hc1 => ?_)
      · skip
        skip
        refine awp_sr rfl fun K hK => ?_
        simp -dsimp
        refine callK_may _ (fun hm => c_known) (by simp) ?_
        simp -dsimp
        refine hK _ _ ?_; clear hK K
        exact awp_ret (by simp)
      · skip
        skip
        simp at hc1
  | true =>
    have hval := c_Valid p
    rw [hv] at hval
    cases h : (inr a 0 (p.Rails.length - 1) && inr b 0 (p.Rails.length - 1)) with
    | false =>
      have h1 := c_Witness_f p a b hv h
      refine PureCall.of_body Try.func10 rfl (by decide) (by simp [Try.ntmps10]) ?_
      simp only [Try.ntmps10, Try.results10]
      refine awp_sr rfl fun K hK => ?_
      simp -dsimp
      refine hK _ _ ?_; clear hK K
      refine awp_seq_k fun K1 hK1 => ?_
      refine awp_sr rfl fun K hK => ?_
      simp -dsimp
      refine callK_intro _ (c_few p hf) (by simp) ?_
      simp -dsimp
      refine hK _ _ ?_; clear hK K
      refine awp_cond rfl (fun hc0 => ?_) (fun hc0 => ?_)
      · skip
        try simp at hc0
        refine awp_sr rfl fun K hK => ?_
        simp -dsimp
        refine callK_intro _ (c_known) (by simp) ?_
        simp -dsimp
        refine hK _ _ ?_; clear hK K
        exact awp_ret (by simp)
      · skip
        try simp at hc0
        refine awp_skip ?_
        simp only [thenA, inBlockA, reduceIte, Nat.reduceEqDiff, eq_self]
        refine hK1 _ _ ?_
        refine awp_prune [1, 2, 3] ?_
        simp only [prune, List.map_cons, List.map_nil, Go.AM.look, Nat.reduceEqDiff, reduceIte]
        refine awp_sr rfl fun K hK => ?_
        simp -dsimp
        refine callK_intro _ (h1) (by simp) ?_
        simp -dsimp
        refine hK _ _ ?_; clear hK K
        refine awp_seq_k fun K2 hK2 => ?_
        refine awp_sr rfl fun K hK => ?_
        simp -dsimp
        refine callK_intro _ (hval) (by simp) ?_
        simp -dsimp
        refine hK _ _ ?_; clear hK K
        refine awp_cond rfl (fun hc1 => ?_) (fun hc1 => ?_)
        · skip
          skip
          refine awp_sr rfl fun K hK => ?_
          simp -dsimp
          refine callK_may _ (fun hm => c_known) (by simp) ?_
          simp -dsimp
          refine hK _ _ ?_; clear hK K
          exact awp_ret (by simp)
        · skip
          skip
          exfalso; simp at hc1; simp [inr] at h; omega
    | true =>
      have hall : inr a 0 (p.Rails.length - 1) = true ∧ inr b 0 (p.Rails.length - 1) = true := by simpa using h
      obtain ⟨ha, hb⟩ := hall
      have ia := inr_iff.1 ha
      have ib := inr_iff.1 hb
      have h1 := c_Witness_t p a b hv ha hb
      have h2 := c_rWitness p a b hv ha hb
      have na : ¬ a < 0 ∧ ¬ ((p.Rails.length : Int) ≤ a) := by omega
      have nb : ¬ b < 0 ∧ ¬ ((p.Rails.length : Int) ≤ b) := by omega
      generalize wit p a b = W at h1 h2
      refine PureCall.of_body Try.func10 rfl (by decide) (by simp [Try.ntmps10]) ?_
      simp only [Try.ntmps10, Try.results10]
      refine awp_sr rfl fun K hK => ?_
      simp -dsimp
      refine hK _ _ ?_; clear hK K
      refine awp_seq_k fun K1 hK1 => ?_
      refine awp_sr rfl fun K hK => ?_
      simp -dsimp
      refine callK_intro _ (c_few p hf) (by simp) ?_
      simp -dsimp
      refine hK _ _ ?_; clear hK K
      refine awp_cond rfl (fun hc0 => ?_) (fun hc0 => ?_)
      · skip
        try simp at hc0
        refine awp_sr rfl fun K hK => ?_
        simp -dsimp
        refine callK_intro _ (c_known) (by simp) ?_
        simp -dsimp
        refine hK _ _ ?_; clear hK K
        exact awp_ret (by simp)
      · skip
        try simp at hc0
        refine awp_skip ?_
        simp only [thenA, inBlockA, reduceIte, Nat.reduceEqDiff, eq_self]
        refine hK1 _ _ ?_
        refine awp_prune [1, 2, 3] ?_
        simp only [prune, List.map_cons, List.map_nil, Go.AM.look, Nat.reduceEqDiff, reduceIte]
        refine awp_sr rfl fun K hK => ?_
        simp -dsimp
        refine callK_intro _ (h1) (by simp) ?_
        simp -dsimp
        refine hK _ _ ?_; clear hK K
        refine awp_seq_k fun K2 hK2 => ?_
        refine awp_sr rfl fun K hK => ?_
        simp -dsimp [na, nb]
        refine callK_intro _ (hval) (by simp) ?_
        simp -dsimp [na, nb]
        refine hK _ _ ?_; clear hK K
        refine awp_cond rfl (fun hc1 => ?_) (fun hc1 => ?_)
        · skip
          skip
          simp at hc1
        · skip
          skip
          refine awp_skip ?_
          simp only [thenA, inBlockA, reduceIte, Nat.reduceEqDiff, eq_self]
          refine hK2 _ _ ?_
          refine awp_prune [1, 2, 3, 7, 8, 9, 10] ?_
          simp only [prune, List.map_cons, List.map_nil, Go.AM.look, Nat.reduceEqDiff, reduceIte]
          refine awp_sr rfl fun K hK => ?_
          simp -dsimp
          refine callK_intro _ (h2) (by simp) ?_
          simp -dsimp
          refine hK _ _ ?_; clear hK K
          refine awp_sr rfl fun K hK => ?_
          simp -dsimp
          refine callK_may _ (fun hm => c_known) (by simp) ?_
          simp -dsimp
          refine hK _ _ ?_; clear hK K
          exact awp_ret (by simp)

theorem foulsL_len {p : Plan} {l : List Profile} (hN : p.Rails.length ≤ 12) (hl : l.length ≤ 16) : (foulsL p l).length ≤ 100000 := by
  have h := fA_len p l p.Rails.length
  have k : p.Rails.length * (l.length * (p.Rails.length * l.length)) ≤ 12 * (16 * (12 * 16)) := Nat.mul_le_mul hN (Nat.mul_le_mul hl (Nat.mul_le_mul hN hl))
  unfold foulsL
  omega

theorem c_SweepFouls (p : Plan) (l : List Profile) (hf : p.Fit) (ll : l.length ≤ 9223372036854775807) : PureCall Try.prog 11 [p.av, .lst 2 (l.map Profile.cells)] (Bo true) := by
  cases hv : validB p with
  | false =>
    have h1 := c_Fouls_v p l hv
    have hval := c_Valid p
    rw [hv] at hval
    refine PureCall.of_body Try.func11 rfl (by decide) (by simp [Try.ntmps11]) ?_
    simp only [Try.ntmps11, Try.results11]
    refine awp_sr rfl fun K hK => ?_
    simp -dsimp
    refine hK _ _ ?_; clear hK K
    refine awp_seq_k fun K1 hK1 => ?_
    refine awp_sr rfl fun K hK => ?_
    simp -dsimp
    refine callK_intro _ (c_few p hf) (by simp) ?_
    simp -dsimp
    refine hK _ _ ?_; clear hK K
    refine awp_cond rfl (fun hc0 => ?_) (fun hc0 => ?_)
    · skip
      skip
      refine awp_sr rfl fun K hK => ?_
      simp -dsimp
      refine callK_intro _ (c_known) (by simp) ?_
      simp -dsimp
      refine hK _ _ ?_; clear hK K
      exact awp_ret (by simp)
    · skip
      skip
      refine awp_skip ?_
      simp only [thenA, inBlockA, reduceIte, Nat.reduceEqDiff, eq_self]
      refine hK1 _ _ ?_
      refine awp_prune [1, 2] ?_
      simp only [prune, List.map_cons, List.map_nil, Go.AM.look, Nat.reduceEqDiff, reduceIte]
      refine awp_sr rfl fun K hK => ?_
      simp -dsimp
      refine callK_intro _ (h1) (by simp) ?_
      simp -dsimp
      refine hK _ _ ?_; clear hK K
      refine awp_seq_k fun K2 hK2 => ?_
      refine awp_sr rfl fun K hK => ?_
      simp -dsimp
      refine callK_intro _ (hval) (by simp) ?_
      simp -dsimp
      refine callK_may _ (fun hm => (by simp at hm : PureCall Try.prog 40 _ (Bo false))) (by simp) ?_
      simp -dsimp
      refine hK _ _ ?_; clear hK K
      refine awp_cond rfl (fun hc1 => ?_) (fun hc1 => ?_)
      · skip
        skip
        refine awp_sr rfl fun K hK => ?_
        simp -dsimp
        refine callK_may _ (fun hm => c_known) (by simp) ?_
        simp -dsimp
        refine hK _ _ ?_; clear hK K
        exact awp_ret (by simp)
      · skip
        skip
        simp at hc1
  | true =>
    have hval := c_Valid p
    rw [hv] at hval
    cases h : profsB l with
    | false =>
      refine PureCall.of_body Try.func11 rfl (by decide) (by simp [Try.ntmps11]) ?_
      simp only [Try.ntmps11, Try.results11]
      refine awp_sr rfl fun K hK => ?_
      simp -dsimp
      refine hK _ _ ?_; clear hK K
      refine awp_seq_k fun K1 hK1 => ?_
      refine awp_sr rfl fun K hK => ?_
      simp -dsimp
      refine callK_intro _ (c_few p hf) (by simp) ?_
      simp -dsimp
      refine hK _ _ ?_; clear hK K
      refine awp_cond rfl (fun hc0 => ?_) (fun hc0 => ?_)
      · skip
        skip
        refine awp_sr rfl fun K hK => ?_
        simp -dsimp
        refine callK_intro _ (c_known) (by simp) ?_
        simp -dsimp
        refine hK _ _ ?_; clear hK K
        exact awp_ret (by simp)
      · skip
        skip
        have hb : p.Rails.length ≤ 8 ∧ l.length ≤ 20 := by simp at hc0; omega
        have h1 := c_Fouls_f p l hv h (by omega)
        have h2 := c_rProfiles l (by omega)
        rw [h] at h2
        refine awp_skip ?_
        simp only [thenA, inBlockA, reduceIte, Nat.reduceEqDiff, eq_self]
        refine hK1 _ _ ?_
        refine awp_prune [1, 2] ?_
        simp only [prune, List.map_cons, List.map_nil, Go.AM.look, Nat.reduceEqDiff, reduceIte]
        refine awp_sr rfl fun K hK => ?_
        simp -dsimp
        refine callK_intro _ (h1) (by simp) ?_
        simp -dsimp
        refine hK _ _ ?_; clear hK K
        refine awp_seq_k fun K2 hK2 => ?_
        refine awp_sr rfl fun K hK => ?_
        simp -dsimp
        refine callK_intro _ (hval) (by simp) ?_
        simp -dsimp
        refine callK_may _ (fun hm => h2) (by simp) ?_
        simp -dsimp
        refine hK _ _ ?_; clear hK K
        refine awp_cond rfl (fun hc1 => ?_) (fun hc1 => ?_)
        · skip
          skip
          refine awp_sr rfl fun K hK => ?_
          simp -dsimp
          refine callK_may _ (fun hm => c_known) (by simp) ?_
          simp -dsimp
          refine hK _ _ ?_; clear hK K
          exact awp_ret (by simp)
        · skip
          skip
          simp at hc1
    | true =>
      refine PureCall.of_body Try.func11 rfl (by decide) (by simp [Try.ntmps11]) ?_
      simp only [Try.ntmps11, Try.results11]
      refine awp_sr rfl fun K hK => ?_
      simp -dsimp
      refine hK _ _ ?_; clear hK K
      refine awp_seq_k fun K1 hK1 => ?_
      refine awp_sr rfl fun K hK => ?_
      simp -dsimp
      refine callK_intro _ (c_few p hf) (by simp) ?_
      simp -dsimp
      refine hK _ _ ?_; clear hK K
      refine awp_cond rfl (fun hc0 => ?_) (fun hc0 => ?_)
      · skip
        skip
        refine awp_sr rfl fun K hK => ?_
        simp -dsimp
        refine callK_intro _ (c_known) (by simp) ?_
        simp -dsimp
        refine hK _ _ ?_; clear hK K
        exact awp_ret (by simp)
      · skip
        skip
        have hb : p.Rails.length ≤ 8 ∧ l.length ≤ 20 := by simp at hc0; omega
        have hl6 : l.length ≤ 6 := by simp [profsB] at h; omega
        have h1 := c_Fouls_t p l hv h (by omega)
        have h2 := c_rProfiles l (by omega)
        have h3 := c_rFouls p l hv h (by omega)
        have h4 := c_rSame (foulsL p l) (foulsL_len (by omega) (by omega))
        rw [h] at h2
        generalize foulsL p l = F at h1 h3 h4
        refine awp_skip ?_
        simp only [thenA, inBlockA, reduceIte, Nat.reduceEqDiff, eq_self]
        refine hK1 _ _ ?_
        refine awp_prune [1, 2] ?_
        simp only [prune, List.map_cons, List.map_nil, Go.AM.look, Nat.reduceEqDiff, reduceIte]
        refine awp_sr rfl fun K hK => ?_
        simp -dsimp
        refine callK_intro _ (h1) (by simp) ?_
        simp -dsimp
        refine hK _ _ ?_; clear hK K
        refine awp_seq_k fun K2 hK2 => ?_
        refine awp_sr rfl fun K hK => ?_
        simp -dsimp
        refine callK_intro _ (hval) (by simp) ?_
        simp -dsimp
        refine callK_may _ (fun hm => h2) (by simp) ?_
        simp -dsimp
        refine hK _ _ ?_; clear hK K
        refine awp_cond rfl (fun hc1 => ?_) (fun hc1 => ?_)
        · skip
          skip
          simp at hc1
        · skip
          skip
          refine awp_skip ?_
          simp only [thenA, inBlockA, reduceIte, Nat.reduceEqDiff, eq_self]
          refine hK2 _ _ ?_
          refine awp_prune [1, 2, 5, 6] ?_
          simp only [prune, List.map_cons, List.map_nil, Go.AM.look, Nat.reduceEqDiff, reduceIte]
          refine awp_sr rfl fun K hK => ?_
          simp -dsimp
          refine callK_may _ (fun hm => h3) (by simp) ?_
          simp -dsimp
          refine callK_may _ (fun hm => h4) (by simp) ?_
          simp -dsimp
          refine callK_may _ (fun hm => c_known) (by simp) ?_
          simp -dsimp
          refine hK _ _ ?_; clear hK K
          exact awp_ret (by simp)
end Go.Tram
