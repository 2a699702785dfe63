/- Walks: the law of what is clear. -/
import Derived.Test.YteodgilndjjgdaaL2
import Derived.Test.YteodgilndjjgdaaR4
namespace Go.Tram
open Go.AM Go.Proofs
set_option maxRecDepth 100000
set_option maxHeartbeats 4000000
set_option linter.unusedVariables false
set_option linter.unusedSimpArgs false

theorem c_SweepClears (p : Plan) (a : List Cover) (x : Profile) (b : List Cover) (y : Profile) (hf : p.Fit) (la : a.length ≤ 9223372036854775807) (lb : b.length ≤ 9223372036854775807) :
    PureCall Try.prog 4 [p.av, .lst 3 (a.map Cover.cells), x.av, .lst 3 (b.map Cover.cells), y.av] (Bo true) := by
  have h1 := c_Clear p a x b y
  cases hok : clearOk p a x b y with
  | true =>
    have hall : validB p = true ∧ (profB x = true ∧ profB y = true) ∧ coversB p a = true ∧ coversB p b = true := by simpa [clearOk] using hok
    obtain ⟨hv, ⟨hx, hy⟩, ha, hb⟩ := hall
    rw [hok, if_pos rfl] at h1
    have hr := c_rClear p a x b y hv hx hy ha hb
    generalize clearB p a x b y = fo at h1 hr
    have hval := c_Valid p
    have hsa := c_rCovers p a hv la
    have hsb := c_rCovers p b hv lb
    have hpx := c_rProfile x
    have hpy := c_rProfile y
    rw [hv] at hval
    rw [ha] at hsa
    rw [hb] at hsb
    rw [hx] at hpx
    rw [hy] at hpy
    refine PureCall.of_body Try.func4 rfl (by decide) (by simp [Try.ntmps4]) ?_
    simp only [Try.ntmps4, Try.results4]
    refine awp_sr rfl fun K hK => ?_
    simp -dsimp
    refine hK _ _ ?_; clear hK K
    refine awp_seq_k fun K1 hK1 => ?_
    refine awp_sr rfl fun K hK => ?_
    simp -dsimp
    refine callK_intro _ (c_few p hf) (by simp) ?_
    simp -dsimp
    refine hK _ _ ?_; clear hK K
    refine awp_cond rfl (fun hc0 => ?_) (fun hc0 => ?_)
    · skip
      try simp at hc0
      refine awp_sr rfl fun K hK => ?_
      simp -dsimp
      refine callK_intro _ (c_known) (by simp) ?_
      simp -dsimp
      refine hK _ _ ?_; clear hK K
      exact awp_ret (by simp)
    · skip
      try simp at hc0
      refine awp_skip ?_
      simp only [thenA, inBlockA, reduceIte, Nat.reduceEqDiff, eq_self]
      refine hK1 _ _ ?_
      refine awp_prune [1, 3, 5, 7, 9] ?_
      simp only [prune, List.map_cons, List.map_nil, Go.AM.look, Nat.reduceEqDiff, reduceIte]
      refine awp_sr rfl fun K hK => ?_
      simp -dsimp
      refine callK_intro _ (h1) (by simp) ?_
      simp -dsimp
      refine hK _ _ ?_; clear hK K
      refine awp_seq_k fun K2 hK2 => ?_
      refine awp_sr rfl fun K hK => ?_
      simp -dsimp
      refine callK_intro _ (hval) (by simp) ?_
      simp -dsimp
      refine callK_may _ (fun hm => hpx) (by simp) ?_
      simp -dsimp
      refine callK_may _ (fun hm => hpy) (by simp) ?_
      simp -dsimp
      refine callK_may _ (fun hm => hsa) (by simp) ?_
      simp -dsimp
      refine callK_may _ (fun hm => hsb) (by simp) ?_
      simp -dsimp
      refine hK _ _ ?_; clear hK K
      refine awp_cond rfl (fun hc1 => ?_) (fun hc1 => ?_)
      · skip
        skip
        simp at hc1
      · skip
        skip
        refine awp_skip ?_
        simp only [thenA, inBlockA, reduceIte, Nat.reduceEqDiff, eq_self]
        refine hK2 _ _ ?_
        refine awp_prune [1, 3, 5, 7, 9, 11, 12] ?_
        simp only [prune, List.map_cons, List.map_nil, Go.AM.look, Nat.reduceEqDiff, reduceIte]
        refine awp_sr rfl fun K hK => ?_
        simp -dsimp
        refine callK_may _ (fun hm => hr) (by simp) ?_
        simp -dsimp
        refine ⟨fun w => (eq_bool _ _ _ _ _ w und_bool kt_bool).1, .bool true, fun w => by have hh := (eq_bool 4 (.tmp 0) (.tmp 0) fo fo w und_bool kt_bool).2; simpa using hh, ?_⟩
        simp -dsimp
        refine callK_may _ (fun hm => c_known) (by simp) ?_
        simp -dsimp
        refine hK _ _ ?_; clear hK K
        exact awp_ret (by simp)
  | false =>
    rw [hok] at h1
    simp only [Bool.false_eq_true, if_false] at h1
    refine PureCall.of_body Try.func4 rfl (by decide) (by simp [Try.ntmps4]) ?_
    simp only [Try.ntmps4, Try.results4]
    refine awp_sr rfl fun K hK => ?_
    simp -dsimp
    refine hK _ _ ?_; clear hK K
    refine awp_seq_k fun K1 hK1 => ?_
    refine awp_sr rfl fun K hK => ?_
    simp -dsimp
    refine callK_intro _ (c_few p hf) (by simp) ?_
    simp -dsimp
    refine hK _ _ ?_; clear hK K
    refine awp_cond rfl (fun hc0 => ?_) (fun hc0 => ?_)
    · skip
      try simp at hc0
      refine awp_sr rfl fun K hK => ?_
      simp -dsimp
      refine callK_intro _ (c_known) (by simp) ?_
      simp -dsimp
      refine hK _ _ ?_; clear hK K
      exact awp_ret (by simp)
    · skip
      try simp at hc0
      refine awp_skip ?_
      simp only [thenA, inBlockA, reduceIte, Nat.reduceEqDiff, eq_self]
      refine hK1 _ _ ?_
      refine awp_prune [1, 3, 5, 7, 9] ?_
      simp only [prune, List.map_cons, List.map_nil, Go.AM.look, Nat.reduceEqDiff, reduceIte]
      refine awp_sr rfl fun K hK => ?_
      simp -dsimp
      refine callK_intro _ (h1) (by simp) ?_
      simp -dsimp
      refine hK _ _ ?_; clear hK K
      refine awp_seq_k fun K2 hK2 => ?_
      refine awp_sr rfl fun K hK => ?_
      simp -dsimp
      refine callK_intro _ (c_Valid p) (by simp) ?_
      simp -dsimp
      refine callK_may _ (fun hm => c_rProfile x) (by simp) ?_
      simp -dsimp
      refine callK_may _ (fun hm => c_rProfile y) (by simp) ?_
      simp -dsimp
      refine callK_may _ (fun hm => c_rCovers p a (by simp at hm; exact hm.1.1) la) (by simp) ?_
      simp -dsimp
      refine callK_may _ (fun hm => c_rCovers p b (by simp at hm; exact hm.1.1.1) lb) (by simp) ?_
      simp -dsimp
      refine hK _ _ ?_; clear hK K
      refine awp_cond rfl (fun hc1 => ?_) (fun hc1 => ?_)
      · skip
        skip
        refine awp_sr rfl fun K hK => ?_
        simp -dsimp
        refine callK_may _ (fun hm => c_known) (by simp) ?_
        simp -dsimp
        refine hK _ _ ?_; clear hK K
        exact awp_ret (by simp)
      · skip
        skip
        exfalso; simp at hc1; simp [clearOk, hc1] at hok
end Go.Tram
