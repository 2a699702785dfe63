/- Walks: the law of checks. -/
import Derived.Test.YtdabjdajemiagaaP4
import Derived.Test.YtdabjdajemiagaaW10
namespace Go.Tram
open Go.AM Go.Proofs
set_option maxRecDepth 100000
set_option maxHeartbeats 4000000
set_option linter.unusedVariables false
set_option linter.unusedSimpArgs false

theorem c_SameSp (l : List Spot) (hn : l.length ≤ 100000) : PureCall Try.prog 11 [.lst 2 (l.map Spot.cells), .lst 2 (l.map Spot.cells)] (Bo true) := by
  refine PureCall.of_body Try.func11 rfl (by decide) (by simp [Try.ntmps11]) ?_
  simp only [Try.ntmps11, Try.results11]
  refine awp_sr rfl fun K hK => ?_
  simp -dsimp
  refine hK _ _ ?_; clear hK K
  refine awp_seq_k fun K1 hK1 => ?_
  refine awp_sr rfl fun K hK => ?_
  simp -dsimp
  refine hK _ _ ?_; clear hK K
  refine awp_cond rfl (fun hc0 => ?_) (fun hc0 => ?_)
  · skip
    skip
    simp at hc0
  · skip
    skip
    refine awp_skip ?_
    simp only [thenA, inBlockA, reduceIte, Nat.reduceEqDiff, eq_self]
    refine hK1 _ _ ?_
    refine awp_prune [0, 1] ?_
    simp only [prune, List.map_cons, List.map_nil, Go.AM.look, Nat.reduceEqDiff, reduceIte]
    refine awp_seq_k fun K2 hK2 => ?_
    refine awp_sr rfl fun K hK => ?_
    simp -dsimp
    refine hK _ _ ?_; clear hK K
    refine awp_block ?_
    refine awp_prune [0, 1, 5] ?_
    simp only [prune, List.map_cons, List.map_nil, Go.AM.look, Nat.reduceEqDiff, reduceIte]
    refine awp_loop_l [0, 1] (α := Nat) (fun k => [(5, I k)]) (fun _ => []) (fun k => k ≤ l.length) (fun k => l.length - k) 0 ?_ ?_ ?_
    · simp
    · exact sub_same (by simp)
    rintro k k1
    simp only [List.cons_append, List.nil_append, prune, List.map_cons, List.map_nil, Go.AM.look, Nat.reduceEqDiff, reduceIte]
    refine awp_seq_k fun K3 hK3 => ?_
    refine awp_sr rfl fun K hK => ?_
    simp -dsimp
    refine hK _ _ ?_; clear hK K
    refine awp_cond rfl (fun hc1 => ?_) (fun hc1 => ?_)
    · skip
      try simp at hc1
      obtain ⟨c, hx⟩ : ∃ c, l[k]? = some c := ⟨_, List.getElem?_eq_getElem (by simpa using hc1)⟩
      have wk : IntKind.i64.wrap ((k : Int) + 1) = (k : Int) + 1 := wrap_in (by omega) (by omega)
      refine awp_skip ?_
      simp only [thenA, inBlockA, reduceIte, Nat.reduceEqDiff, eq_self]
      refine hK3 _ _ ?_
      refine awp_prune [0, 1, 5] ?_
      simp only [prune, List.map_cons, List.map_nil, Go.AM.look, Nat.reduceEqDiff, reduceIte]
      refine awp_seq_k fun K4 hK4 => ?_
      refine awp_block ?_
      refine awp_sd mixed rfl fun K hK => ?_
      simp -dsimp [hx]
      refine hK _ _ _ (by decide +kernel) ?_; clear hK K
      refine awp_cond rfl (fun hc2 => ?_) (fun hc2 => ?_)
      · skip
        skip
        simp at hc2
      · skip
        skip
        refine awp_skip ?_
        simp only [thenA, inBlockA, reduceIte, Nat.reduceEqDiff, eq_self]
        refine hK4 _ _ ?_
        refine awp_prune [0, 1, 5] ?_
        simp only [prune, List.map_cons, List.map_nil, Go.AM.look, Nat.reduceEqDiff, reduceIte]
        refine awp_r rfl fun K hK => ?_
        simp -dsimp [wk]
        refine hK _ _ ?_; clear hK K
        simp only [thenA, inBlockA, reduceIte, Nat.reduceEqDiff, eq_self]
        exact ⟨k + 1, by have := (List.getElem?_eq_some_iff.1 hx).1; omega, by have := (List.getElem?_eq_some_iff.1 hx).1; omega, sub_same (by simp)⟩
    · skip
      try simp at hc1
      refine awp_exit ?_
      simp only [thenA, inBlockA, reduceIte, Nat.reduceEqDiff, eq_self]
      refine hK2 _ _ ?_
      refine awp_prune [] ?_
      simp only [prune, List.map_cons, List.map_nil, Go.AM.look, Nat.reduceEqDiff, reduceIte]
      refine awp_sr rfl fun K hK => ?_
      simp -dsimp
      refine hK _ _ ?_; clear hK K
      exact awp_ret (by simp)

theorem c_TrackChecks_a (p : Plan) (r : Int) (hf : p.Fit) (h : smallB p = false) : PureCall Try.prog 3 [p.av, I r] (Bo true) := by
  have hs := c_small p hf
  rw [h] at hs
  refine PureCall.of_body Try.func3 rfl (by decide) (by simp [Try.ntmps3]) ?_
  simp only [Try.ntmps3, Try.results3]
  refine awp_sr rfl fun K hK => ?_
  simp -dsimp
  refine hK _ _ ?_; clear hK K
  refine awp_seq_k fun K1 hK1 => ?_
  refine awp_sr rfl fun K hK => ?_
  simp -dsimp
  refine callK_intro _ (hs) (by simp) ?_
  simp -dsimp
  refine hK _ _ ?_; clear hK K
  refine awp_cond rfl (fun hc0 => ?_) (fun hc0 => ?_)
  · skip
    skip
    refine awp_sr rfl fun K hK => ?_
    simp -dsimp
    refine callK_intro _ (c_known1) (by simp) ?_
    simp -dsimp
    refine hK _ _ ?_; clear hK K
    exact awp_ret (by simp)
  · skip
    skip
    simp at hc0
theorem c_TrackChecks_v (p : Plan) (r : Int) (hf : p.Fit) (hsm : smallB p = true) (hv : validB p = false) : PureCall Try.prog 3 [p.av, I r] (Bo true) := by
  have hs := c_small p hf
  rw [hsm] at hs
  have hva := c_Valid p
  rw [hv] at hva
  have h1 := c_tLength_v p r hv
  have h2 := c_tLine_v p r hv
  have h3 := c_Check p
  rw [hv, if_neg (by decide)] at h3
  have hR : (p.Rails.length : Int) = p.Rails.length := rfl
  refine PureCall.of_body Try.func3 rfl (by decide) (by simp [Try.ntmps3]) ?_
  simp only [Try.ntmps3, Try.results3]
  refine awp_sr rfl fun K hK => ?_
  simp -dsimp
  refine hK _ _ ?_; clear hK K
  refine awp_seq_k fun K1 hK1 => ?_
  refine awp_sr rfl fun K hK => ?_
  simp -dsimp
  refine callK_intro _ (hs) (by simp) ?_
  simp -dsimp
  refine hK _ _ ?_; clear hK K
  refine awp_cond rfl (fun hc0 => ?_) (fun hc0 => ?_)
  · skip
    skip
    simp at hc0
  · skip
    skip
    refine awp_skip ?_
    simp only [thenA, inBlockA, reduceIte, Nat.reduceEqDiff, eq_self]
    refine hK1 _ _ ?_
    refine awp_prune [1, 2] ?_
    simp only [prune, List.map_cons, List.map_nil, Go.AM.look, Nat.reduceEqDiff, reduceIte]
    refine awp_sr rfl fun K hK => ?_
    simp -dsimp
    refine callK_intro _ (hva) (by simp) ?_
    simp -dsimp
    refine hK _ _ ?_; clear hK K
    refine awp_sr rfl fun K hK => ?_
    simp -dsimp
    refine callK_intro _ (h1) (by simp) ?_
    simp -dsimp
    refine hK _ _ ?_; clear hK K
    refine awp_sr rfl fun K hK => ?_
    simp -dsimp
    refine callK_intro _ (h2) (by simp) ?_
    simp -dsimp
    refine hK _ _ ?_; clear hK K
    refine awp_seq_k fun K2 hK2 => ?_
    refine awp_sr rfl fun K hK => ?_
    simp -dsimp
    refine callK_intro _ (h3) (by simp) ?_
    simp -dsimp
    refine ⟨fun w => ne_guard1 _ _ _ _ _ w und_bool1, .bool false, fun w => by rw [ne_bool1 _ _ _ w kt_bool1]; simp, ?_⟩
    try simp -dsimp
    refine callK_may _ (fun hm => h3) (by simp) ?_
    simp -dsimp
    refine hK _ _ ?_; clear hK K
    refine awp_cond rfl (fun hc1 => ?_) (fun hc1 => ?_)
    · skip
      skip
      simp at hc1
    · skip
      skip
      refine awp_skip ?_
      simp only [thenA, inBlockA, reduceIte, Nat.reduceEqDiff, eq_self]
      refine hK2 _ _ ?_
      refine awp_prune [1, 2, 5, 6, 7, 8, 9] ?_
      simp only [prune, List.map_cons, List.map_nil, Go.AM.look, Nat.reduceEqDiff, reduceIte]
      refine awp_seq_k fun K3 hK3 => ?_
      refine awp_sr rfl fun K hK => ?_
      simp -dsimp
      refine hK _ _ ?_; clear hK K
      refine awp_cond rfl (fun hc2 => ?_) (fun hc2 => ?_)
      · skip
        skip
        refine awp_sr rfl fun K hK => ?_
        simp -dsimp
        refine callK_may _ (fun hm => c_known1) (by simp) ?_
        simp -dsimp
        refine hK _ _ ?_; clear hK K
        exact awp_ret (by simp)
      · skip
        skip
        simp at hc2
theorem c_TrackChecks_m (p : Plan) (r : Int) (hf : p.Fit) (hsm : smallB p = true) (hv : validB p = true) (h : inr r 0 (p.Rails.length - 1) = false) : PureCall Try.prog 3 [p.av, I r] (Bo true) := by
  have hs := c_small p hf
  rw [hsm] at hs
  have hva := c_Valid p
  rw [hv] at hva
  have h1 := c_tLength_m p r hv h
  have h2 := c_tLine_m p r hv h
  have h3 := c_Check p
  rw [hv, if_pos rfl] at h3
  have hin : inr r 0 (p.Rails.length - 1) = true ↔ 0 ≤ r ∧ r < p.Rails.length := by rw [inr_iff]; omega
  have hni : ¬ (0 ≤ r ∧ r < p.Rails.length) := fun g => absurd (hin.2 g) (by simp [h])
  refine PureCall.of_body Try.func3 rfl (by decide) (by simp [Try.ntmps3]) ?_
  simp only [Try.ntmps3, Try.results3]
  refine awp_sr rfl fun K hK => ?_
  simp -dsimp
  refine hK _ _ ?_; clear hK K
  refine awp_seq_k fun K1 hK1 => ?_
  refine awp_sr rfl fun K hK => ?_
  simp -dsimp
  refine callK_intro _ (hs) (by simp) ?_
  simp -dsimp
  refine hK _ _ ?_; clear hK K
  refine awp_cond rfl (fun hc0 => ?_) (fun hc0 => ?_)
  · skip
    skip
    simp at hc0
  · skip
    skip
    refine awp_skip ?_
    simp only [thenA, inBlockA, reduceIte, Nat.reduceEqDiff, eq_self]
    refine hK1 _ _ ?_
    refine awp_prune [1, 2] ?_
    simp only [prune, List.map_cons, List.map_nil, Go.AM.look, Nat.reduceEqDiff, reduceIte]
    refine awp_sr rfl fun K hK => ?_
    simp -dsimp
    refine callK_intro _ (hva) (by simp) ?_
    simp -dsimp
    refine hK _ _ ?_; clear hK K
    refine awp_sr rfl fun K hK => ?_
    simp -dsimp
    refine callK_intro _ (h1) (by simp) ?_
    simp -dsimp
    refine hK _ _ ?_; clear hK K
    refine awp_sr rfl fun K hK => ?_
    simp -dsimp
    refine callK_intro _ (h2) (by simp) ?_
    simp -dsimp
    refine hK _ _ ?_; clear hK K
    refine awp_seq_k fun K2 hK2 => ?_
    refine awp_sr rfl fun K hK => ?_
    simp -dsimp
    refine callK_intro _ (h3) (by simp) ?_
    simp -dsimp
    refine ⟨fun w => ne_guard1 _ _ _ _ _ w und_bool1, .bool false, fun w => by rw [ne_bool1 _ _ _ w kt_bool1]; simp, ?_⟩
    try simp -dsimp
    refine callK_may _ (fun hm => h3) (by simp) ?_
    simp -dsimp
    refine hK _ _ ?_; clear hK K
    refine awp_cond rfl (fun hc1 => ?_) (fun hc1 => ?_)
    · skip
      skip
      simp at hc1
    · skip
      skip
      refine awp_skip ?_
      simp only [thenA, inBlockA, reduceIte, Nat.reduceEqDiff, eq_self]
      refine hK2 _ _ ?_
      refine awp_prune [1, 2, 5, 6, 7, 8, 9] ?_
      simp only [prune, List.map_cons, List.map_nil, Go.AM.look, Nat.reduceEqDiff, reduceIte]
      refine awp_seq_k fun K3 hK3 => ?_
      refine awp_sr rfl fun K hK => ?_
      simp -dsimp
      refine hK _ _ ?_; clear hK K
      refine awp_cond rfl (fun hc2 => ?_) (fun hc2 => ?_)
      · skip
        skip
        refine awp_sr rfl fun K hK => ?_
        simp -dsimp
        refine callK_may _ (fun hm => c_known1) (by simp) ?_
        simp -dsimp
        refine hK _ _ ?_; clear hK K
        exact awp_ret (by simp)
      · skip
        skip
        exfalso; simp at hc2; omega
theorem c_TrackChecks_t (p : Plan) (r : Int) (hf : p.Fit) (hsm : smallB p = true) (hv : validB p = true) (h0 : 0 ≤ r) (h1 : r < p.Rails.length) : PureCall Try.prog 3 [p.av, I r] (Bo true) := by
  have hs := c_small p hf
  rw [hsm] at hs
  have hva := c_Valid p
  rw [hv] at hva
  have k1 := c_tLength p r hv h0 h1
  have k2 := c_tLine p r hv h0 h1
  have h3 := c_Check p
  rw [hv, if_pos rfl] at h3
  have ro := rail_ok hv h0 h1
  have k4 := c_Length p r h0 h1 ro.f ro.t (by have := ro.s; omega) ro.spots
  have k5 := c_Line p r h0 h1 ro.f ro.t (by have := ro.s; omega)
  have k6 := c_SameSp (p.line r) (by have := ro.s; rw [line_len]; omega)
  refine PureCall.of_body Try.func3 rfl (by decide) (by simp [Try.ntmps3]) ?_
  simp only [Try.ntmps3, Try.results3]
  refine awp_sr rfl fun K hK => ?_
  simp -dsimp
  refine hK _ _ ?_; clear hK K
  refine awp_seq_k fun K1 hK1 => ?_
  refine awp_sr rfl fun K hK => ?_
  simp -dsimp
  refine callK_intro _ (hs) (by simp) ?_
  simp -dsimp
  refine hK _ _ ?_; clear hK K
  refine awp_cond rfl (fun hc0 => ?_) (fun hc0 => ?_)
  · skip
    skip
    simp at hc0
  · skip
    skip
    refine awp_skip ?_
    simp only [thenA, inBlockA, reduceIte, Nat.reduceEqDiff, eq_self]
    refine hK1 _ _ ?_
    refine awp_prune [1, 2] ?_
    simp only [prune, List.map_cons, List.map_nil, Go.AM.look, Nat.reduceEqDiff, reduceIte]
    refine awp_sr rfl fun K hK => ?_
    simp -dsimp
    refine callK_intro _ (hva) (by simp) ?_
    simp -dsimp
    refine hK _ _ ?_; clear hK K
    refine awp_sr rfl fun K hK => ?_
    simp -dsimp
    refine callK_intro _ (k1) (by simp) ?_
    simp -dsimp
    refine hK _ _ ?_; clear hK K
    refine awp_sr rfl fun K hK => ?_
    simp -dsimp
    refine callK_intro _ (k2) (by simp) ?_
    simp -dsimp
    refine hK _ _ ?_; clear hK K
    refine awp_seq_k fun K2 hK2 => ?_
    refine awp_sr rfl fun K hK => ?_
    simp -dsimp
    refine callK_intro _ (h3) (by simp) ?_
    simp -dsimp
    refine ⟨fun w => ne_guard1 _ _ _ _ _ w und_bool1, .bool false, fun w => by rw [ne_bool1 _ _ _ w kt_bool1]; simp, ?_⟩
    try simp -dsimp
    refine callK_may _ (fun hm => h3) (by simp) ?_
    simp -dsimp
    refine hK _ _ ?_; clear hK K
    refine awp_cond rfl (fun hc1 => ?_) (fun hc1 => ?_)
    · skip
      skip
      simp at hc1
    · skip
      skip
      refine awp_skip ?_
      simp only [thenA, inBlockA, reduceIte, Nat.reduceEqDiff, eq_self]
      refine hK2 _ _ ?_
      refine awp_prune [1, 2, 5, 6, 7, 8, 9] ?_
      simp only [prune, List.map_cons, List.map_nil, Go.AM.look, Nat.reduceEqDiff, reduceIte]
      refine awp_seq_k fun K3 hK3 => ?_
      refine awp_sr rfl fun K hK => ?_
      simp -dsimp
      refine hK _ _ ?_; clear hK K
      refine awp_cond rfl (fun hc2 => ?_) (fun hc2 => ?_)
      · skip
        skip
        exfalso; simp at hc2; omega
      · skip
        skip
        refine awp_skip ?_
        simp only [thenA, inBlockA, reduceIte, Nat.reduceEqDiff, eq_self]
        refine hK3 _ _ ?_
        refine awp_prune [1, 2, 6, 7, 8, 9] ?_
        simp only [prune, List.map_cons, List.map_nil, Go.AM.look, Nat.reduceEqDiff, reduceIte]
        refine awp_sr rfl fun K hK => ?_
        simp -dsimp
        refine callK_may _ (fun hm => k4) (by simp) ?_
        simp -dsimp
        refine callK_may _ (fun hm => k5) (by simp) ?_
        simp -dsimp
        refine callK_may _ (fun hm => k6) (by simp) ?_
        simp -dsimp
        refine callK_may _ (fun hm => c_known1) (by simp) ?_
        simp -dsimp
        refine hK _ _ ?_; clear hK K
        exact awp_ret (by simp)
theorem c_TrackChecks (p : Plan) (r : Int) (hf : p.Fit) : PureCall Try.prog 3 [p.av, I r] (Bo true) := by
  cases hs : smallB p with
  | false => exact c_TrackChecks_a p r hf hs
  | true =>
    cases hv : validB p with
    | false => exact c_TrackChecks_v p r hf hs hv
    | true =>
      cases h : inr r 0 (p.Rails.length - 1) with
      | false => exact c_TrackChecks_m p r hf hs hv h
      | true =>
        have := inr_iff.1 h
        exact c_TrackChecks_t p r hf hs hv (by omega) (by omega)
end Go.Tram
