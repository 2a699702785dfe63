/- Walks: the law of the next moves. -/
import Derived.Test.YtdabjdajemiagaaGreatP4
namespace Go.Tram
open Go.AM Go.Proofs
set_option maxRecDepth 100000
set_option maxHeartbeats 4000000
set_option linter.unusedVariables false
set_option linter.unusedSimpArgs false

theorem fine_parts {p : Plan} {m n : Move} (h : fineB p m n = true) : validB p = true ∧ movB p m = true ∧ movB p n = true := by
  simp only [fineB, Bool.and_eq_true] at h
  exact ⟨h.2.1, h.2.2.1, h.2.2.2⟩

theorem c_TrackNext (p : Plan) (m n : Move) (hf : p.Fit) : PureCall Tryz.prog 3 [p.av, m.av, n.av] (Bo true) := by
  have hfi := c_fine p m n hf
  cases hb : fineB p m n with
  | false =>
    rw [hb] at hfi
    refine PureCall.of_body Tryz.func3 rfl (by decide) (by simp [Tryz.ntmps3]) ?_
    simp only [Tryz.ntmps3, Tryz.results3]
    refine awp_sr rfl fun K hK => ?_
    simp -dsimp
    refine hK _ _ ?_; clear hK K
    refine awp_seq_k fun K1 hK1 => ?_
    refine awp_sr rfl fun K hK => ?_
    simp -dsimp
    refine callK_intro _ (hfi) (by simp) ?_
    simp -dsimp
    refine hK _ _ ?_; clear hK K
    refine awp_cond rfl (fun hc0 => ?_) (fun hc0 => ?_)
    · skip
      skip
      refine awp_sr rfl fun K hK => ?_
      simp -dsimp
      refine callK_intro _ (c_known1) (by simp) ?_
      simp -dsimp
      refine hK _ _ ?_; clear hK K
      exact awp_ret (by simp)
    · skip
      skip
      simp at hc0
  | true =>
    obtain ⟨hv, hm, hn⟩ := fine_parts hb
    rw [hb] at hfi
    have h1 := c_tNext_t p m hv hm
    have h2 := c_tFollows_t p m n hv hm hn
    have h3 := c_tBetween_t p m n hv hm hn
    have r1 := c_rNext p m hv hm
    have hl := nextL_len p m hv hm
    have s1 := c_SameM_lst (nextL p m) (by omega)
    have r2 := c_rFollows p m n hv hm
    have r3 := c_rBetween p m n hv hm
    have he := foll_eq hv hm hn
    rw [← he] at r2
    have hbe : follB p m n = true → pBetw p m n = rBetw p m n := fun h => betw_eq hv hm (by rw [← he]; exact h)
    generalize nextL p m = L at h1 r1 s1
    generalize pBetw p m n = PB at h3 hbe
    generalize rBetw p m n = RB at r3 hbe
    generalize follB p m n = b at h2 h3 r2 hbe
    generalize isSet p m = s at h3 r3
    refine PureCall.of_body Tryz.func3 rfl (by decide) (by simp [Tryz.ntmps3]) ?_
    simp only [Tryz.ntmps3, Tryz.results3]
    refine awp_sr rfl fun K hK => ?_
    simp -dsimp
    refine hK _ _ ?_; clear hK K
    refine awp_seq_k fun K1 hK1 => ?_
    refine awp_sr rfl fun K hK => ?_
    simp -dsimp
    refine callK_intro _ (hfi) (by simp) ?_
    simp -dsimp
    refine hK _ _ ?_; clear hK K
    refine awp_cond rfl (fun hc0 => ?_) (fun hc0 => ?_)
    · skip
      skip
      simp at hc0
    · skip
      skip
      refine awp_skip ?_
      simp only [thenA, inBlockA, reduceIte, Nat.reduceEqDiff, eq_self]
      refine hK1 _ _ ?_
      refine awp_prune [3, 4, 5] ?_
      simp only [prune, List.map_cons, List.map_nil, Go.AM.look, Nat.reduceEqDiff, reduceIte]
      refine awp_sr rfl fun K hK => ?_
      simp -dsimp
      refine callK_intro _ (h1) (by simp) ?_
      simp -dsimp
      refine hK _ _ ?_; clear hK K
      refine awp_sr rfl fun K hK => ?_
      simp -dsimp
      refine callK_intro _ (h2) (by simp) ?_
      simp -dsimp
      refine hK _ _ ?_; clear hK K
      refine awp_sr rfl fun K hK => ?_
      simp -dsimp
      refine callK_intro _ (h3) (by simp) ?_
      simp -dsimp
      refine hK _ _ ?_; clear hK K
      refine awp_seq_k fun K2 hK2 => ?_
      refine awp_sr rfl fun K hK => ?_
      simp -dsimp
      refine callK_may _ (fun hm => r1) (by simp) ?_
      simp -dsimp
      refine callK_may _ (fun hm => s1) (by simp) ?_
      simp -dsimp
      refine callK_may _ (fun hm => r2) (by simp) ?_
      simp -dsimp
      refine ⟨fun w => ne_guard1 _ _ _ _ _ w und_bool1, .bool false, fun w => by rw [ne_bool1 _ _ _ w kt_bool1]; simp, ?_⟩
      simp -dsimp
      refine hK _ _ ?_; clear hK K
      refine awp_cond rfl (fun hc1 => ?_) (fun hc1 => ?_)
      · skip
        skip
        simp at hc1
      · skip
        skip
        refine awp_skip ?_
        simp only [thenA, inBlockA, reduceIte, Nat.reduceEqDiff, eq_self]
        refine hK2 _ _ ?_
        refine awp_prune [3, 4, 5, 9, 11, 12] ?_
        simp only [prune, List.map_cons, List.map_nil, Go.AM.look, Nat.reduceEqDiff, reduceIte]
        refine awp_seq_k fun K3 hK3 => ?_
        refine awp_sr rfl fun K hK => ?_
        simp -dsimp
        refine hK _ _ ?_; clear hK K
        refine awp_cond rfl (fun hc2 => ?_) (fun hc2 => ?_)
        · skip
          try simp at hc2
          refine awp_sr rfl fun K hK => ?_
          simp -dsimp
          refine callK_may _ (fun hm => c_known1) (by simp) ?_
          simp -dsimp
          refine hK _ _ ?_; clear hK K
          exact awp_ret (by simp_all)
        · skip
          try simp at hc2
          refine awp_skip ?_
          simp only [thenA, inBlockA, reduceIte, Nat.reduceEqDiff, eq_self]
          refine hK3 _ _ ?_
          refine awp_prune [3, 4, 5, 11, 12] ?_
          simp only [prune, List.map_cons, List.map_nil, Go.AM.look, Nat.reduceEqDiff, reduceIte]
          refine awp_sr rfl fun K hK => ?_
          simp -dsimp
          refine callK_intro _ (r3) (by simp) ?_
          simp -dsimp
          refine hK _ _ ?_; clear hK K
          refine awp_seq_k fun K4 hK4 => ?_
          refine awp_sr rfl fun K hK => ?_
          simp -dsimp
          refine hK _ _ ?_; clear hK K
          refine awp_cond rfl (fun hc3 => ?_) (fun hc3 => ?_)
          · skip
            try simp at hc3
            refine awp_sr rfl fun K hK => ?_
            simp -dsimp
            refine callK_may _ (fun hm => c_known1) (by simp) ?_
            simp -dsimp
            refine hK _ _ ?_; clear hK K
            exact awp_ret (by simp_all)
          · skip
            try simp at hc3
            refine awp_skip ?_
            simp only [thenA, inBlockA, reduceIte, Nat.reduceEqDiff, eq_self]
            refine hK4 _ _ ?_
            refine awp_prune [11, 12, 13] ?_
            simp only [prune, List.map_cons, List.map_nil, Go.AM.look, Nat.reduceEqDiff, reduceIte]
            refine awp_sr rfl fun K hK => ?_
            simp -dsimp
            refine callK_may _ (fun hm => c_known1) (by simp) ?_
            simp -dsimp
            refine hK _ _ ?_; clear hK K
            exact awp_ret (by simp_all)
end Go.Tram
