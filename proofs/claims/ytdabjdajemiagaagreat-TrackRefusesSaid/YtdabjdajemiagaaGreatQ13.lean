/- Walks: the law of what is refused. -/
import Derived.Test.YtdabjdajemiagaaGreatQB
import Derived.Test.YtdabjdajemiagaaGreatP7a
namespace Go.Tram
open Go.AM Go.Proofs
set_option maxRecDepth 100000
set_option maxHeartbeats 4000000
set_option linter.unusedVariables false
set_option linter.unusedSimpArgs false

theorem c_tWays_v (p : Plan) (a b : Move) (most : Int) (h : validB p = false) : PureCall Tryz.prog 50 [p.av, a.av, b.av, I most] (.tup [nilS, I 2]) := by
  refine PureCall.of_body Tryz.func50 rfl (by decide) (by simp [Tryz.ntmps50]) ?_
  simp only [Tryz.ntmps50, Tryz.results50]
  refine awp_sr rfl fun K hK => ?_
  simp -dsimp
  refine hK _ _ ?_; clear hK K
  refine awp_scope ?_
  refine awp_sr rfl fun K hK => ?_
  simp -dsimp
  refine callK_intro _ (c_open_f p h) (by simp) ?_
  simp -dsimp
  refine hK _ _ ?_; clear hK K
  refine awp_seq_k fun K1 hK1 => ?_
  refine awp_sr rfl fun K hK => ?_
  simp -dsimp
  refine callK_may (Bo true) (fun hm => by simp at hm) (by simp) ?_
  simp -dsimp
  refine callK_may (Bo true) (fun hm => by simp at hm) (by simp) ?_
  simp -dsimp
  refine callK_may _ (fun hm => c_within most 1 200) (by simp) ?_
  simp -dsimp
  refine hK _ _ ?_; clear hK K
  refine awp_cond rfl (fun hc0 => ?_) (fun hc0 => ?_)
  · skip
    skip
    refine awp_sr rfl fun K hK => ?_
    simp -dsimp
    refine hK _ _ ?_; clear hK K
    exact awp_ret (by simp)
  · skip
    skip
    simp at hc0
theorem c_tWays_m (p : Plan) (a b : Move) (most : Int) (hv : validB p = true) (h : (movB p a && (movB p b && inr most 1 200)) = false) : PureCall Tryz.prog 50 [p.av, a.av, b.av, I most] (.tup [nilS, I 2]) := by
  have hop := c_open_t p hv
  have hh := c_nhas p a.Rail a.Back hv
  have hk := c_nhas p b.Rail b.Back hv
  have hw := c_within most 1 200
  rw [show inr a.Rail 0 (p.Rails.length - 1) = movB p a from rfl] at hh
  rw [show inr b.Rail 0 (p.Rails.length - 1) = movB p b from rfl] at hk
  generalize net p = sh at hop hh hk
  refine PureCall.of_body Tryz.func50 rfl (by decide) (by simp [Tryz.ntmps50]) ?_
  simp only [Tryz.ntmps50, Tryz.results50]
  refine awp_sr rfl fun K hK => ?_
  simp -dsimp
  refine hK _ _ ?_; clear hK K
  refine awp_scope ?_
  refine awp_sr rfl fun K hK => ?_
  simp -dsimp
  refine callK_intro _ (hop) (by simp) ?_
  simp -dsimp
  refine hK _ _ ?_; clear hK K
  refine awp_seq_k fun K1 hK1 => ?_
  refine awp_sr rfl fun K hK => ?_
  simp -dsimp
  refine callK_may _ (fun hm => hh) (by simp) ?_
  simp -dsimp
  refine callK_may _ (fun hm => hk) (by simp) ?_
  simp -dsimp
  refine callK_may _ (fun hm => hw) (by simp) ?_
  simp -dsimp
  refine hK _ _ ?_; clear hK K
  refine awp_cond rfl (fun hc0 => ?_) (fun hc0 => ?_)
  · skip
    skip
    refine awp_sr rfl fun K hK => ?_
    simp -dsimp
    refine hK _ _ ?_; clear hK K
    exact awp_ret (by simp)
  · skip
    skip
    simp at hc0; simp [hc0] at h
theorem c_tCons_v (p : Plan) (m : Move) (h : validB p = false) : PureCall Tryz.prog 46 [p.av, m.av, nilS] (Bo false) := by
  refine PureCall.of_bodyG Tryz.func46 rfl (by decide) (by simp [Tryz.ntmps46]) ?_
  intro J hJ
  simp only [Tryz.ntmps46, Tryz.results46]
  refine gwp_sr rfl (by decide) rfl rfl fun K hK => ?_
  simp -dsimp
  refine hK _ _ ?_; clear hK K
  refine gwp_sr rfl (by decide) rfl rfl fun K hK => ?_
  simp -dsimp
  refine callK_intro _ (c_open_f p h) (by simp) ?_
  simp -dsimp
  refine hK _ _ ?_; clear hK K
  refine gwp_seq_k fun K1 hK1 => ?_
  refine gwp_sr rfl (by decide) rfl rfl fun K hK => ?_
  simp -dsimp
  refine callK_may (Bo true) (fun hm => by simp at hm) (by simp) ?_
  simp -dsimp
  refine hK _ _ ?_; clear hK K
  refine gwp_cond rfl (fun hc0 => ?_) (fun hc0 => ?_)
  · skip
    skip
    refine gwp_sr rfl (by decide) rfl rfl fun K hK => ?_
    simp -dsimp
    refine hK _ _ ?_; clear hK K
    exact gwp_ret (by simp)
  · skip
    skip
    simp at hc0
theorem c_tCons_m (p : Plan) (m : Move) (hv : validB p = true) (h : movB p m = false) : PureCall Tryz.prog 46 [p.av, m.av, nilS] (Bo false) := by
  have hop := c_open_t p hv
  have hh := c_nhas p m.Rail m.Back hv
  rw [show inr m.Rail 0 (p.Rails.length - 1) = false from h] at hh
  generalize net p = sh at hop hh
  refine PureCall.of_bodyG Tryz.func46 rfl (by decide) (by simp [Tryz.ntmps46]) ?_
  intro J hJ
  simp only [Tryz.ntmps46, Tryz.results46]
  refine gwp_sr rfl (by decide) rfl rfl fun K hK => ?_
  simp -dsimp
  refine hK _ _ ?_; clear hK K
  refine gwp_sr rfl (by decide) rfl rfl fun K hK => ?_
  simp -dsimp
  refine callK_intro _ (hop) (by simp) ?_
  simp -dsimp
  refine hK _ _ ?_; clear hK K
  refine gwp_seq_k fun K1 hK1 => ?_
  refine gwp_sr rfl (by decide) rfl rfl fun K hK => ?_
  simp -dsimp
  refine callK_may _ (fun hm => hh) (by simp) ?_
  simp -dsimp
  refine hK _ _ ?_; clear hK K
  refine gwp_cond rfl (fun hc0 => ?_) (fun hc0 => ?_)
  · skip
    skip
    refine gwp_sr rfl (by decide) rfl rfl fun K hK => ?_
    simp -dsimp
    refine hK _ _ ?_; clear hK K
    exact gwp_ret (by simp)
  · skip
    skip
    simp at hc0

theorem c_TrackRefuses_f (p : Plan) (m : Move) (hf : p.Fit) (h : (smallB p && !(validB p && movB p m)) = false) : PureCall Tryz.prog 12 [p.av, m.av] (Bo true) := by
  have hs := c_small p hf
  have hva := c_Valid p
  have hmo := fun hR => c_rMove p m hR
  have hvR : validB p = true → p.Rails.length ≤ 100000 := fun hv => by have := (valid_parts hv).2.1; omega
  generalize smallB p = s at hs h
  generalize validB p = v at hva h hvR
  generalize movB p m = b at hmo h
  refine PureCall.of_body Tryz.func12 rfl (by decide) (by simp [Tryz.ntmps12]) ?_
  simp only [Tryz.ntmps12, Tryz.results12]
  refine awp_sr rfl fun K hK => ?_
  simp -dsimp
  refine hK _ _ ?_; clear hK K
  refine awp_seq_k fun K1 hK1 => ?_
  refine awp_sr rfl fun K hK => ?_
  simp -dsimp
  refine callK_intro _ (hs) (by simp) ?_
  simp -dsimp
  refine callK_may _ (fun hm => hva) (by simp) ?_
  simp -dsimp
  refine callK_may _ (fun hm => hmo (hvR (by simp at hm; exact hm.2))) (by simp) ?_
  simp -dsimp
  refine hK _ _ ?_; clear hK K
  refine awp_cond rfl (fun hc0 => ?_) (fun hc0 => ?_)
  · skip
    skip
    refine awp_sr rfl fun K hK => ?_
    simp -dsimp
    refine callK_intro _ (c_known1) (by simp) ?_
    simp -dsimp
    refine hK _ _ ?_; clear hK K
    exact awp_ret (by simp)
  · skip
    skip
    revert hc0 h; clear hs hva hmo hvR; cases s <;> cases v <;> cases b <;> simp
theorem way_one {p : Plan} {m : Move} (h : movB p m = false) : wayB p [m] = false := by
  simp [wayB, stepB, h, List.range_succ]
theorem c_TrackRefuses_v (p : Plan) (m : Move) (hf : p.Fit) (hs0 : smallB p = true) (hv : validB p = false) : PureCall Tryz.prog 12 [p.av, m.av] (Bo true) := by
  have hs := c_small p hf
  have hva := c_Valid p
  rw [hs0] at hs
  rw [hv] at hva
  have h1 := c_tNext_v p m hv
  have h2 := c_tFollows_v p m m hv
  have h3 := c_tBetween_v p m m hv
  have h4 := (c_tWayLength_v p [m] hv).wk (args := [p.av, .full 2 [[I m.Rail, Bo m.Back]]]) (by simp [AM.wk])
  have h5 := (c_tSettings_v p [m] hv).wk (args := [p.av, .full 2 [[I m.Rail, Bo m.Back]]]) (by simp [AM.wk])
  have h6 := (c_tCovers_v p [m] 1 1 hv).wk (args := [p.av, .full 2 [[I m.Rail, Bo m.Back]], I 1, I 1]) (by simp [AM.wk])
  have h7 := c_tShortest_v p m m hv
  have h8 := c_tDistances_v p m hv
  have h9 := c_tWays_v p m m 1 hv
  have h10 := c_tTurns_v p m.Rail hv
  have h11 := c_tEndless_v p hv
  have h12 := c_tCons_v p m hv
  have w00 : IntKind.i64.wrap 0 = 0 := wrap_in (by omega) (by omega)
  refine PureCall.of_body Tryz.func12 rfl (by decide) (by simp [Tryz.ntmps12]) ?_
  simp only [Tryz.ntmps12, Tryz.results12]
  refine awp_sr rfl fun K hK => ?_
  simp -dsimp
  refine hK _ _ ?_; clear hK K
  refine awp_seq_k fun K1 hK1 => ?_
  refine awp_sr rfl fun K hK => ?_
  simp -dsimp
  refine callK_intro _ (hs) (by simp) ?_
  simp -dsimp
  refine callK_may _ (fun hm => hva) (by simp) ?_
  simp -dsimp
  refine callK_may (Bo true) (fun hm => by simp at hm) (by simp) ?_
  simp -dsimp
  refine hK _ _ ?_; clear hK K
  refine awp_cond rfl (fun hc0 => ?_) (fun hc0 => ?_)
  · skip
    skip
    simp at hc0
  · skip
    skip
    refine awp_skip ?_
    simp only [thenA, inBlockA, reduceIte, Nat.reduceEqDiff, eq_self]
    refine hK1 _ _ ?_
    refine awp_prune [2, 3] ?_
    simp only [prune, List.map_cons, List.map_nil, Go.AM.look, Nat.reduceEqDiff, reduceIte]
    refine awp_sr rfl fun K hK => ?_
    simp -dsimp
    refine hK _ _ ?_; clear hK K
    refine awp_sr rfl fun K hK => ?_
    simp -dsimp
    refine callK_intro _ (h1) (by simp) ?_
    simp -dsimp
    refine hK _ _ ?_; clear hK K
    refine awp_sr rfl fun K hK => ?_
    simp -dsimp
    refine callK_intro _ (h2) (by simp) ?_
    simp -dsimp
    refine hK _ _ ?_; clear hK K
    refine awp_sr rfl fun K hK => ?_
    simp -dsimp
    refine callK_intro _ (h3) (by simp) ?_
    simp -dsimp
    refine hK _ _ ?_; clear hK K
    refine awp_sr rfl fun K hK => ?_
    simp -dsimp
    refine callK_intro _ (h4) (by simp) ?_
    simp -dsimp
    refine hK _ _ ?_; clear hK K
    refine awp_sr rfl fun K hK => ?_
    simp -dsimp
    refine callK_intro _ (h5) (by simp) ?_
    simp -dsimp
    refine hK _ _ ?_; clear hK K
    refine awp_sr rfl fun K hK => ?_
    simp -dsimp
    refine callK_intro _ (h6) (by simp) ?_
    simp -dsimp
    refine hK _ _ ?_; clear hK K
    refine awp_sr rfl fun K hK => ?_
    simp -dsimp
    refine callK_intro _ (h7) (by simp) ?_
    simp -dsimp
    refine hK _ _ ?_; clear hK K
    refine awp_sr rfl fun K hK => ?_
    simp -dsimp
    refine callK_intro _ (h8) (by simp) ?_
    simp -dsimp
    refine hK _ _ ?_; clear hK K
    refine awp_sr rfl fun K hK => ?_
    simp -dsimp
    refine callK_intro _ (h9) (by simp) ?_
    simp -dsimp
    refine hK _ _ ?_; clear hK K
    refine awp_sr rfl fun K hK => ?_
    simp -dsimp
    refine callK_intro _ (h10) (by simp) ?_
    simp -dsimp
    refine hK _ _ ?_; clear hK K
    refine awp_seq_k fun K2 hK2 => ?_
    refine awp_sr rfl fun K hK => ?_
    simp -dsimp
    refine hK _ _ ?_; clear hK K
    refine awp_cond rfl (fun hc1 => ?_) (fun hc1 => ?_)
    · skip
      skip
      simp at hc1
    · skip
      skip
      refine awp_skip ?_
      simp only [thenA, inBlockA, reduceIte, Nat.reduceEqDiff, eq_self]
      refine hK2 _ _ ?_
      refine awp_prune [2, 3, 6, 8, 10, 12, 14, 16, 18, 20, 22, 24] ?_
      simp only [prune, List.map_cons, List.map_nil, Go.AM.look, Nat.reduceEqDiff, reduceIte]
      refine awp_sr rfl fun K hK => ?_
      simp -dsimp
      refine callK_intro _ (h11) (by simp) ?_
      simp -dsimp
      refine hK _ _ ?_; clear hK K
      refine awp_sr rfl fun K hK => ?_
      simp -dsimp [w00]
      refine callK_intro _ (hva) (by simp) ?_
      simp -dsimp [w00]
      refine ⟨fun w => (eq_bool1 _ _ _ _ _ w und_bool1 kt_bool1).1, .bool true, fun w => by rw [(eq_bool1 _ (.tmp 0) (.tmp 0) _ _ w und_bool1 kt_bool1).2]; simp, ?_⟩
      simp -dsimp [w00]
      refine callK_may _ (fun hm => h12) (by simp) ?_
      simp -dsimp [w00]
      refine callK_may _ (fun hm => c_known1) (by simp) ?_
      simp -dsimp [w00]
      refine hK _ _ ?_; clear hK K
      exact awp_ret (by simp)
theorem c_TrackRefuses_m (p : Plan) (m : Move) (hf : p.Fit) (hs0 : smallB p = true) (hv : validB p = true) (hm0 : movB p m = false) : PureCall Tryz.prog 12 [p.av, m.av] (Bo true) := by
  have hR := (valid_parts hv).2.1
  have hs := c_small p hf
  have hva := c_Valid p
  have hmo := c_rMove p m (by omega)
  rw [hs0] at hs
  rw [hv] at hva
  rw [hm0] at hmo
  have hw := way_one hm0
  have hmm : (movB p m && movB p m) = false := by rw [hm0]; rfl
  have h1 := c_tNext_m p m hv hm0
  have h2 := c_tFollows_m p m m hv hmm
  have h3 := c_tBetween_m p m m hv hmm
  have h4 := (c_tWayLength_m p [m] hv (by simp) hw).wk (args := [p.av, .full 2 [[I m.Rail, Bo m.Back]]]) (by simp [AM.wk])
  have h5 := (c_tSettings_m p [m] hv (by simp) hw).wk (args := [p.av, .full 2 [[I m.Rail, Bo m.Back]]]) (by simp [AM.wk])
  have h6 := (c_tCovers_f p [m] 1 1 hv (by simp) (by rw [hw]; rfl)).wk (args := [p.av, .full 2 [[I m.Rail, Bo m.Back]], I 1, I 1]) (by simp [AM.wk])
  have h7 := c_tShortest_m p m m hv hmm
  have h8 := c_tDistances_m p m hv hm0
  have h9 := c_tWays_m p m m 1 hv (by rw [hm0]; rfl)
  have h10 := c_tTurns_m p m.Rail hv hm0
  have h11 := c_tEndless_t p hv
  have h12 := c_tCons_m p m hv hm0
  have w00 : IntKind.i64.wrap 0 = 0 := wrap_in (by omega) (by omega)
  generalize endL p = E at h11
  refine PureCall.of_body Tryz.func12 rfl (by decide) (by simp [Tryz.ntmps12]) ?_
  simp only [Tryz.ntmps12, Tryz.results12]
  refine awp_sr rfl fun K hK => ?_
  simp -dsimp
  refine hK _ _ ?_; clear hK K
  refine awp_seq_k fun K1 hK1 => ?_
  refine awp_sr rfl fun K hK => ?_
  simp -dsimp
  refine callK_intro _ (hs) (by simp) ?_
  simp -dsimp
  refine callK_may _ (fun hm => hva) (by simp) ?_
  simp -dsimp
  refine callK_may _ (fun hm => hmo) (by simp) ?_
  simp -dsimp
  refine hK _ _ ?_; clear hK K
  refine awp_cond rfl (fun hc0 => ?_) (fun hc0 => ?_)
  · skip
    skip
    simp at hc0
  · skip
    skip
    refine awp_skip ?_
    simp only [thenA, inBlockA, reduceIte, Nat.reduceEqDiff, eq_self]
    refine hK1 _ _ ?_
    refine awp_prune [2, 3] ?_
    simp only [prune, List.map_cons, List.map_nil, Go.AM.look, Nat.reduceEqDiff, reduceIte]
    refine awp_sr rfl fun K hK => ?_
    simp -dsimp
    refine hK _ _ ?_; clear hK K
    refine awp_sr rfl fun K hK => ?_
    simp -dsimp
    refine callK_intro _ (h1) (by simp) ?_
    simp -dsimp
    refine hK _ _ ?_; clear hK K
    refine awp_sr rfl fun K hK => ?_
    simp -dsimp
    refine callK_intro _ (h2) (by simp) ?_
    simp -dsimp
    refine hK _ _ ?_; clear hK K
    refine awp_sr rfl fun K hK => ?_
    simp -dsimp
    refine callK_intro _ (h3) (by simp) ?_
    simp -dsimp
    refine hK _ _ ?_; clear hK K
    refine awp_sr rfl fun K hK => ?_
    simp -dsimp
    refine callK_intro _ (h4) (by simp) ?_
    simp -dsimp
    refine hK _ _ ?_; clear hK K
    refine awp_sr rfl fun K hK => ?_
    simp -dsimp
    refine callK_intro _ (h5) (by simp) ?_
    simp -dsimp
    refine hK _ _ ?_; clear hK K
    refine awp_sr rfl fun K hK => ?_
    simp -dsimp
    refine callK_intro _ (h6) (by simp) ?_
    simp -dsimp
    refine hK _ _ ?_; clear hK K
    refine awp_sr rfl fun K hK => ?_
    simp -dsimp
    refine callK_intro _ (h7) (by simp) ?_
    simp -dsimp
    refine hK _ _ ?_; clear hK K
    refine awp_sr rfl fun K hK => ?_
    simp -dsimp
    refine callK_intro _ (h8) (by simp) ?_
    simp -dsimp
    refine hK _ _ ?_; clear hK K
    refine awp_sr rfl fun K hK => ?_
    simp -dsimp
    refine callK_intro _ (h9) (by simp) ?_
    simp -dsimp
    refine hK _ _ ?_; clear hK K
    refine awp_sr rfl fun K hK => ?_
    simp -dsimp
    refine callK_intro _ (h10) (by simp) ?_
    simp -dsimp
    refine hK _ _ ?_; clear hK K
    refine awp_seq_k fun K2 hK2 => ?_
    refine awp_sr rfl fun K hK => ?_
    simp -dsimp
    refine hK _ _ ?_; clear hK K
    refine awp_cond rfl (fun hc1 => ?_) (fun hc1 => ?_)
    · skip
      skip
      simp at hc1
    · skip
      skip
      refine awp_skip ?_
      simp only [thenA, inBlockA, reduceIte, Nat.reduceEqDiff, eq_self]
      refine hK2 _ _ ?_
      refine awp_prune [2, 3, 6, 8, 10, 12, 14, 16, 18, 20, 22, 24] ?_
      simp only [prune, List.map_cons, List.map_nil, Go.AM.look, Nat.reduceEqDiff, reduceIte]
      refine awp_sr rfl fun K hK => ?_
      simp -dsimp
      refine callK_intro _ (h11) (by simp) ?_
      simp -dsimp
      refine hK _ _ ?_; clear hK K
      refine awp_sr rfl fun K hK => ?_
      simp -dsimp [w00]
      refine callK_intro _ (hva) (by simp) ?_
      simp -dsimp [w00]
      refine ⟨fun w => (eq_bool1 _ _ _ _ _ w und_bool1 kt_bool1).1, .bool true, fun w => by rw [(eq_bool1 _ (.tmp 0) (.tmp 0) _ _ w und_bool1 kt_bool1).2]; simp, ?_⟩
      simp -dsimp [w00]
      refine callK_may _ (fun hm => h12) (by simp) ?_
      simp -dsimp [w00]
      refine callK_may _ (fun hm => c_known1) (by simp) ?_
      simp -dsimp [w00]
      refine hK _ _ ?_; clear hK K
      exact awp_ret (by simp)
theorem c_TrackRefuses (p : Plan) (m : Move) (hf : p.Fit) : PureCall Tryz.prog 12 [p.av, m.av] (Bo true) := by
  cases h : (smallB p && !(validB p && movB p m)) with
  | false => exact c_TrackRefuses_f p m hf h
  | true =>
    have hs : smallB p = true := (Bool.and_eq_true_iff.1 h).1
    cases hv : validB p with
    | false => exact c_TrackRefuses_v p m hf hs hv
    | true =>
      cases hm : movB p m with
      | false => exact c_TrackRefuses_m p m hf hs hv hm
      | true => rw [hs, hv, hm] at h; cases h
end Go.Tram
