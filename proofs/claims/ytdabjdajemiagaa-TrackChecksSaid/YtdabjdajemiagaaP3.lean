/- Walks: what is known of the example of moves. -/
import Derived.Test.YtdabjdajemiagaaP2
import Derived.Test.YtdabjdajemiagaaL1
namespace Go.Tram
open Go.AM Go.Proofs
set_option maxRecDepth 100000
set_option maxHeartbeats 4000000
set_option linter.unusedVariables false
set_option linter.unusedSimpArgs false

theorem c_ExLit1 : PureCall Try.prog 13 [] exLit := by
  refine PureCall.of_body Try.func13 rfl (by decide) (by simp [Try.ntmps13]) ?_
  simp only [Try.ntmps13, Try.results13]
  refine awp_sr rfl fun K hK => ?_
  simp -dsimp
  refine hK _ _ ?_; clear hK K
  refine awp_sr rfl fun K hK => ?_
  simp -dsimp
  refine hK _ _ ?_; clear hK K
  exact awp_ret (by simp [exLit])
theorem c_Example1 : PureCall Try.prog 13 [] exPlan.av := by
  have e : wkN 2 6 exLit = exPlan.av := by rfl
  refine c_ExLit1.res fun w S y h => ?_
  rw [← e]
  exact wkN_rep 2 6 _ _ h

theorem exd1 : dStep exPlan (dInit exPlan 4) = ⟨[-1, -1, -1, -1, 0, -1], [0, 0, 0, 0, 0, 0], [⟨0, 1240, 1⟩]⟩ := by
  have h1 : dInit exPlan 4 = ⟨[-1, -1, -1, -1, -1, -1], [0, 0, 0, 0, 0, 0], [⟨4, 0, 0⟩]⟩ := by rfl
  have h2 : popX [⟨4, 0, 0⟩] = ⟨4, 0, 0⟩ := by decide +kernel
  have h3 : popQ [⟨4, 0, 0⟩] = [] := by decide +kernel
  have h4 : befL exPlan 4 = [0] := by decide +kernel
  have h5 : nxF exPlan ⟨4, 0, 0⟩ 0 = ⟨0, 1240, 1⟩ := by simp [nxF, ex_len2]
  have h6 : gd [(-1 : Int), -1, -1, -1, -1, -1] 4 = -1 := by decide +kernel
  rw [h1]
  simp only [dStep, h2, h3, h4]
  rw [show ((4 : Int).toNat) = 4 from rfl, h6, if_neg (by omega)]
  simp only [pushTo, List.foldl_cons, List.foldl_nil, h5]
  rfl
theorem exd2 : dStep exPlan ⟨[-1, -1, -1, -1, 0, -1], [0, 0, 0, 0, 0, 0], [⟨0, 1240, 1⟩]⟩ = ⟨[1240, -1, -1, -1, 0, -1], [1, 0, 0, 0, 0, 0], []⟩ := by
  have h2 : popX [⟨0, 1240, 1⟩] = ⟨0, 1240, 1⟩ := by decide +kernel
  have h3 : popQ [⟨0, 1240, 1⟩] = [] := by decide +kernel
  have h4 : befL exPlan 0 = [] := by decide +kernel
  have h6 : gd [(-1 : Int), -1, -1, -1, 0, -1] 0 = -1 := by decide +kernel
  simp only [dStep, h2, h3, h4]
  rw [show ((0 : Int).toNat) = 0 from rfl, h6, if_neg (by omega)]
  rfl
theorem exd : (dEnd exPlan 4).ln = [1240, -1, -1, -1, 0, -1] := by
  have h : dMu exPlan (dInit exPlan 4) = 43 := by decide +kernel
  unfold dEnd
  rw [h]
  have hq : (dInit exPlan 4).q ≠ [] := by simp [dInit]
  show (dRun exPlan (42 + 1) (dInit exPlan 4)).ln = _
  rw [dRun, if_neg hq, exd1]
  show (dRun exPlan (41 + 1) _).ln = _
  rw [dRun, if_neg (by simp), exd2, dRun_nil rfl]
theorem ex_len1 : exPlan.len 1 = 1000 := by
  unfold Plan.len
  have h2 : (exPlan.rail 1).Shape = [] := by decide +kernel
  simp [h2, sumTo, ex10]
theorem ex_cov : cvTo exPlan [⟨2, true⟩, ⟨0, true⟩] 1500 800 2 = [⟨2, 0, 540⟩, ⟨0, 740, 1000⟩] := by
  simp [cvTo, List.range_succ, cvStep, begTo, mvAt, cvF, cvT, ex_len0, ex_len2]
theorem ex_beg : begTo exPlan [⟨2, true⟩, ⟨0, true⟩] 2 = 2240 := by simp [begTo, mvAt, ex_len0, ex_len2]

theorem c_known1 : PureCall Try.prog 5 [] (Bo true) := by
  have hv := ex_valid
  have hR : exPlan.Rails.length = 3 := by decide +kernel
  have h1 := c_tLength exPlan 2 hv (by omega) (by omega)
  rw [ex_len2] at h1
  have m0 : movB exPlan ⟨0, false⟩ = true := by decide +kernel
  have m2 : movB exPlan ⟨2, false⟩ = true := by decide +kernel
  have h2 := c_tNext_t exPlan ⟨0, false⟩ hv m0
  rw [show nextL exPlan ⟨0, false⟩ = [⟨1, false⟩, ⟨2, false⟩] by decide +kernel] at h2
  have h3 := c_tBetween_t exPlan ⟨0, false⟩ ⟨2, false⟩ hv m0 m2
  rw [show follB exPlan ⟨0, false⟩ ⟨2, false⟩ = true by decide +kernel, show isSet exPlan ⟨0, false⟩ = true by decide +kernel, show pBetw exPlan ⟨0, false⟩ ⟨2, false⟩ = ⟨1, 2⟩ by decide +kernel] at h3
  have hw : wayB exPlan [⟨2, true⟩, ⟨0, true⟩] = true := by decide +kernel
  have h4 := c_tCovers_t exPlan [⟨2, true⟩, ⟨0, true⟩] 1500 800 hv hw (by omega) (by omega) (by show (1500 : Int) ≤ begTo exPlan [⟨2, true⟩, ⟨0, true⟩] 2; rw [ex_beg]; omega)
  rw [show cvTo exPlan [⟨2, true⟩, ⟨0, true⟩] 1500 800 ([⟨2, true⟩, ⟨0, true⟩] : List Move).length = [⟨2, 0, 540⟩, ⟨0, 740, 1000⟩] from ex_cov] at h4
  have h4' := h4.wk (args := [exPlan.av, .full 2 [[I 2, Bo true], [I 0, Bo true]], I 1500, I 800]) (by rfl)
  have h5 := c_tDistances_t exPlan ⟨2, false⟩ hv m2
  rw [show numM ⟨2, false⟩ = 4 by decide, exd] at h5
  have s1 := c_SameM_full [⟨1, false⟩, ⟨2, false⟩] (by simp)
  have s2 := c_SameC_full [⟨2, 0, 540⟩, ⟨0, 740, 1000⟩] (by simp)
  have s3 := c_SameI_full [1240, -1, -1, -1, 0, -1] (by simp)
  have h0 := c_Example1
  generalize exPlan = p at *
  simp only [List.map_cons, List.map_nil] at h2 h4' h5 s1 s2 s3
  refine PureCall.of_body Try.func5 rfl (by decide) (by simp [Try.ntmps5]) ?_
  simp only [Try.ntmps5, Try.results5]
  refine awp_sr rfl fun K hK => ?_
  simp -dsimp
  refine hK _ _ ?_; clear hK K
  refine awp_sr rfl fun K hK => ?_
  simp -dsimp
  refine callK_intro _ (h0) (by simp) ?_
  simp -dsimp
  refine hK _ _ ?_; clear hK K
  refine awp_sr rfl fun K hK => ?_
  simp -dsimp
  refine callK_intro _ (h1) (by simp) ?_
  simp -dsimp
  refine hK _ _ ?_; clear hK K
  refine awp_sr rfl fun K hK => ?_
  simp -dsimp
  refine callK_intro _ (h2) (by simp) ?_
  simp -dsimp
  refine hK _ _ ?_; clear hK K
  refine awp_sr rfl fun K hK => ?_
  simp -dsimp
  refine callK_intro _ (h3) (by simp) ?_
  simp -dsimp
  refine hK _ _ ?_; clear hK K
  refine awp_sr rfl fun K hK => ?_
  simp -dsimp
  refine callK_intro _ (h4') (by simp) ?_
  simp -dsimp
  refine hK _ _ ?_; clear hK K
  refine awp_sr rfl fun K hK => ?_
  simp -dsimp
  refine callK_intro _ (h5) (by simp) ?_
  simp -dsimp
  refine hK _ _ ?_; clear hK K
  refine awp_seq_k fun K1 hK1 => ?_
  refine awp_sr rfl fun K hK => ?_
  simp -dsimp
  refine hK _ _ ?_; clear hK K
  refine awp_cond rfl (fun hc0 => ?_) (fun hc0 => ?_)
  · skip
    skip
    simp at hc0
  · skip
    skip
    refine awp_skip ?_
    simp only [thenA, inBlockA, reduceIte, Nat.reduceEqDiff, eq_self]
    refine hK1 _ _ ?_
    refine awp_prune [2, 4, 6, 8, 10] ?_
    simp only [prune, List.map_cons, List.map_nil, Go.AM.look, Nat.reduceEqDiff, reduceIte]
    refine awp_sr rfl fun K hK => ?_
    simp -dsimp
    refine callK_may _ (fun hm => s1) (by simp) ?_
    simp -dsimp
    refine callK_may _ (fun hm => s2) (by simp) ?_
    simp -dsimp
    refine callK_may _ (fun hm => s3) (by simp) ?_
    simp -dsimp
    refine hK _ _ ?_; clear hK K
    exact awp_ret (by simp)
end Go.Tram
