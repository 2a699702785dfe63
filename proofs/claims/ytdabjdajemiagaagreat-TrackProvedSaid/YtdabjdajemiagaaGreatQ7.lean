/- Walks: the law of distances that are proved by ways. -/
import Derived.Test.YtdabjdajemiagaaGreatD6
import Derived.Test.YtdabjdajemiagaaGreatE1
import Derived.Test.YtdabjdajemiagaaGreatP7
namespace Go.Tram
open Go.AM Go.Proofs
set_option maxRecDepth 100000
set_option maxHeartbeats 4000000
set_option linter.unusedVariables false
set_option linter.unusedSimpArgs false

theorem num_bd7 {p : Plan} {m : Move} (h : movB p m = true) : 0 ≤ numM m ∧ numM m < 2 * p.Rails.length := by
  have := movB_iff.1 h
  unfold numM; split <;> omega
theorem num_rail {m : Move} : numM m / 2 = m.Rail := by unfold numM; split <;> omega
/-- A way, from its move i on, as a way by numbers. -/
theorem way_pth {p : Plan} {l : List Move} (hv : validB p = true) (hw : wayB p l = true) : ∀ d i, i + d + 1 = l.length → Pth p (numM (mvAt l (l.length - 1))) (numM (mvAt l i)) (begTo p l l.length - begTo p l (i + 1)) d
  | 0, i, h => by
    rw [show l.length - 1 = i by omega, show i + 1 = l.length by omega, Int.sub_self]
    exact .nil
  | d + 1, i, h => by
    have ih := way_pth hv hw d (i + 1) (by omega)
    have hm := way_mov hw i (by omega)
    have hm1 := way_mov hw (i + 1) (by omega)
    have hb := num_bd7 hm
    have hf := way_foll hw (i := i) (by omega)
    rw [← moveM_numM (movB_iff.1 hm).1, ← moveM_numM (movB_iff.1 hm1).1] at hf
    have := Pth.cons hb.1 hb.2 hf ih
    rw [num_rail] at this
    have e : begTo p l l.length - begTo p l (i + 1 + 1) + p.len (mvAt l (i + 1)).Rail = begTo p l l.length - begTo p l (i + 1) := by simp only [begTo]; omega
    rw [e] at this
    exact this
theorem mvAt_some {l : List Move} {i : Nat} (h : i < l.length) : l[i]? = some (mvAt l i) := by
  unfold mvAt; rw [List.getElem?_eq_getElem h]; rfl

theorem c_tLength_t (p : Plan) (r : Int) (hv : validB p = true) (h : inr r 0 (p.Rails.length - 1) = true) : PureCall Tryz.prog 28 [p.av, I r] (.tup [I (p.len r), I 0]) := by
  have hR := (valid_parts hv).2.1
  have hr := inr_iff.1 h
  have hop := c_open_t p hv
  have hh := c_nhas p r false hv
  rw [h] at hh
  have hlg : (lensA p p.Rails.length)[r.toNat]? = some [I (p.len r)] := by rw [lensA_get (by omega), show ((r.toNat : Nat) : Int) = r by omega]
  have h0 : 0 ≤ r := by omega
  refine PureCall.of_body Tryz.func28 rfl (by decide) (by simp [Tryz.ntmps28]) ?_
  simp only [Tryz.ntmps28, Tryz.results28]
  refine awp_sr rfl fun K hK => ?_
  simp -dsimp
  refine hK _ _ ?_; clear hK K
  refine awp_sr rfl fun K hK => ?_
  simp -dsimp [net]
  refine callK_intro _ (hop) (by simp) ?_
  simp -dsimp [net]
  refine hK _ _ ?_; clear hK K
  refine awp_seq_k fun K1 hK1 => ?_
  refine awp_sr rfl fun K hK => ?_
  simp -dsimp [net]
  refine callK_may _ (fun hm => hh) (by simp) ?_
  simp -dsimp [net]
  refine hK _ _ ?_; clear hK K
  refine awp_cond rfl (fun hc0 => ?_) (fun hc0 => ?_)
  · skip
    skip
    simp at hc0
  · skip
    skip
    refine awp_skip ?_
    simp only [thenA, inBlockA, reduceIte, Nat.reduceEqDiff, eq_self]
    refine hK1 _ _ ?_
    refine awp_prune [1, 6] ?_
    simp only [prune, List.map_cons, List.map_nil, Go.AM.look, Nat.reduceEqDiff, reduceIte]
    refine awp_sr rfl fun K hK => ?_
    simp -dsimp [hlg, h0, net]
    refine hK _ _ ?_; clear hK K
    exact awp_ret (by simp)

theorem c_TrackProved_a (p : Plan) (l : List Move) (hf : p.Fit) (hv : validB p = false) : PureCall Tryz.prog 5 [p.av, mLst l] (Bo true) := by
  have hs := c_small p hf
  have hva := c_Valid p
  rw [hv] at hva
  generalize smallB p = s at hs
  refine PureCall.of_body Tryz.func5 rfl (by decide) (by simp [Tryz.ntmps5]) ?_
  simp only [Tryz.ntmps5, Tryz.results5]
  refine awp_sr rfl fun K hK => ?_
  simp -dsimp
  refine hK _ _ ?_; clear hK K
  refine awp_seq_k fun K1 hK1 => ?_
  refine awp_sr rfl fun K hK => ?_
  simp -dsimp
  refine callK_intro _ (hs) (by simp) ?_
  simp -dsimp
  refine callK_may _ (fun hm => hva) (by simp) ?_
  simp -dsimp
  refine callK_may (Bo false) (fun hm => by simp at hm) (by simp) ?_
  simp -dsimp
  refine hK _ _ ?_; clear hK K
  refine awp_cond rfl (fun hc0 => ?_) (fun hc0 => ?_)
  · skip
    skip
    refine awp_sr rfl fun K hK => ?_
    simp -dsimp
    refine callK_intro _ (c_known1) (by simp) ?_
    simp -dsimp
    refine hK _ _ ?_; clear hK K
    exact awp_ret (by simp)
  · skip
    skip
    simp at hc0
theorem c_TrackProved_b (p : Plan) (l : List Move) (hf : p.Fit) (hv : validB p = true) (hw : wayB p l = false) : PureCall Tryz.prog 5 [p.av, mLst l] (Bo true) := by
  have hs := c_small p hf
  have hva := c_Valid p
  have h4 := fun hn => c_rWay p l hv hn
  rw [hv] at hva
  simp only [hw] at h4
  generalize smallB p = s at hs
  refine PureCall.of_body Tryz.func5 rfl (by decide) (by simp [Tryz.ntmps5]) ?_
  simp only [Tryz.ntmps5, Tryz.results5]
  refine awp_sr rfl fun K hK => ?_
  simp -dsimp
  refine hK _ _ ?_; clear hK K
  refine awp_seq_k fun K1 hK1 => ?_
  refine awp_sr rfl fun K hK => ?_
  simp -dsimp
  refine callK_intro _ (hs) (by simp) ?_
  simp -dsimp
  refine callK_may _ (fun hm => hva) (by simp) ?_
  simp -dsimp
  refine callK_may _ (fun hm => h4 (by simp at hm; omega)) (by simp) ?_
  simp -dsimp
  refine hK _ _ ?_; clear hK K
  refine awp_cond rfl (fun hc0 => ?_) (fun hc0 => ?_)
  · skip
    skip
    refine awp_sr rfl fun K hK => ?_
    simp -dsimp
    refine callK_intro _ (c_known1) (by simp) ?_
    simp -dsimp
    refine hK _ _ ?_; clear hK K
    exact awp_ret (by simp)
  · skip
    skip
    simp at hc0
theorem c_TrackProved_t (p : Plan) (l : List Move) (hf : p.Fit) (hv : validB p = true) (hw : wayB p l = true) : PureCall Tryz.prog 5 [p.av, mLst l] (Bo true) := by
  have hR := (valid_parts hv).2.1
  have hs := c_small p hf
  have hva := c_Valid p
  rw [hv] at hva
  have hwl := way_len hw
  have h4 := c_rWay p l hv (by omega)
  rw [hw] at h4
  have hmL := way_mov hw (l.length - 1) (by omega)
  have hm0 := way_mov hw 0 (by omega)
  have hbL := num_bd7 hmL
  have hb0 := num_bd7 hm0
  have hE := dEnd_ok hv hbL.1 hbL.2
  have hp := way_pth hv hw (l.length - 1) 0 (by omega)
  have hmn := hE.mn _ _ _ hp
  have hg := getD_at (l := (dEnd p (numM (mvAt l (l.length - 1)))).ln) (i := (numM (mvAt l 0)).toNat) (by rw [hE.ll]; omega)
  have hll := hE.ll
  have h1 := c_tDistances_t p _ hv hmL
  have h2 := c_tWayLength_t p l hv hw
  have h3 := c_tLength_t p (mvAt l 0).Rail hv hm0
  have hbt := begTo_bd hv hw l.length (Nat.le_refl _)
  have hlb := len_bd hv (movB_iff.1 hm0).1 (movB_iff.1 hm0).2
  have hbe : begTo p l (0 + 1) = p.len (mvAt l 0).Rail := by simp [begTo]
  rw [hbe] at hmn
  have hg0 := mvAt_some (l := l) (i := 0) (by omega)
  have hgL := mvAt_some (l := l) (i := l.length - 1) (by omega)
  have hnum := c_rNumber (mvAt l 0) (by have := movB_iff.1 hm0; omega) (by have := movB_iff.1 hm0; omega)
  have w1 : IntKind.i64.wrap ((l.length : Int) - 1) = ((l.length - 1 : Nat) : Int) := by rw [wrap_in (by omega) (by omega)]; omega
  have w2 : IntKind.i64.wrap (2 * (p.Rails.length : Int)) = 2 * (p.Rails.length : Int) := wrap_in (by omega) (by omega)
  generalize mvAt l (l.length - 1) = mL at *
  generalize mvAt l 0 = m0 at *
  generalize begTo p l l.length = B at *
  generalize (dEnd p (numM mL)).ln = D at *
  generalize p.len m0.Rail = P at *
  generalize gd D (numM m0).toNat = x at *
  have w3 : IntKind.i64.wrap (x + P) = x + P := wrap_in (by omega) (by omega)
  have hb00 := hb0.1
  generalize numM m0 = k0 at *
  refine PureCall.of_body Tryz.func5 rfl (by decide) (by simp [Tryz.ntmps5]) ?_
  simp only [Tryz.ntmps5, Tryz.results5]
  refine awp_sr rfl fun K hK => ?_
  simp -dsimp
  refine hK _ _ ?_; clear hK K
  refine awp_seq_k fun K1 hK1 => ?_
  refine awp_sr rfl fun K hK => ?_
  simp -dsimp
  refine callK_intro _ (hs) (by simp) ?_
  simp -dsimp
  refine callK_may _ (fun hm => hva) (by simp) ?_
  simp -dsimp
  refine callK_may _ (fun hm => h4) (by simp) ?_
  simp -dsimp
  refine hK _ _ ?_; clear hK K
  refine awp_cond rfl (fun hc0 => ?_) (fun hc0 => ?_)
  · skip
    skip
    refine awp_sr rfl fun K hK => ?_
    simp -dsimp
    refine callK_intro _ (c_known1) (by simp) ?_
    simp -dsimp
    refine hK _ _ ?_; clear hK K
    exact awp_ret (by simp)
  · skip
    skip
    refine awp_skip ?_
    simp only [thenA, inBlockA, reduceIte, Nat.reduceEqDiff, eq_self]
    refine hK1 _ _ ?_
    refine awp_prune [1, 2] ?_
    simp only [prune, List.map_cons, List.map_nil, Go.AM.look, Nat.reduceEqDiff, reduceIte]
    refine awp_sd mixed rfl fun K hK => ?_
    simp -dsimp [w1, hg0, hgL]
    refine hK _ _ _ (by decide +kernel) ?_; clear hK K
    refine awp_sr rfl fun K hK => ?_
    simp -dsimp
    refine callK_intro _ (h1) (by simp) ?_
    simp -dsimp
    refine hK _ _ ?_; clear hK K
    refine awp_sr rfl fun K hK => ?_
    simp -dsimp
    refine callK_intro _ (h2) (by simp) ?_
    simp -dsimp
    refine hK _ _ ?_; clear hK K
    refine awp_sr rfl fun K hK => ?_
    simp -dsimp
    refine callK_intro _ (h3) (by simp) ?_
    simp -dsimp
    refine hK _ _ ?_; clear hK K
    refine awp_seq_k fun K2 hK2 => ?_
    refine awp_sr rfl fun K hK => ?_
    simp -dsimp [w2]
    refine hK _ _ ?_; clear hK K
    refine awp_cond rfl (fun hc1 => ?_) (fun hc1 => ?_)
    · skip
      skip
      simp at hc1; omega
    · skip
      skip
      refine awp_skip ?_
      simp only [thenA, inBlockA, reduceIte, Nat.reduceEqDiff, eq_self]
      refine hK2 _ _ ?_
      refine awp_prune [5, 7, 9, 11] ?_
      simp only [prune, List.map_cons, List.map_nil, Go.AM.look, Nat.reduceEqDiff, reduceIte]
      refine awp_sr rfl fun K hK => ?_
      simp -dsimp [hg, hb00]
      refine callK_intro _ (hnum) (by simp) ?_
      simp -dsimp [hg, hb00]
      refine hK _ _ ?_; clear hK K
      refine awp_sr rfl fun K hK => ?_
      simp -dsimp [w3]
      refine callK_may _ (fun hm => c_known1) (by simp) ?_
      simp -dsimp [w3]
      refine hK _ _ ?_; clear hK K
      exact awp_ret (by simp; omega)
theorem c_TrackProved (p : Plan) (l : List Move) (hf : p.Fit) : PureCall Tryz.prog 5 [p.av, mLst l] (Bo true) := by
  cases hv : validB p with
  | false => exact c_TrackProved_a p l hf hv
  | true =>
    cases hw : wayB p l with
    | false => exact c_TrackProved_b p l hf hv hw
    | true => exact c_TrackProved_t p l hf hv hw
end Go.Tram
