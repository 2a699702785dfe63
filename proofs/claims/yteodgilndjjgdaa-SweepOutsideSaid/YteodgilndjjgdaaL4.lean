/- Walks: the law of distances. -/
import Derived.Test.YteodgilndjjgdaaL2
namespace Go.Tram
open Go.AM Go.Proofs
set_option maxRecDepth 100000
set_option maxHeartbeats 4000000
set_option linter.unusedVariables false
set_option linter.unusedSimpArgs false

theorem c_rGap_s (p : Plan) (a b : Strip) (hv : validB p = true) (ha : stripB p a = true) (hb : stripB p b = true) : PureCall Try.prog 26 [p.av, a.av, b.av] (I (gap (p.strip a).a (p.strip a).b (p.strip b).a (p.strip b).b)) := by
  obtain ⟨a1, a2, a3⟩ := strip_cast ha
  obtain ⟨b1, b2, b3⟩ := strip_cast hb
  have h := c_rGap p a.Rail a.Segment.toNat b.Rail b.Segment.toNat a1.1 a1.2 (rail_ok hv a1.1 a1.2) a3 b1.1 b1.2 (rail_ok hv b1.1 b1.2) b3
  simp only [sAV, a2, b2] at h
  exact h
theorem c_rWithin_s (p : Plan) (a b : Strip) (d : Int) (hv : validB p = true) (ha : stripB p a = true) (hb : stripB p b = true) (hd : inr d 0 10000 = true) : PureCall Try.prog 27 [p.av, a.av, b.av, I d] (Bo (decide (apart (p.strip a).a (p.strip a).b (p.strip b).a (p.strip b).b d ≤ 0))) := by
  obtain ⟨a1, a2, a3⟩ := strip_cast ha
  obtain ⟨b1, b2, b3⟩ := strip_cast hb
  have hdd := inr_iff.1 hd
  have h := c_rWithin p a.Rail a.Segment.toNat b.Rail b.Segment.toNat d a1.1 a1.2 (rail_ok hv a1.1 a1.2) a3 b1.1 b1.2 (rail_ok hv b1.1 b1.2) b3 (by omega) (by omega)
  simp only [sAV, a2, b2] at h
  exact h

theorem c_SweepNear (p : Plan) (a b : Strip) (d : Int) (hf : p.Fit) : PureCall Try.prog 5 [p.av, a.av, b.av, I d] (Bo true) := by
  have h1 := c_Within p a b d
  have h2 := c_Gap p a b
  cases hok : (validB p && (stripB p a && stripB p b)) with
  | false =>
    have e1 : (validB p && (stripB p a && (stripB p b && inr d 0 10000))) = false := by
      revert hok; cases validB p <;> cases stripB p a <;> cases stripB p b <;> simp
    rw [e1] at h1
    rw [hok] at h2
    simp only [Bool.false_eq_true, if_false] at h1 h2
    refine PureCall.of_body Try.func5 rfl (by decide) (by simp [Try.ntmps5]) ?_
    simp only [Try.ntmps5, Try.results5]
    refine awp_sr rfl fun K hK => ?_
    simp -dsimp
    refine hK _ _ ?_; clear hK K
    refine awp_seq_k fun K1 hK1 => ?_
    refine awp_sr rfl fun K hK => ?_
    simp -dsimp
    refine callK_intro _ (c_few p hf) (by simp) ?_
    simp -dsimp
    refine hK _ _ ?_; clear hK K
    refine awp_cond rfl (fun hc0 => ?_) (fun hc0 => ?_)
    · skip
      try simp at hc0
      refine awp_sr rfl fun K hK => ?_
      simp -dsimp
      refine callK_intro _ (c_known) (by simp) ?_
      simp -dsimp
      refine hK _ _ ?_; clear hK K
      exact awp_ret (by simp)
    · skip
      try simp at hc0
      refine awp_skip ?_
      simp only [thenA, inBlockA, reduceIte, Nat.reduceEqDiff, eq_self]
      refine hK1 _ _ ?_
      refine awp_prune [3, 4, 5, 6] ?_
      simp only [prune, List.map_cons, List.map_nil, Go.AM.look, Nat.reduceEqDiff, reduceIte]
      refine awp_sr rfl fun K hK => ?_
      simp -dsimp
      refine callK_intro _ (h1) (by simp) ?_
      simp -dsimp
      refine hK _ _ ?_; clear hK K
      refine awp_sr rfl fun K hK => ?_
      simp -dsimp
      refine callK_intro _ (h2) (by simp) ?_
      simp -dsimp
      refine hK _ _ ?_; clear hK K
      refine awp_seq_k fun K2 hK2 => ?_
      refine awp_sr rfl fun K hK => ?_
      simp -dsimp
      refine callK_intro _ (c_Valid p) (by simp) ?_
      simp -dsimp
      refine callK_may _ (fun hm => c_rStrip p a (by simpa using hm)) (by simp) ?_
      simp -dsimp
      refine callK_may _ (fun hm => c_rStrip p b (by simp at hm; exact hm.1)) (by simp) ?_
      simp -dsimp
      refine hK _ _ ?_; clear hK K
      refine awp_cond rfl (fun hc1 => ?_) (fun hc1 => ?_)
      · skip
        skip
        refine awp_sr rfl fun K hK => ?_
        simp -dsimp
        refine callK_may _ (fun hm => c_known) (by simp) ?_
        simp -dsimp
        refine hK _ _ ?_; clear hK K
        exact awp_ret (by simp)
      · skip
        skip
        exfalso; simp at hc1; simp [hc1] at hok
  | true =>
    have hall : validB p = true ∧ stripB p a = true ∧ stripB p b = true := by simpa using hok
    obtain ⟨hv, ha, hb⟩ := hall
    have hval := c_Valid p
    have hsa := c_rStrip p a hv
    have hsb := c_rStrip p b hv
    rw [hv] at hval
    rw [ha] at hsa
    rw [hb] at hsb
    have hg := c_rGap_s p a b hv ha hb
    rw [hok, if_pos rfl] at h2
    cases hd : inr d 0 10000 with
    | false =>
      rw [hv, ha, hb, hd, if_neg (by simp)] at h1
      refine PureCall.of_body Try.func5 rfl (by decide) (by simp [Try.ntmps5]) ?_
      simp only [Try.ntmps5, Try.results5]
      refine awp_sr rfl fun K hK => ?_
      simp -dsimp
      refine hK _ _ ?_; clear hK K
      refine awp_seq_k fun K1 hK1 => ?_
      refine awp_sr rfl fun K hK => ?_
      simp -dsimp
      refine callK_intro _ (c_few p hf) (by simp) ?_
      simp -dsimp
      refine hK _ _ ?_; clear hK K
      refine awp_cond rfl (fun hc0 => ?_) (fun hc0 => ?_)
      · skip
        try simp at hc0
        refine awp_sr rfl fun K hK => ?_
        simp -dsimp
        refine callK_intro _ (c_known) (by simp) ?_
        simp -dsimp
        refine hK _ _ ?_; clear hK K
        exact awp_ret (by simp)
      · skip
        try simp at hc0
        refine awp_skip ?_
        simp only [thenA, inBlockA, reduceIte, Nat.reduceEqDiff, eq_self]
        refine hK1 _ _ ?_
        refine awp_prune [3, 4, 5, 6] ?_
        simp only [prune, List.map_cons, List.map_nil, Go.AM.look, Nat.reduceEqDiff, reduceIte]
        refine awp_sr rfl fun K hK => ?_
        simp -dsimp
        refine callK_intro _ (h1) (by simp) ?_
        simp -dsimp
        refine hK _ _ ?_; clear hK K
        refine awp_sr rfl fun K hK => ?_
        simp -dsimp
        refine callK_intro _ (h2) (by simp) ?_
        simp -dsimp
        refine hK _ _ ?_; clear hK K
        refine awp_seq_k fun K2 hK2 => ?_
        refine awp_sr rfl fun K hK => ?_
        simp -dsimp
        refine callK_intro _ (hval) (by simp) ?_
        simp -dsimp
        refine callK_may _ (fun hm => hsa) (by simp) ?_
        simp -dsimp
        refine callK_may _ (fun hm => hsb) (by simp) ?_
        simp -dsimp
        refine hK _ _ ?_; clear hK K
        refine awp_cond rfl (fun hc1 => ?_) (fun hc1 => ?_)
        · skip
          skip
          simp at hc1
        · skip
          skip
          refine awp_skip ?_
          simp only [thenA, inBlockA, reduceIte, Nat.reduceEqDiff, eq_self]
          refine hK2 _ _ ?_
          refine awp_prune [3, 4, 5, 6, 9, 10, 11, 12] ?_
          simp only [prune, List.map_cons, List.map_nil, Go.AM.look, Nat.reduceEqDiff, reduceIte]
          refine awp_seq_k fun K3 hK3 => ?_
          refine awp_sr rfl fun K hK => ?_
          simp -dsimp
          refine callK_may _ (fun hm => hg) (by simp) ?_
          simp -dsimp
          refine hK _ _ ?_; clear hK K
          refine awp_cond rfl (fun hc2 => ?_) (fun hc2 => ?_)
          · skip
            skip
            simp at hc2
          · skip
            skip
            refine awp_skip ?_
            simp only [thenA, inBlockA, reduceIte, Nat.reduceEqDiff, eq_self]
            refine hK3 _ _ ?_
            refine awp_prune [3, 4, 5, 6, 9, 10] ?_
            simp only [prune, List.map_cons, List.map_nil, Go.AM.look, Nat.reduceEqDiff, reduceIte]
            refine awp_seq_k fun K4 hK4 => ?_
            refine awp_sr rfl fun K hK => ?_
            simp -dsimp
            refine hK _ _ ?_; clear hK K
            refine awp_cond rfl (fun hc3 => ?_) (fun hc3 => ?_)
            · skip
              skip
              refine awp_sr rfl fun K hK => ?_
              simp -dsimp
              refine callK_may _ (fun hm => c_known) (by simp) ?_
              simp -dsimp
              refine hK _ _ ?_; clear hK K
              exact awp_ret (by simp)
            · skip
              skip
              exfalso; simp at hc3; simp [inr] at hd; omega
    | true =>
      rw [hv, ha, hb, hd, if_pos (by rfl)] at h1
      have hr := c_rWithin_s p a b d hv ha hb hd
      have hdd := inr_iff.1 hd
      generalize decide (apart (p.strip a).a (p.strip a).b (p.strip b).a (p.strip b).b d ≤ 0) = fo at h1 hr
      refine PureCall.of_body Try.func5 rfl (by decide) (by simp [Try.ntmps5]) ?_
      simp only [Try.ntmps5, Try.results5]
      refine awp_sr rfl fun K hK => ?_
      simp -dsimp
      refine hK _ _ ?_; clear hK K
      refine awp_seq_k fun K1 hK1 => ?_
      refine awp_sr rfl fun K hK => ?_
      simp -dsimp
      refine callK_intro _ (c_few p hf) (by simp) ?_
      simp -dsimp
      refine hK _ _ ?_; clear hK K
      refine awp_cond rfl (fun hc0 => ?_) (fun hc0 => ?_)
      · skip
        try simp at hc0
        refine awp_sr rfl fun K hK => ?_
        simp -dsimp
        refine callK_intro _ (c_known) (by simp) ?_
        simp -dsimp
        refine hK _ _ ?_; clear hK K
        exact awp_ret (by simp)
      · skip
        try simp at hc0
        refine awp_skip ?_
        simp only [thenA, inBlockA, reduceIte, Nat.reduceEqDiff, eq_self]
        refine hK1 _ _ ?_
        refine awp_prune [3, 4, 5, 6] ?_
        simp only [prune, List.map_cons, List.map_nil, Go.AM.look, Nat.reduceEqDiff, reduceIte]
        refine awp_sr rfl fun K hK => ?_
        simp -dsimp
        refine callK_intro _ (h1) (by simp) ?_
        simp -dsimp
        refine hK _ _ ?_; clear hK K
        refine awp_sr rfl fun K hK => ?_
        simp -dsimp
        refine callK_intro _ (h2) (by simp) ?_
        simp -dsimp
        refine hK _ _ ?_; clear hK K
        refine awp_seq_k fun K2 hK2 => ?_
        refine awp_sr rfl fun K hK => ?_
        simp -dsimp
        refine callK_intro _ (hval) (by simp) ?_
        simp -dsimp
        refine callK_may _ (fun hm => hsa) (by simp) ?_
        simp -dsimp
        refine callK_may _ (fun hm => hsb) (by simp) ?_
        simp -dsimp
        refine hK _ _ ?_; clear hK K
        refine awp_cond rfl (fun hc1 => ?_) (fun hc1 => ?_)
        · skip
          skip
          simp at hc1
        · skip
          skip
          refine awp_skip ?_
          simp only [thenA, inBlockA, reduceIte, Nat.reduceEqDiff, eq_self]
          refine hK2 _ _ ?_
          refine awp_prune [3, 4, 5, 6, 9, 10, 11, 12] ?_
          simp only [prune, List.map_cons, List.map_nil, Go.AM.look, Nat.reduceEqDiff, reduceIte]
          refine awp_seq_k fun K3 hK3 => ?_
          refine awp_sr rfl fun K hK => ?_
          simp -dsimp
          refine callK_may _ (fun hm => hg) (by simp) ?_
          simp -dsimp
          refine hK _ _ ?_; clear hK K
          refine awp_cond rfl (fun hc2 => ?_) (fun hc2 => ?_)
          · skip
            skip
            simp at hc2
          · skip
            skip
            refine awp_skip ?_
            simp only [thenA, inBlockA, reduceIte, Nat.reduceEqDiff, eq_self]
            refine hK3 _ _ ?_
            refine awp_prune [3, 4, 5, 6, 9, 10] ?_
            simp only [prune, List.map_cons, List.map_nil, Go.AM.look, Nat.reduceEqDiff, reduceIte]
            refine awp_seq_k fun K4 hK4 => ?_
            refine awp_sr rfl fun K hK => ?_
            simp -dsimp
            refine hK _ _ ?_; clear hK K
            refine awp_cond rfl (fun hc3 => ?_) (fun hc3 => ?_)
            · skip
              skip
              exfalso; simp at hc3; omega
            · skip
              skip
              refine awp_skip ?_
              simp only [thenA, inBlockA, reduceIte, Nat.reduceEqDiff, eq_self]
              refine hK4 _ _ ?_
              refine awp_prune [3, 4, 5, 6, 9, 10] ?_
              simp only [prune, List.map_cons, List.map_nil, Go.AM.look, Nat.reduceEqDiff, reduceIte]
              refine awp_sr rfl fun K hK => ?_
              simp -dsimp
              refine callK_may _ (fun hm => hr) (by simp) ?_
              simp -dsimp
              refine ⟨fun w => (eq_bool _ _ _ _ _ w und_bool kt_bool).1, .bool true, fun w => by have hh := (eq_bool 4 (.tmp 0) (.tmp 0) fo fo w und_bool kt_bool).2; simpa using hh, ?_⟩
              simp -dsimp
              refine callK_may _ (fun hm => c_known) (by simp) ?_
              simp -dsimp
              refine hK _ _ ?_; clear hK K
              exact awp_ret (by simp)
end Go.Tram
