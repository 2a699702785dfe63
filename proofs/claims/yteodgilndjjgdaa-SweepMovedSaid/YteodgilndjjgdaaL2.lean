/- Walks: the law of what is foul. -/
import Derived.Test.YteodgilndjjgdaaL1
import Derived.Test.YteodgilndjjgdaaR3
import Derived.Test.YteodgilndjjgdaaW3
namespace Go.Tram
open Go.AM Go.Proofs
set_option maxRecDepth 100000
set_option maxHeartbeats 4000000
set_option linter.unusedVariables false
set_option linter.unusedSimpArgs false

theorem eq_bool (t : TypeId) (x y : Operand) (a b : Bool) (w : World) (ht : (Try.prog).underlying t = some .bool) (hk : ktOf Try.prog t = some .b) : (eqGuard .eql t x y (.bool a) (.bool b)).run Try.prog w = .ok () w ∧ (binOp .eql t (.bool a) (.bool b)).run Try.prog w = .ok (.bool (a == b)) w := by
  constructor
  · simp [eqGuard, run_underlying ht]
  · have h := run_equalIn_kc (P := Try.prog) (w := w) hk (Op.maxDepth - 1) (a := .b a) (b := .b b) rfl rfl
    rw [show Op.maxDepth - 1 + 1 = Op.maxDepth from rfl] at h
    simp only [KC.val] at h
    have e : decide (KC.b a = KC.b b) = (a == b) := by cases a <;> cases b <;> rfl
    simp [binOp, Op.equal, h]
    cases a <;> cases b <;> rfl
theorem kt_bool : ktOf Try.prog 4 = some .b := by kernel_rfl
theorem und_bool : (Try.prog).underlying 4 = some .bool := by kernel_rfl

theorem strip_cast {p : Plan} {s : Strip} (h : stripB p s = true) : (0 ≤ s.Rail ∧ s.Rail < p.Rails.length) ∧ ((s.Segment.toNat : Nat) : Int) = s.Segment ∧ s.Segment.toNat < (p.rail s.Rail).Shape.length + 1 := by
  simp only [stripB, Bool.and_eq_true, inr_iff] at h
  omega

theorem c_rFoul_s (p : Plan) (a : Strip) (x : Profile) (b : Strip) (y : Profile) (hv : validB p = true) (ha : stripB p a = true) (hb : stripB p b = true) (hx : profB x = true) (hy : profB y = true) :
    PureCall Try.prog 20 [p.av, a.av, x.av, b.av, y.av] (Bo (foulB (p.strip a) x (p.strip b) y)) := by
  obtain ⟨a1, a2, a3⟩ := strip_cast ha
  obtain ⟨b1, b2, b3⟩ := strip_cast hb
  have h := c_rFoul p a.Rail a.Segment.toNat x b.Rail b.Segment.toNat y a1.1 a1.2 (rail_ok hv a1.1 a1.2) a3 b1.1 b1.2 (rail_ok hv b1.1 b1.2) b3 hx hy
  simp only [sAV, a2, b2] at h
  exact h

theorem c_SweepFoul (p : Plan) (a : Strip) (x : Profile) (b : Strip) (y : Profile) (hf : p.Fit) : PureCall Try.prog 3 [p.av, a.av, x.av, b.av, y.av] (Bo true) := by
  have h1 := c_Foul p a x b y
  have h2 := c_Foul p b y a x
  cases hok : (validB p && (stripB p a && (stripB p b && (profB x && profB y)))) with
  | true =>
    have hall : validB p = true ∧ stripB p a = true ∧ stripB p b = true ∧ profB x = true ∧ profB y = true := by simpa using hok
    obtain ⟨hv, ha, hb, hx, hy⟩ := hall
    rw [hv, ha, hb, hx, hy, if_pos (by rfl)] at h1 h2
    rw [foulB_comm] at h2
    generalize hfo : foulB (p.strip a) x (p.strip b) y = fo at h1 h2
    have hr := c_rFoul_s p a x b y hv ha hb hx hy
    rw [hfo] at hr
    have hval := c_Valid p
    have hsa := c_rStrip p a hv
    have hsb := c_rStrip p b hv
    have hpx := c_rProfile x
    have hpy := c_rProfile y
    rw [hv] at hval
    rw [ha] at hsa
    rw [hb] at hsb
    rw [hx] at hpx
    rw [hy] at hpy
    refine PureCall.of_body Try.func3 rfl (by decide) (by simp [Try.ntmps3]) ?_
    simp only [Try.ntmps3, Try.results3]
    refine awp_sr rfl fun K hK => ?_
    simp -dsimp
    refine hK _ _ ?_; clear hK K
    refine awp_seq_k fun K1 hK1 => ?_
    refine awp_sr rfl fun K hK => ?_
    simp -dsimp
    refine callK_intro _ (c_few p hf) (by simp) ?_
    simp -dsimp
    refine hK _ _ ?_; clear hK K
    refine awp_cond rfl (fun hc0 => ?_) (fun hc0 => ?_)
    · skip
      try simp at hc0
      refine awp_sr rfl fun K hK => ?_
      simp -dsimp
      refine callK_intro _ (c_known) (by simp) ?_
      simp -dsimp
      refine hK _ _ ?_; clear hK K
      exact awp_ret (by simp)
    · skip
      try simp at hc0
      refine awp_skip ?_
      simp only [thenA, inBlockA, reduceIte, Nat.reduceEqDiff, eq_self]
      refine hK1 _ _ ?_
      refine awp_prune [5, 6, 7, 8, 9] ?_
      simp only [prune, List.map_cons, List.map_nil, Go.AM.look, Nat.reduceEqDiff, reduceIte]
      refine awp_sr rfl fun K hK => ?_
      simp -dsimp
      refine callK_intro _ (h1) (by simp) ?_
      simp -dsimp
      refine hK _ _ ?_; clear hK K
      refine awp_sr rfl fun K hK => ?_
      simp -dsimp
      refine callK_intro _ (h2) (by simp) ?_
      simp -dsimp
      refine hK _ _ ?_; clear hK K
      refine awp_seq_k fun K2 hK2 => ?_
      refine awp_sr rfl fun K hK => ?_
      simp -dsimp
      refine callK_intro _ (hval) (by simp) ?_
      simp -dsimp
      refine callK_may _ (fun hm => hsa) (by simp) ?_
      simp -dsimp
      refine callK_may _ (fun hm => hsb) (by simp) ?_
      simp -dsimp
      refine callK_may _ (fun hm => hpx) (by simp) ?_
      simp -dsimp
      refine callK_may _ (fun hm => hpy) (by simp) ?_
      simp -dsimp
      refine hK _ _ ?_; clear hK K
      refine awp_cond rfl (fun hc1 => ?_) (fun hc1 => ?_)
      · skip
        skip
        simp at hc1
      · skip
        skip
        refine awp_skip ?_
        simp only [thenA, inBlockA, reduceIte, Nat.reduceEqDiff, eq_self]
        refine hK2 _ _ ?_
        refine awp_prune [5, 6, 7, 8, 9, 11, 12, 13, 14] ?_
        simp only [prune, List.map_cons, List.map_nil, Go.AM.look, Nat.reduceEqDiff, reduceIte]
        refine awp_sr rfl fun K hK => ?_
        simp -dsimp
        refine ⟨fun w => (eq_bool _ _ _ _ _ w und_bool kt_bool).1, .bool true, fun w => by have hh := (eq_bool 4 (.tmp 0) (.tmp 0) fo fo w und_bool kt_bool).2; simpa using hh, ?_⟩
        simp -dsimp
        refine callK_may _ (fun hm => hr) (by simp) ?_
        simp -dsimp
        refine ⟨fun w => (eq_bool _ _ _ _ _ w und_bool kt_bool).1, .bool true, fun w => by have hh := (eq_bool 4 (.tmp 0) (.tmp 0) fo fo w und_bool kt_bool).2; simpa using hh, ?_⟩
        simp -dsimp
        refine callK_may _ (fun hm => c_known) (by simp) ?_
        simp -dsimp
        refine hK _ _ ?_; clear hK K
        exact awp_ret (by simp)
  | false =>
    have hok2 : (validB p && (stripB p b && (stripB p a && (profB y && profB x)))) = false := by
      cases hq : (validB p && (stripB p b && (stripB p a && (profB y && profB x)))) with
      | false => rfl
      | true => simp at hq; simp [hq] at hok
    rw [hok] at h1
    rw [hok2] at h2
    simp only [Bool.false_eq_true, if_false] at h1 h2
    refine PureCall.of_body Try.func3 rfl (by decide) (by simp [Try.ntmps3]) ?_
    simp only [Try.ntmps3, Try.results3]
    refine awp_sr rfl fun K hK => ?_
    simp -dsimp
    refine hK _ _ ?_; clear hK K
    refine awp_seq_k fun K1 hK1 => ?_
    refine awp_sr rfl fun K hK => ?_
    simp -dsimp
    refine callK_intro _ (c_few p hf) (by simp) ?_
    simp -dsimp
    refine hK _ _ ?_; clear hK K
    refine awp_cond rfl (fun hc0 => ?_) (fun hc0 => ?_)
    · skip
      try simp at hc0
      refine awp_sr rfl fun K hK => ?_
      simp -dsimp
      refine callK_intro _ (c_known) (by simp) ?_
      simp -dsimp
      refine hK _ _ ?_; clear hK K
      exact awp_ret (by simp)
    · skip
      try simp at hc0
      refine awp_skip ?_
      simp only [thenA, inBlockA, reduceIte, Nat.reduceEqDiff, eq_self]
      refine hK1 _ _ ?_
      refine awp_prune [5, 6, 7, 8, 9] ?_
      simp only [prune, List.map_cons, List.map_nil, Go.AM.look, Nat.reduceEqDiff, reduceIte]
      refine awp_sr rfl fun K hK => ?_
      simp -dsimp
      refine callK_intro _ (h1) (by simp) ?_
      simp -dsimp
      refine hK _ _ ?_; clear hK K
      refine awp_sr rfl fun K hK => ?_
      simp -dsimp
      refine callK_intro _ (h2) (by simp) ?_
      simp -dsimp
      refine hK _ _ ?_; clear hK K
      refine awp_seq_k fun K2 hK2 => ?_
      refine awp_sr rfl fun K hK => ?_
      simp -dsimp
      refine callK_intro _ (c_Valid p) (by simp) ?_
      simp -dsimp
      refine callK_may _ (fun hm => c_rStrip p a (by simpa using hm)) (by simp) ?_
      simp -dsimp
      refine callK_may _ (fun hm => c_rStrip p b (by simp at hm; exact hm.1)) (by simp) ?_
      simp -dsimp
      refine callK_may _ (fun hm => c_rProfile x) (by simp) ?_
      simp -dsimp
      refine callK_may _ (fun hm => c_rProfile y) (by simp) ?_
      simp -dsimp
      refine hK _ _ ?_; clear hK K
      refine awp_cond rfl (fun hc1 => ?_) (fun hc1 => ?_)
      · skip
        skip
        refine awp_sr rfl fun K hK => ?_
        simp -dsimp
        refine callK_may _ (fun hm => c_known) (by simp) ?_
        simp -dsimp
        refine hK _ _ ?_; clear hK K
        exact awp_ret (by simp)
      · skip
        skip
        exfalso; simp at hc1; simp [hc1] at hok
end Go.Tram
