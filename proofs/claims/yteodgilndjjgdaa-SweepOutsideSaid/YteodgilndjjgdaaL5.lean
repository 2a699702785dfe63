/- Walks: the theorem of distances. -/
import Derived.Test.YteodgilndjjgdaaL4
import Derived.Test.YteodgilndjjgdaaS4
namespace Go.Tram
open Go.AM Go.Proofs
set_option maxRecDepth 100000
set_option maxHeartbeats 4000000
set_option linter.unusedVariables false
set_option linter.unusedSimpArgs false

theorem ne_guard (t : TypeId) (x y : Operand) (a b : Bool) (w : World) (ht : (Try.prog).underlying t = some .bool) : (eqGuard .neq t x y (.bool a) (.bool b)).run Try.prog w = .ok () w := by
  simp [eqGuard, run_underlying ht]
theorem ne_bool (t : TypeId) (a b : Bool) (w : World) (hk : ktOf Try.prog t = some .b) : (binOp .neq t (.bool a) (.bool b)).run Try.prog w = .ok (.bool (a != b)) w := by
  have h := run_equalIn_kc (P := Try.prog) (w := w) hk (Op.maxDepth - 1) (a := .b a) (b := .b b) rfl rfl
  rw [show Op.maxDepth - 1 + 1 = Op.maxDepth from rfl] at h
  simp only [KC.val] at h
  simp [binOp, Op.equal, h]
  cases a <;> cases b <;> rfl

theorem strip_meet {p : Plan} {a b : Strip} (ha : stripB p a = true) (hb : stripB p b = true) (hr : a.Rail = b.Rail) (h1 : a.Segment - b.Segment ≤ 1) (h2 : b.Segment - a.Segment ≤ 1) :
    (p.strip b).a = (p.strip a).a ∨ (p.strip b).a = (p.strip a).b ∨ (p.strip b).b = (p.strip a).a ∨ (p.strip b).b = (p.strip a).b := by
  obtain ⟨_, a2, _⟩ := strip_cast ha
  obtain ⟨_, b2, _⟩ := strip_cast hb
  have hs : a.Segment.toNat = b.Segment.toNat ∨ b.Segment.toNat = a.Segment.toNat + 1 ∨ a.Segment.toNat = b.Segment.toNat + 1 := by omega
  simp only [Plan.strip, stripOf, hr]
  rcases hs with hs | hs | hs
  · left; rw [hs]
  · right; left; rw [hs]
  · right; right; left; rw [hs]

theorem within_at (p : Plan) (a b : Strip) (d : Int) (hv : validB p = true) (ha : stripB p a = true) (hb : stripB p b = true) (h0 : 0 ≤ d) (h1 : d ≤ 10000) :
    PureCall Try.prog 24 [p.av, a.av, b.av, I d] (.tup [Bo (decide (apart (p.strip a).a (p.strip a).b (p.strip b).a (p.strip b).b d ≤ 0)), I 0]) := by
  have h := c_Within p a b d
  rw [hv, ha, hb, inr_iff.2 ⟨h0, h1⟩, if_pos (by rfl)] at h
  exact h

theorem c_SweepGaps (p : Plan) (a b : Strip) (d : Int) (hf : p.Fit) (bd : -9223372036854775808 ≤ d ∧ d ≤ 9223372036854775807) : PureCall Try.prog 6 [p.av, a.av, b.av, I d] (Bo true) := by
  cases hok : (fewB p && (validB p && (stripB p a && (stripB p b && inr d 0 9999)))) with
  | false =>
    refine PureCall.of_body Try.func6 rfl (by decide) (by simp [Try.ntmps6]) ?_
    simp only [Try.ntmps6, Try.results6]
    refine awp_sr rfl fun K hK => ?_
    simp -dsimp
    refine hK _ _ ?_; clear hK K
    refine awp_seq_k fun K1 hK1 => ?_
    refine awp_sr rfl fun K hK => ?_
    simp -dsimp
    refine callK_intro _ (c_few p hf) (by simp) ?_
    simp -dsimp
    refine callK_may _ (fun hm => c_Valid p) (by simp) ?_
    simp -dsimp
    refine callK_may _ (fun hm => c_rStrip p a (by simp at hm; exact hm.2)) (by simp) ?_
    simp -dsimp
    refine callK_may _ (fun hm => c_rStrip p b (by simp at hm; exact hm.1.2)) (by simp) ?_
    simp -dsimp
    refine hK _ _ ?_; clear hK K
    refine awp_cond rfl (fun hc0 => ?_) (fun hc0 => ?_)
    · skip
      skip
      refine awp_sr rfl fun K hK => ?_
      simp -dsimp
      refine callK_intro _ (c_known) (by simp) ?_
      simp -dsimp
      refine hK _ _ ?_; clear hK K
      exact awp_ret (by simp)
    · skip
      skip
      exfalso; simp at hc0; simp [hc0, inr] at hok; omega
  | true =>
    have hall : fewB p = true ∧ validB p = true ∧ stripB p a = true ∧ stripB p b = true ∧ inr d 0 9999 = true := by simpa using hok
    obtain ⟨hfw, hv, ha, hb, hd⟩ := hall
    have hdd := inr_iff.1 hd
    have oa := strip_fine hv ha
    have ob := strip_fine hv hb
    have hfew := c_few p hf
    have hval := c_Valid p
    have hsa := c_rStrip p a hv
    have hsb := c_rStrip p b hv
    rw [hfw] at hfew
    rw [hv] at hval
    rw [ha] at hsa
    rw [hb] at hsb
    have g1 := c_Gap p a b
    have g2 := c_Gap p b a
    rw [hv, ha, hb, if_pos (by rfl)] at g1 g2
    rw [gap_comm] at g2
    have wd : IntKind.i64.wrap (d + 1) = d + 1 := wrap_in (by omega) (by omega)
    have i1 := within_at p a b d hv ha hb (by omega) (by omega)
    have i2 := within_at p b a d hv hb ha (by omega) (by omega)
    have i3 := within_at p a b (d + 1) hv ha hb (by omega) (by omega)
    rw [apart_comm] at i2
    have mono : apart (p.strip a).a (p.strip a).b (p.strip b).a (p.strip b).b d ≤ 0 → apart (p.strip a).a (p.strip a).b (p.strip b).a (p.strip b).b (d + 1) ≤ 0 := apart_mono oa.p ob.p (by omega) (by omega)
    obtain ⟨⟨sg0, sg1⟩, _, _⟩ := gap_spec (p.strip a).a (p.strip a).b (p.strip b).a (p.strip b).b
    have below := gap_below (a := (p.strip a).a) (b := (p.strip a).b) (c := (p.strip b).a) (d := (p.strip b).b) oa.p ob.p
    have above := gap_above (a := (p.strip a).a) (b := (p.strip a).b) (c := (p.strip b).a) (d := (p.strip b).b)
    have meet : a.Rail = b.Rail → a.Segment - b.Segment ≤ 1 → b.Segment - a.Segment ≤ 1 → gap (p.strip a).a (p.strip a).b (p.strip b).a (p.strip b).b = 0 := fun q1 q2 q3 => gap_meet oa.p ob.p (strip_meet ha hb q1 q2 q3)
    have i4 := within_at p a b (gap (p.strip a).a (p.strip a).b (p.strip b).a (p.strip b).b - 1) hv ha hb
    have i5 := within_at p a b (gap (p.strip a).a (p.strip a).b (p.strip b).a (p.strip b).b + 1) hv ha hb
    have sa := inr_iff.1 (by simp only [stripB, Bool.and_eq_true] at ha; exact ha.2)
    have sb := inr_iff.1 (by simp only [stripB, Bool.and_eq_true] at hb; exact hb.2)
    have ra := (rail_ok hv (strip_cast ha).1.1 (strip_cast ha).1.2).s
    have rb := (rail_ok hv (strip_cast hb).1.1 (strip_cast hb).1.2).s
    have ws1 : IntKind.i64.wrap (a.Segment - b.Segment) = a.Segment - b.Segment := wrap_in (by omega) (by omega)
    have ws2 : IntKind.i64.wrap (b.Segment - a.Segment) = b.Segment - a.Segment := wrap_in (by omega) (by omega)
    generalize gap (p.strip a).a (p.strip a).b (p.strip b).a (p.strip b).b = G at *
    generalize hA : (fun r => apart (p.strip a).a (p.strip a).b (p.strip b).a (p.strip b).b r) = A at *
    have eA : ∀ r, apart (p.strip a).a (p.strip a).b (p.strip b).a (p.strip b).b r = A r := fun r => by rw [← hA]
    simp only [eA] at *
    have wm : IntKind.i64.wrap (G - 1) = G - 1 := wrap_in (by omega) (by omega)
    have wp : IntKind.i64.wrap (G + 1) = G + 1 := wrap_in (by omega) (by omega)
    refine PureCall.of_body Try.func6 rfl (by decide) (by simp [Try.ntmps6]) ?_
    simp only [Try.ntmps6, Try.results6]
    refine awp_sr rfl fun K hK => ?_
    simp -dsimp
    refine hK _ _ ?_; clear hK K
    refine awp_seq_k fun K1 hK1 => ?_
    refine awp_sr rfl fun K hK => ?_
    simp -dsimp
    refine callK_intro _ (hfew) (by simp) ?_
    simp -dsimp
    refine callK_may _ (fun hm => hval) (by simp) ?_
    simp -dsimp
    refine callK_may _ (fun hm => hsa) (by simp) ?_
    simp -dsimp
    refine callK_may _ (fun hm => hsb) (by simp) ?_
    simp -dsimp
    refine hK _ _ ?_; clear hK K
    refine awp_cond rfl (fun hc0 => ?_) (fun hc0 => ?_)
    · skip
      skip
      exfalso; simp at hc0; omega
    · skip
      skip
      refine awp_skip ?_
      simp only [thenA, inBlockA, reduceIte, Nat.reduceEqDiff, eq_self]
      refine hK1 _ _ ?_
      refine awp_prune [3, 4, 5, 6] ?_
      simp only [prune, List.map_cons, List.map_nil, Go.AM.look, Nat.reduceEqDiff, reduceIte]
      refine awp_sr rfl fun K hK => ?_
      simp -dsimp
      refine callK_intro _ (g1) (by simp) ?_
      simp -dsimp
      refine hK _ _ ?_; clear hK K
      refine awp_sr rfl fun K hK => ?_
      simp -dsimp
      refine callK_intro _ (g2) (by simp) ?_
      simp -dsimp
      refine hK _ _ ?_; clear hK K
      refine awp_sr rfl fun K hK => ?_
      simp -dsimp
      refine callK_intro _ (i1) (by simp) ?_
      simp -dsimp
      refine hK _ _ ?_; clear hK K
      refine awp_sr rfl fun K hK => ?_
      simp -dsimp
      refine callK_intro _ (i2) (by simp) ?_
      simp -dsimp
      refine hK _ _ ?_; clear hK K
      refine awp_sr rfl fun K hK => ?_
      simp -dsimp [wd]
      refine callK_intro _ (i3) (by simp) ?_
      simp -dsimp [wd]
      refine hK _ _ ?_; clear hK K
      refine awp_seq_k fun K2 hK2 => ?_
      refine awp_sr rfl fun K hK => ?_
      simp -dsimp
      refine ⟨fun w => ne_guard _ _ _ _ _ w und_bool, .bool false, fun w => by rw [ne_bool _ _ _ w kt_bool]; simp, ?_⟩
      simp -dsimp
      refine hK _ _ ?_; clear hK K
      refine awp_cond rfl (fun hc1 => ?_) (fun hc1 => ?_)
      · skip
        simp at hc1
        exfalso; omega
      · skip
        simp at hc1
        refine awp_skip ?_
        simp only [thenA, inBlockA, reduceIte, Nat.reduceEqDiff, eq_self]
        refine hK2 _ _ ?_
        refine awp_prune [4, 5, 6, 9] ?_
        simp only [prune, List.map_cons, List.map_nil, Go.AM.look, Nat.reduceEqDiff, reduceIte]
        refine awp_seq_k fun K3 hK3 => ?_
        refine awp_sr rfl fun K hK => ?_
        simp -dsimp
        refine hK _ _ ?_; clear hK K
        refine awp_cond rfl (fun hc2 => ?_) (fun hc2 => ?_)
        · skip
          simp at hc2
          refine awp_sr rfl fun K hK => ?_
          simp -dsimp [wm]
          refine callK_intro _ (i4 (by omega) (by omega)) (by simp) ?_
          simp -dsimp [wm]
          refine hK _ _ ?_; clear hK K
          refine awp_sr rfl fun K hK => ?_
          simp -dsimp
          refine hK _ _ ?_; clear hK K
          refine awp_cond rfl (fun hc3 => ?_) (fun hc3 => ?_)
          · skip
            simp at hc3
            exfalso; have := below hc2; omega
          · skip
            simp at hc3
            refine awp_skip ?_
            simp only [thenA, inBlockA, reduceIte, Nat.reduceEqDiff, eq_self]
            refine hK3 _ _ ?_
            refine awp_prune [4, 5, 6, 9] ?_
            simp only [prune, List.map_cons, List.map_nil, Go.AM.look, Nat.reduceEqDiff, reduceIte]
            refine awp_seq_k fun K4 hK4 => ?_
            refine awp_sr rfl fun K hK => ?_
            simp -dsimp
            refine hK _ _ ?_; clear hK K
            refine awp_cond rfl (fun hc4 => ?_) (fun hc4 => ?_)
            · skip
              simp at hc4
              refine awp_sr rfl fun K hK => ?_
              simp -dsimp [wp]
              refine callK_intro _ (i5 (by omega) (by omega)) (by simp) ?_
              simp -dsimp [wp]
              refine hK _ _ ?_; clear hK K
              refine awp_sr rfl fun K hK => ?_
              simp -dsimp
              refine hK _ _ ?_; clear hK K
              refine awp_cond rfl (fun hc5 => ?_) (fun hc5 => ?_)
              · skip
                simp at hc5
                exfalso; have := above hc4; omega
              · skip
                simp at hc5
                refine awp_skip ?_
                simp only [thenA, inBlockA, reduceIte, Nat.reduceEqDiff, eq_self]
                refine hK4 _ _ ?_
                refine awp_prune [5, 6, 9] ?_
                simp only [prune, List.map_cons, List.map_nil, Go.AM.look, Nat.reduceEqDiff, reduceIte]
                refine awp_sr rfl fun K hK => ?_
                simp -dsimp [ws1, ws2]
                refine callK_may _ (fun hm => c_known) (by simp) ?_
                simp -dsimp [ws1, ws2]
                refine hK _ _ ?_; clear hK K
                refine awp_ret ?_
                simp
                omega
            · skip
              simp at hc4
              refine awp_skip ?_
              simp only [thenA, inBlockA, reduceIte, Nat.reduceEqDiff, eq_self]
              refine hK4 _ _ ?_
              refine awp_prune [5, 6, 9] ?_
              simp only [prune, List.map_cons, List.map_nil, Go.AM.look, Nat.reduceEqDiff, reduceIte]
              refine awp_sr rfl fun K hK => ?_
              simp -dsimp [ws1, ws2]
              refine callK_may _ (fun hm => c_known) (by simp) ?_
              simp -dsimp [ws1, ws2]
              refine hK _ _ ?_; clear hK K
              refine awp_ret ?_
              simp
              omega
        · skip
          simp at hc2
          refine awp_skip ?_
          simp only [thenA, inBlockA, reduceIte, Nat.reduceEqDiff, eq_self]
          refine hK3 _ _ ?_
          refine awp_prune [4, 5, 6, 9] ?_
          simp only [prune, List.map_cons, List.map_nil, Go.AM.look, Nat.reduceEqDiff, reduceIte]
          refine awp_seq_k fun K5 hK5 => ?_
          refine awp_sr rfl fun K hK => ?_
          simp -dsimp
          refine hK _ _ ?_; clear hK K
          refine awp_cond rfl (fun hc4 => ?_) (fun hc4 => ?_)
          · skip
            simp at hc4
            refine awp_sr rfl fun K hK => ?_
            simp -dsimp [wp]
            refine callK_intro _ (i5 (by omega) (by omega)) (by simp) ?_
            simp -dsimp [wp]
            refine hK _ _ ?_; clear hK K
            refine awp_sr rfl fun K hK => ?_
            simp -dsimp
            refine hK _ _ ?_; clear hK K
            refine awp_cond rfl (fun hc5 => ?_) (fun hc5 => ?_)
            · skip
              simp at hc5
              exfalso; have := above hc4; omega
            · skip
              simp at hc5
              refine awp_skip ?_
              simp only [thenA, inBlockA, reduceIte, Nat.reduceEqDiff, eq_self]
              refine hK5 _ _ ?_
              refine awp_prune [5, 6, 9] ?_
              simp only [prune, List.map_cons, List.map_nil, Go.AM.look, Nat.reduceEqDiff, reduceIte]
              refine awp_sr rfl fun K hK => ?_
              simp -dsimp [ws1, ws2]
              refine callK_may _ (fun hm => c_known) (by simp) ?_
              simp -dsimp [ws1, ws2]
              refine hK _ _ ?_; clear hK K
              refine awp_ret ?_
              simp
              omega
          · skip
            simp at hc4
            refine awp_skip ?_
            simp only [thenA, inBlockA, reduceIte, Nat.reduceEqDiff, eq_self]
            refine hK5 _ _ ?_
            refine awp_prune [5, 6, 9] ?_
            simp only [prune, List.map_cons, List.map_nil, Go.AM.look, Nat.reduceEqDiff, reduceIte]
            refine awp_sr rfl fun K hK => ?_
            simp -dsimp [ws1, ws2]
            refine callK_may _ (fun hm => c_known) (by simp) ?_
            simp -dsimp [ws1, ws2]
            refine hK _ _ ?_; clear hK K
            refine awp_ret ?_
            simp
            omega
end Go.Tram
