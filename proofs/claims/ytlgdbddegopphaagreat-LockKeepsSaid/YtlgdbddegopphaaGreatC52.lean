/- The law LockKeeps holds for every input: a lock stays safe, and holds its points. No condition beyond the statement's own. -/
import Derived.Test.YtlgdbddegopphaaGreatO7
import Derived.Test.YtlgdbddegopphaaGreatRows
namespace Go.Proofs.YtlgdbddegopphaaGreat.lockKeeps
open Go.ChangeShapes Go.WideShapes Go.ChangeAt Go.RowKit Go.Tram Go.Tram.Lk Go.AM
set_option maxRecDepth 100000
set_option linter.unusedVariables false


theorem own : ownKnob Tryz.prog.godebug = none := by kernel_rfl

theorem contract (H : Type) (enc : TypeId × Value → H) (W : World) (base : Nat) (args : Array Value) (ds gs : List (DataW H)) (before : List MemPlace)
    (hval : ∀ (j : Nat) t v, Tryz.f7.params[j]? = some t → args[j]? = some v → Value.okWide Tryz.prog W .any base t v)
    (hW : DataW.Whole enc Tryz.prog Tryz.f7.params.toList Rows.lockKeepsSpec.vars false W args.toList ds gs before) :
    Calls Tryz.prog 7 args W fun e W' => ∃ v, e = .returned v ∧ Rows.lockKeepsSpec.post enc Tryz.prog Tryz.f7 false true false false W args v W' := by
  have hW' := hW
  obtain ⟨p, q, hA0, hV, rfl, hfz, hnd⟩ := hW
  have hA : DataW.TrodAll enc Tryz.prog W 0 (fun _ => true) true Tryz.f7.params.toList args.toList ds p := hA0
  rw [Tryz.params7] at hA hval
  obtain ⟨v0, vs0, d0, ds0, p0, q0, ha0, rfl, rfl, h0, r0⟩ := trodAll_cons hA
  obtain ⟨v1, vs1, d1, ds1, p1, q1, rfl, rfl, rfl, h1, r1⟩ := trodAll_cons r0
  obtain ⟨rfl, rfl, rfl⟩ := trodAll_nil r1
  obtain rfl : args = #[v0, v1] := by cases args; simp_all
  obtain ⟨rfl, rfl⟩ := trodVars_none hV
  obtain ⟨a0, e0, s0⟩ := c1F (n := 9) (by kernel_rfl) c6m (hval 0 29 v0 rfl rfl) h0
  obtain ⟨a1, e1, s1⟩ := b4L (n := 8) (by kernel_rfl) c6p (hval 1 54 v1 rfl rfl) h1
  obtain ⟨x0, rfl, b0⟩ := c0R s0
  obtain ⟨x1, hx1, l1, r1⟩ := c2i s1
  obtain rfl : a1 = _ := by simpa using hx1
  have hc := b0j x0 x1 b0 (Nat.le_trans l1 (by decide)) (fun a ha => (r1 a ha).w)
  refine (b5A Tryz.func7 (by rfl) (by decide) hc rfl (b1g e0 (b1g e1 c1S))).mono fun e W' ⟨he, hx⟩ => ?_
  subst he
  exact ⟨_, rfl, b7s rfl rfl rfl rfl (by kernel_rfl) (of_decide_eq_true (by kernel_rfl)) hW' hx rfl⟩

theorem lifted (os : Os) (started : os.Started) (H : Type) (enc : TypeId × Value → H) :
    ReturnsInHanded {} Tryz.checked os 7 .any (Rows.lockKeepsSpec.pre6 enc Tryz.prog Tryz.f7 Rows.lockKeepsRow.domain false) (Rows.lockKeepsSpec.post enc Tryz.prog Tryz.f7 false true false false) := by
  refine returnsInHanded_of_change (C := Tryz.checked) own started (by kernel_rfl) Tryz.func7
    (ChangeSpec.witness6 (enc := enc) (C := Tryz.checked) false ⟨#[], #[.agg #[.slice none 0 0, .slice none 0 0, .slice none 0 0, .slice none 0 0], .slice none 0 0], []⟩ 8 (by kernel_rfl) (by kernel_rfl) (by kernel_rfl) (by kernel_rfl)) ?_
  intro W base args ds gs before hval hW _ _
  exact contract H enc W base args ds gs before hval hW

theorem k0 : (Tryz.pinned).checked.prog.inPlace 7 = Rows.lockKeepsRow.inPlace := by kernel_rfl
theorem k1 : (Tryz.pinned).checked.prog.unfollowed 7 = Rows.lockKeepsRow.unfollowed := by kernel_rfl
theorem k2 : (Tryz.pinned).checked.prog.recurses 7 = Rows.lockKeepsRow.recurses := by kernel_rfl
theorem k3 : (Tryz.pinned).checked.prog.varsNamed 7 = Rows.lockKeepsRow.named := by kernel_rfl
theorem closed : joinedFacts (Tryz.pinned).checked.prog 7 Tryz.f7 Rows.lockKeepsSpec Rows.lockKeepsRow = true := by
  unfold joinedFacts
  rw [k0, k1, k2, k3]
  kernel_rfl
theorem proved : Rows.LockKeepsSaid :=
  OpenClaim.holds_of_wide 7 Tryz.f7 rfl rfl rfl rfl rfl rfl rfl ⟨rfl, rfl, rfl, rfl, rfl⟩ rfl rfl rfl rfl rfl (by kernel_rfl) Tryz.func7 closed
    (of_decide_eq_true (by kernel_rfl)) (by unfold Func.isWrapper; first | (rw [if_pos (by decide +kernel)]; kernel_rfl) | (rw [if_neg (by decide +kernel)]; exact ⟨rfl, rfl⟩))
    (fun os started H enc _ => lifted os started H enc)
end Go.Proofs.YtlgdbddegopphaaGreat.lockKeeps
