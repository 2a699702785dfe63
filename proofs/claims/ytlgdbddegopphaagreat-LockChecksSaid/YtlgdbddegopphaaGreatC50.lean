/- The law LockChecks holds for every input: which setups are as defined. No condition beyond the statement's own. -/
import Derived.Test.YtlgdbddegopphaaGreatN7
import Derived.Test.YtlgdbddegopphaaGreatRows
namespace Go.Proofs.YtlgdbddegopphaaGreat.lockChecks
open Go.ChangeShapes Go.WideShapes Go.ChangeAt Go.RowKit Go.Tram Go.Tram.Lk Go.AM
set_option maxRecDepth 100000
set_option linter.unusedVariables false


theorem own : ownKnob Tryz.prog.godebug = none := by kernel_rfl

theorem contract (H : Type) (enc : TypeId × Value → H) (W : World) (base : Nat) (args : Array Value) (ds gs : List (DataW H)) (before : List MemPlace)
    (hval : ∀ (j : Nat) t v, Tryz.f3.params[j]? = some t → args[j]? = some v → Value.okWide Tryz.prog W .any base t v)
    (hW : DataW.Whole enc Tryz.prog Tryz.f3.params.toList Rows.lockChecksSpec.vars false W args.toList ds gs before) :
    Calls Tryz.prog 3 args W fun e W' => ∃ v, e = .returned v ∧ Rows.lockChecksSpec.post enc Tryz.prog Tryz.f3 false true false false W args v W' := by
  have hW' := hW
  obtain ⟨p, q, hA0, hV, rfl, hfz, hnd⟩ := hW
  have hA : DataW.TrodAll enc Tryz.prog W 0 (fun _ => true) true Tryz.f3.params.toList args.toList ds p := hA0
  rw [Tryz.params3] at hA hval
  obtain ⟨v0, vs0, d0, ds0, p0, q0, ha0, rfl, rfl, h0, r0⟩ := trodAll_cons hA
  obtain ⟨rfl, rfl, rfl⟩ := trodAll_nil r0
  obtain rfl : args = #[v0] := by cases args; simp_all
  obtain ⟨rfl, rfl⟩ := trodVars_none hV
  obtain ⟨a0, e0, s0⟩ := b9o (n := 9) (by kernel_rfl) c4d (hval 0 29 v0 rfl rfl) h0
  obtain ⟨x0, rfl, b0⟩ := c0j s0
  have hc := a6W x0 b0
  refine (b4g Tryz.func3 (by rfl) (by decide) hc rfl (b5O e0 b9d)).mono fun e W' ⟨he, hx⟩ => ?_
  subst he
  exact ⟨_, rfl, b5D rfl rfl rfl rfl (by kernel_rfl) (of_decide_eq_true (by kernel_rfl)) hW' hx rfl⟩

theorem lifted (os : Os) (started : os.Started) (H : Type) (enc : TypeId × Value → H) :
    ReturnsInHanded {} Tryz.checked os 3 .any (Rows.lockChecksSpec.pre6 enc Tryz.prog Tryz.f3 Rows.lockChecksRow.domain false) (Rows.lockChecksSpec.post enc Tryz.prog Tryz.f3 false true false false) := by
  refine returnsInHanded_of_change (C := Tryz.checked) own started (by kernel_rfl) Tryz.func3
    (ChangeSpec.witness6 (enc := enc) (C := Tryz.checked) false ⟨#[], #[.agg #[.slice none 0 0, .slice none 0 0, .slice none 0 0, .slice none 0 0]], []⟩ 8 (by kernel_rfl) (by kernel_rfl) (by kernel_rfl) (by kernel_rfl)) ?_
  intro W base args ds gs before hval hW _ _
  exact contract H enc W base args ds gs before hval hW

theorem k0 : (Tryz.pinned).checked.prog.inPlace 3 = Rows.lockChecksRow.inPlace := by kernel_rfl
theorem k1 : (Tryz.pinned).checked.prog.unfollowed 3 = Rows.lockChecksRow.unfollowed := by kernel_rfl
theorem k2 : (Tryz.pinned).checked.prog.recurses 3 = Rows.lockChecksRow.recurses := by kernel_rfl
theorem k3 : (Tryz.pinned).checked.prog.varsNamed 3 = Rows.lockChecksRow.named := by kernel_rfl
theorem closed : joinedFacts (Tryz.pinned).checked.prog 3 Tryz.f3 Rows.lockChecksSpec Rows.lockChecksRow = true := by
  unfold joinedFacts
  rw [k0, k1, k2, k3]
  kernel_rfl
theorem proved : Rows.LockChecksSaid :=
  OpenClaim.holds_of_wide 3 Tryz.f3 rfl rfl rfl rfl rfl rfl rfl ⟨rfl, rfl, rfl, rfl, rfl⟩ rfl rfl rfl rfl rfl (by kernel_rfl) Tryz.func3 closed
    (of_decide_eq_true (by kernel_rfl)) (by unfold Func.isWrapper; first | (rw [if_pos (by decide +kernel)]; kernel_rfl) | (rw [if_neg (by decide +kernel)]; exact ⟨rfl, rfl⟩))
    (fun os started H enc _ => lifted os started H enc)
end Go.Proofs.YtlgdbddegopphaaGreat.lockChecks
