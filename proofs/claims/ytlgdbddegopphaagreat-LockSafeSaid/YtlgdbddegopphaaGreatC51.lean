/- The law LockSafe holds for every input: which states are safe. No condition beyond the statement's own. -/
import Derived.Test.YtlgdbddegopphaaGreatN7
import Derived.Test.YtlgdbddegopphaaGreatRows
namespace Go.Proofs.YtlgdbddegopphaaGreat.lockSafe
open Go.ChangeShapes Go.WideShapes Go.ChangeAt Go.RowKit Go.Tram Go.Tram.Lk Go.AM
set_option maxRecDepth 100000
set_option linter.unusedVariables false


theorem own : ownKnob Tryz.prog.godebug = none := by kernel_rfl

theorem contract (H : Type) (enc : TypeId × Value → H) (W : World) (base : Nat) (args : Array Value) (ds gs : List (DataW H)) (before : List MemPlace)
    (hval : ∀ (j : Nat) t v, Tryz.f4.params[j]? = some t → args[j]? = some v → Value.okWide Tryz.prog W .any base t v)
    (hW : DataW.Whole enc Tryz.prog Tryz.f4.params.toList Rows.lockSafeSpec.vars false W args.toList ds gs before) :
    Calls Tryz.prog 4 args W fun e W' => ∃ v, e = .returned v ∧ Rows.lockSafeSpec.post enc Tryz.prog Tryz.f4 false true false false W args v W' := by
  have hW' := hW
  obtain ⟨p, q, hA0, hV, rfl, hfz, hnd⟩ := hW
  have hA : DataW.TrodAll enc Tryz.prog W 0 (fun _ => true) true Tryz.f4.params.toList args.toList ds p := hA0
  rw [Tryz.params4] at hA hval
  obtain ⟨v0, vs0, d0, ds0, p0, q0, ha0, rfl, rfl, h0, r0⟩ := trodAll_cons hA
  obtain ⟨v1, vs1, d1, ds1, p1, q1, rfl, rfl, rfl, h1, r1⟩ := trodAll_cons r0
  obtain ⟨v2, vs2, d2, ds2, p2, q2, rfl, rfl, rfl, h2, r2⟩ := trodAll_cons r1
  obtain ⟨rfl, rfl, rfl⟩ := trodAll_nil r2
  obtain rfl : args = #[v0, v1, v2] := by cases args; simp_all
  obtain ⟨rfl, rfl⟩ := trodVars_none hV
  obtain ⟨a0, e0, s0⟩ := c0e (n := 9) (by kernel_rfl) c5l (hval 0 29 v0 rfl rfl) h0
  obtain ⟨a1, e1, s1⟩ := a7B (n := 8) (by kernel_rfl) c5a (hval 1 40 v1 rfl rfl) h1
  obtain ⟨a2, e2, s2⟩ := a7B (n := 8) (by kernel_rfl) c5n (hval 2 41 v2 rfl rfl) h2
  obtain ⟨x0, rfl, b0⟩ := c1C s0
  obtain ⟨x1, hx1, l1, r1⟩ := c1L s1
  obtain rfl : a1 = _ := by simpa using hx1
  obtain ⟨x2, hx2, l2, r2⟩ := c0a s2
  obtain rfl : a2 = _ := by simpa using hx2
  have hc := b2u x0 x1 x2 b0 (Nat.le_trans l1 (by decide)) (fun c hc => (r1 c hc).w) (Nat.le_trans l2 (by decide)) (fun x hx => r2 x hx)
  refine (b4L Tryz.func4 (by rfl) (by decide) hc rfl (a6r e0 (a6r e1 (a6r e2 c0G)))).mono fun e W' ⟨he, hx⟩ => ?_
  subst he
  exact ⟨_, rfl, b7H rfl rfl rfl rfl (by kernel_rfl) (of_decide_eq_true (by kernel_rfl)) hW' hx rfl⟩

theorem lifted (os : Os) (started : os.Started) (H : Type) (enc : TypeId × Value → H) :
    ReturnsInHanded {} Tryz.checked os 4 .any (Rows.lockSafeSpec.pre6 enc Tryz.prog Tryz.f4 Rows.lockSafeRow.domain false) (Rows.lockSafeSpec.post enc Tryz.prog Tryz.f4 false true false false) := by
  refine returnsInHanded_of_change (C := Tryz.checked) own started (by kernel_rfl) Tryz.func4
    (ChangeSpec.witness6 (enc := enc) (C := Tryz.checked) false ⟨#[], #[.agg #[.slice none 0 0, .slice none 0 0, .slice none 0 0, .slice none 0 0], .slice none 0 0, .slice none 0 0], []⟩ 8 (by kernel_rfl) (by kernel_rfl) (by kernel_rfl) (by kernel_rfl)) ?_
  intro W base args ds gs before hval hW _ _
  exact contract H enc W base args ds gs before hval hW

theorem k0 : (Tryz.pinned).checked.prog.inPlace 4 = Rows.lockSafeRow.inPlace := by kernel_rfl
theorem k1 : (Tryz.pinned).checked.prog.unfollowed 4 = Rows.lockSafeRow.unfollowed := by kernel_rfl
theorem k2 : (Tryz.pinned).checked.prog.recurses 4 = Rows.lockSafeRow.recurses := by kernel_rfl
theorem k3 : (Tryz.pinned).checked.prog.varsNamed 4 = Rows.lockSafeRow.named := by kernel_rfl
theorem closed : joinedFacts (Tryz.pinned).checked.prog 4 Tryz.f4 Rows.lockSafeSpec Rows.lockSafeRow = true := by
  unfold joinedFacts
  rw [k0, k1, k2, k3]
  kernel_rfl
theorem proved : Rows.LockSafeSaid :=
  OpenClaim.holds_of_wide 4 Tryz.f4 rfl rfl rfl rfl rfl rfl rfl ⟨rfl, rfl, rfl, rfl, rfl⟩ rfl rfl rfl rfl rfl (by kernel_rfl) Tryz.func4 closed
    (of_decide_eq_true (by kernel_rfl)) (by unfold Func.isWrapper; first | (rw [if_pos (by decide +kernel)]; kernel_rfl) | (rw [if_neg (by decide +kernel)]; exact ⟨rfl, rfl⟩))
    (fun os started H enc _ => lifted os started H enc)
end Go.Proofs.YtlgdbddegopphaaGreat.lockSafe
