/- The law CurrentMore holds for every input: more load makes no voltage of its part higher. No condition beyond the statement's own. -/
import Derived.Test.YtibddmpaklcleaaP7
import Derived.Test.YtibddmpaklcleaaRows
namespace Go.Proofs.Ytibddmpaklcleaa.currentMore
open Go.ChangeShapes Go.WideShapes Go.ChangeAt Go.RowKit Go.Cur Go.AM
set_option maxRecDepth 100000
set_option linter.unusedVariables false


theorem own : ownKnob Try.prog.godebug = none := by kernel_rfl

theorem contract (H : Type) (enc : TypeId × Value → H) (W : World) (base : Nat) (args : Array Value) (ds gs : List (DataW H)) (before : List MemPlace)
    (hval : ∀ (j : Nat) t v, Try.f8.params[j]? = some t → args[j]? = some v → Value.okWide Try.prog W .any base t v)
    (hW : DataW.Whole enc Try.prog Try.f8.params.toList Rows.currentMoreSpec.vars false W args.toList ds gs before) :
    Calls Try.prog 8 args W fun e W' => ∃ v, e = .returned v ∧ Rows.currentMoreSpec.post enc Try.prog Try.f8 false true false false W args v W' := by
  have hW' := hW
  obtain ⟨p, q, hA0, hV, rfl, hfz, hnd⟩ := hW
  have hA : DataW.TrodAll enc Try.prog W 0 (fun _ => true) true Try.f8.params.toList args.toList ds p := hA0
  rw [Try.params8] at hA hval
  obtain ⟨v0, vs0, d0, ds0, p0, q0, ha0, rfl, rfl, h0, r0⟩ := trodAll_cons hA
  obtain ⟨v1, vs1, d1, ds1, p1, q1, rfl, rfl, rfl, h1, r1⟩ := trodAll_cons r0
  obtain ⟨v2, vs2, d2, ds2, p2, q2, rfl, rfl, rfl, h2, r2⟩ := trodAll_cons r1
  obtain ⟨v3, vs3, d3, ds3, p3, q3, rfl, rfl, rfl, h3, r3⟩ := trodAll_cons r2
  obtain ⟨v4, vs4, d4, ds4, p4, q4, rfl, rfl, rfl, h4, r4⟩ := trodAll_cons r3
  obtain ⟨rfl, rfl, rfl⟩ := trodAll_nil r4
  obtain rfl : args = #[v0, v1, v2, v3, v4] := by cases args; simp_all
  obtain ⟨rfl, rfl⟩ := trodVars_none hV
  obtain ⟨a0, e0, s0⟩ := a0I (n := 8) (by kernel_rfl) c1O (hval 0 25 v0 rfl rfl) h0
  obtain ⟨a1, e1, s1⟩ := a0I (n := 8) (by kernel_rfl) c1T (hval 1 28 v1 rfl rfl) h1
  obtain ⟨a2, e2, s2⟩ := a1W (n := 8) (by kernel_rfl) c1L (hval 2 29 v2 rfl rfl) h2
  obtain ⟨x3, e3, b3⟩ := b2v (hval 3 3 v3 rfl rfl) h3
  obtain ⟨x4, e4, b4⟩ := b2v (hval 4 3 v4 rfl rfl) h4
  obtain ⟨x0, rfl, m0⟩ := a7w s0
  obtain ⟨x1, rfl, m1⟩ := a4f s1
  obtain ⟨x2, hx2, l2, r2⟩ := a4Y s2
  obtain rfl : a2 = _ := by simpa using hx2
  have hc := a4H x0 x1 x2 x3 x4 b4
  refine (a2s Try.func8 (by rfl) (by decide) hc rfl (E1 e0 (E1 e1 (E1 e2 (E1 e3 (E1 e4 a8t)))))).mono fun e W' ⟨he, hx⟩ => ?_
  subst he
  exact ⟨_, rfl, a4K rfl rfl rfl rfl (by kernel_rfl) (of_decide_eq_true (by kernel_rfl)) hW' hx rfl⟩

theorem lifted (os : Os) (started : os.Started) (H : Type) (enc : TypeId × Value → H) :
    ReturnsInHanded {} Try.checked os 8 .any (Rows.currentMoreSpec.pre6 enc Try.prog Try.f8 Rows.currentMoreRow.domain false) (Rows.currentMoreSpec.post enc Try.prog Try.f8 false true false false) := by
  refine returnsInHanded_of_change (C := Try.checked) own started (by kernel_rfl) Try.func8
    (ChangeSpec.witness6 (enc := enc) (C := Try.checked) false ⟨#[], #[.agg #[.int .i64 0, .slice none 0 0, .slice none 0 0, .int .i64 0], .agg #[.slice none 0 0, .slice none 0 0], .slice none 0 0, .int .i64 0, .int .i64 0], []⟩ 8 (by kernel_rfl) (by kernel_rfl) (by kernel_rfl) (by kernel_rfl)) ?_
  intro W base args ds gs before hval hW _ _
  exact contract H enc W base args ds gs before hval hW

theorem proved : Rows.CurrentMoreSaid :=
  OpenClaim.holds_of_wide 8 Try.f8 rfl rfl rfl rfl rfl rfl rfl ⟨rfl, rfl, rfl, rfl, rfl⟩ rfl rfl rfl rfl rfl (by kernel_rfl) Try.func8 (by kernel_rfl)
    (of_decide_eq_true (by kernel_rfl)) (by unfold Func.isWrapper; first | (rw [if_pos (by decide +kernel)]; kernel_rfl) | (rw [if_neg (by decide +kernel)]; exact ⟨rfl, rfl⟩))
    (fun os started H enc _ => lifted os started H enc)
end Go.Proofs.Ytibddmpaklcleaa.currentMore
