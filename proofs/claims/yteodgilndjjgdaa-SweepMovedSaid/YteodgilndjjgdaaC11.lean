/- The law SweepMoved holds for every input: the theorem of maps. No condition beyond the statement's own. -/
import Derived.Test.YteodgilndjjgdaaT2
import Derived.Test.YteodgilndjjgdaaL11
namespace Go.Proofs.Yteodgilndjjgdaa.sweepMoved
open Go.ChangeShapes Go.WideShapes Go.ChangeAt Go.RowKit Go.Tram Go.AM
set_option maxRecDepth 100000
set_option linter.unusedVariables false

theorem own : ownKnob Try.prog.godebug = none := by kernel_rfl

theorem contract (H : Type) (enc : TypeId × Value → H) (W : World) (base : Nat) (args : Array Value) (ds gs : List (DataW H)) (before : List MemPlace)
    (hval : ∀ (j : Nat) t v, Try.f13.params[j]? = some t → args[j]? = some v → Value.okWide Try.prog W .any base t v)
    (hW : DataW.Whole enc Try.prog Try.f13.params.toList Rows.sweepMovedSpec.vars false W args.toList ds gs before) :
    Calls Try.prog 13 args W fun e W' => ∃ v, e = .returned v ∧ Rows.sweepMovedSpec.post enc Try.prog Try.f13 false true false false W args v W' := by
  have hW' := hW
  obtain ⟨p, q, hA0, hV, rfl, hfz, hnd⟩ := hW
  have hA : DataW.TrodAll enc Try.prog W 0 (fun _ => true) true Try.f13.params.toList args.toList ds p := hA0
  rw [Try.params13] at hA hval
  obtain ⟨v0, vs0, d0, ds0, p0, q0, ha0, rfl, rfl, h0, r0⟩ := trodAll_cons hA
  obtain ⟨v1, vs1, d1, ds1, p1, q1, rfl, rfl, rfl, h1, r1⟩ := trodAll_cons r0
  obtain ⟨v2, vs2, d2, ds2, p2, q2, rfl, rfl, rfl, h2, r2⟩ := trodAll_cons r1
  obtain ⟨v3, vs3, d3, ds3, p3, q3, rfl, rfl, rfl, h3, r3⟩ := trodAll_cons r2
  obtain ⟨v4, vs4, d4, ds4, p4, q4, rfl, rfl, rfl, h4, r4⟩ := trodAll_cons r3
  obtain ⟨v5, vs5, d5, ds5, p5, q5, rfl, rfl, rfl, h5, r5⟩ := trodAll_cons r4
  obtain ⟨rfl, rfl, rfl⟩ := trodAll_nil r5
  obtain rfl : args = #[v0, v1, v2, v3, v4, v5] := by cases args; simp_all
  obtain ⟨rfl, rfl⟩ := trodVars_none hV
  obtain ⟨a0, e0, s0⟩ := arg_agg (n := 8) (by kernel_rfl) td25 (hval 0 25 v0 rfl rfl) h0
  obtain ⟨a1, e1, s1⟩ := arg_agg (n := 8) (by kernel_rfl) td29 (hval 1 29 v1 rfl rfl) h1
  obtain ⟨a2, e2, s2⟩ := arg_agg (n := 8) (by kernel_rfl) td27 (hval 2 27 v2 rfl rfl) h2
  obtain ⟨a3, e3, s3⟩ := arg_agg (n := 8) (by kernel_rfl) td27 (hval 3 27 v3 rfl rfl) h3
  obtain ⟨a4, e4, s4⟩ := arg_agg (n := 8) (by kernel_rfl) td82 (hval 4 82 v4 rfl rfl) h4
  obtain ⟨x5, e5, b5⟩ := arg_int (hval 5 3 v5 rfl rfl) h5
  obtain ⟨x0, rfl, hf⟩ := sh_plan s0
  obtain ⟨x1, rfl, b1⟩ := sh_prof s1
  obtain ⟨x2, rfl, b2⟩ := sh_strip s2
  obtain ⟨x3, rfl, b3⟩ := sh_strip s3
  obtain ⟨x4, rfl⟩ := sh_spot s4
  have hc := c_SweepMoved x0 x1 x2 x3 x4 x5 hf
  refine (law_calls Try.func13 (by rfl) (by decide) hc rfl (rep_cons e0 (rep_cons e1 (rep_cons e2 (rep_cons e3 (rep_cons e4 (rep_cons e5 rep_nil))))))).mono fun e W' ⟨he, hx⟩ => ?_
  subst he
  exact ⟨_, rfl, post_ext rfl rfl rfl rfl (by kernel_rfl) (of_decide_eq_true (by kernel_rfl)) hW' hx rfl⟩

theorem lifted (os : Os) (started : os.Started) (H : Type) (enc : TypeId × Value → H) :
    ReturnsInHanded {} Try.checked os 13 .any (Rows.sweepMovedSpec.pre6 enc Try.prog Try.f13 Rows.sweepMovedRow.domain false) (Rows.sweepMovedSpec.post enc Try.prog Try.f13 false true false false) := by
  refine returnsInHanded_of_change (C := Try.checked) own started (by kernel_rfl) Try.func13
    (ChangeSpec.witness6 (enc := enc) (C := Try.checked) false ⟨#[], #[.agg #[.slice none 0 0, .slice none 0 0], .agg #[.int .i64 0, .int .i64 0], .agg #[.int .i64 0, .int .i64 0], .agg #[.int .i64 0, .int .i64 0], .agg #[.int .i64 0, .int .i64 0], .int .i64 0], []⟩ 8 (by kernel_rfl) (by kernel_rfl) (by kernel_rfl) (by kernel_rfl)) ?_
  intro W base args ds gs before hval hW _ _
  exact contract H enc W base args ds gs before hval hW

theorem proved : Rows.SweepMovedSaid :=
  OpenClaim.holds_of_wide 13 Try.f13 rfl rfl rfl rfl rfl rfl rfl ⟨rfl, rfl, rfl, rfl, rfl⟩ rfl rfl rfl rfl rfl (by kernel_rfl) Try.func13 (by kernel_rfl)
    (of_decide_eq_true (by kernel_rfl)) (by unfold Func.isWrapper; first | (rw [if_pos (by decide +kernel)]; kernel_rfl) | (rw [if_neg (by decide +kernel)]; exact ⟨rfl, rfl⟩))
    (fun os started H enc _ => lifted os started H enc)
end Go.Proofs.Yteodgilndjjgdaa.sweepMoved
