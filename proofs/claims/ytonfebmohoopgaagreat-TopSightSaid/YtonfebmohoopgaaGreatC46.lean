/- The law TopSight holds for every input: a car that brakes from the sight speed comes to stand before another one. No condition beyond the statement's own. -/
import Derived.Test.YtonfebmohoopgaaGreatL6
import Derived.Test.YtonfebmohoopgaaGreatRows
namespace Go.Proofs.YtonfebmohoopgaaGreat.topSight
open Go.ChangeShapes Go.WideShapes Go.ChangeAt Go.RowKit Go.Cur Go.Mo Go.AM
open Go.Tram (sh_plan sh_moves)
set_option maxRecDepth 100000
set_option linter.unusedVariables false


theorem own : ownKnob Tryz.prog.godebug = none := by kernel_rfl

theorem contract (H : Type) (enc : TypeId × Value → H) (W : World) (base : Nat) (args : Array Value) (ds gs : List (DataW H)) (before : List MemPlace)
    (hval : ∀ (j : Nat) t v, Tryz.f3.params[j]? = some t → args[j]? = some v → Value.okWide Tryz.prog W .any base t v)
    (hW : DataW.Whole enc Tryz.prog Tryz.f3.params.toList Rows.topSightSpec.vars false W args.toList ds gs before) :
    Calls Tryz.prog 3 args W fun e W' => ∃ v, e = .returned v ∧ Rows.topSightSpec.post enc Tryz.prog Tryz.f3 false true false false W args v W' := by
  have hW' := hW
  obtain ⟨p, q, hA0, hV, rfl, hfz, hnd⟩ := hW
  have hA : DataW.TrodAll enc Tryz.prog W 0 (fun _ => true) true Tryz.f3.params.toList args.toList ds p := hA0
  rw [Tryz.params3] at hA hval
  obtain ⟨v0, vs0, d0, ds0, p0, q0, ha0, rfl, rfl, h0, r0⟩ := trodAll_cons hA
  obtain ⟨v1, vs1, d1, ds1, p1, q1, rfl, rfl, rfl, h1, r1⟩ := trodAll_cons r0
  obtain ⟨v2, vs2, d2, ds2, p2, q2, rfl, rfl, rfl, h2, r2⟩ := trodAll_cons r1
  obtain ⟨v3, vs3, d3, ds3, p3, q3, rfl, rfl, rfl, h3, r3⟩ := trodAll_cons r2
  obtain ⟨v4, vs4, d4, ds4, p4, q4, rfl, rfl, rfl, h4, r4⟩ := trodAll_cons r3
  obtain ⟨v5, vs5, d5, ds5, p5, q5, rfl, rfl, rfl, h5, r5⟩ := trodAll_cons r4
  obtain ⟨v6, vs6, d6, ds6, p6, q6, rfl, rfl, rfl, h6, r6⟩ := trodAll_cons r5
  obtain ⟨v7, vs7, d7, ds7, p7, q7, rfl, rfl, rfl, h7, r7⟩ := trodAll_cons r6
  obtain ⟨rfl, rfl, rfl⟩ := trodAll_nil r7
  obtain rfl : args = #[v0, v1, v2, v3, v4, v5, v6, v7] := by cases args; simp_all
  obtain ⟨rfl, rfl⟩ := trodVars_none hV
  obtain ⟨a0, e0, s0⟩ := arg_agg (n := 8) (by kernel_rfl) td25 (hval 0 25 v0 rfl rfl) h0
  obtain ⟨a1, e1, s1⟩ := arg_slice (n := 8) (by kernel_rfl) td26 (hval 1 26 v1 rfl rfl) h1
  obtain ⟨a2, e2, s2⟩ := arg_agg (n := 8) (by kernel_rfl) td29 (hval 2 29 v2 rfl rfl) h2
  obtain ⟨a3, e3, s3⟩ := arg_agg (n := 8) (by kernel_rfl) td29 (hval 3 29 v3 rfl rfl) h3
  obtain ⟨x4, e4, b4⟩ := arg_int (hval 4 3 v4 rfl rfl) h4
  obtain ⟨x5, e5, b5⟩ := arg_int (hval 5 3 v5 rfl rfl) h5
  obtain ⟨x6, e6, b6⟩ := arg_int (hval 6 3 v6 rfl rfl) h6
  obtain ⟨x7, e7, b7⟩ := arg_int (hval 7 3 v7 rfl rfl) h7
  obtain ⟨x0, rfl, hf⟩ := sh_plan s0
  obtain ⟨x1, hx1, l1, r1⟩ := sh_moves s1
  obtain rfl : a1 = _ := by simpa using hx1
  obtain ⟨x2, rfl, b2⟩ := sh_train s2
  obtain ⟨x3, rfl, b3⟩ := sh_train s3
  have hc := c_TopSight x0 x1 x2 x3 x4 x5 x6 x7 l1 b2 b3 b5 b7
  refine (law_calls Tryz.func3 (by rfl) (by decide) hc rfl (rep_cons e0 (rep_cons e1 (rep_cons e2 (rep_cons e3 (rep_cons e4 (rep_cons e5 (rep_cons e6 (rep_cons e7 rep_nil))))))))).mono fun e W' ⟨he, hx⟩ => ?_
  subst he
  exact ⟨_, rfl, post_ext rfl rfl rfl rfl (by kernel_rfl) (of_decide_eq_true (by kernel_rfl)) hW' hx rfl⟩

theorem lifted (os : Os) (started : os.Started) (H : Type) (enc : TypeId × Value → H) :
    ReturnsInHanded {} Tryz.checked os 3 .any (Rows.topSightSpec.pre6 enc Tryz.prog Tryz.f3 Rows.topSightRow.domain false) (Rows.topSightSpec.post enc Tryz.prog Tryz.f3 false true false false) := by
  refine returnsInHanded_of_change (C := Tryz.checked) own started (by kernel_rfl) Tryz.func3
    (ChangeSpec.witness6 (enc := enc) (C := Tryz.checked) false ⟨#[], #[.agg #[.slice none 0 0, .slice none 0 0], .slice none 0 0, .agg #[.int .i64 0, .int .i64 0, .int .i64 0, .int .i64 0, .int .i64 0, .int .i64 0, .int .i64 0, .int .i64 0, .int .i64 0, .slice none 0 0], .agg #[.int .i64 0, .int .i64 0, .int .i64 0, .int .i64 0, .int .i64 0, .int .i64 0, .int .i64 0, .int .i64 0, .int .i64 0, .slice none 0 0], .int .i64 0, .int .i64 0, .int .i64 0, .int .i64 0], []⟩ 8 (by kernel_rfl) (by kernel_rfl) (by kernel_rfl) (by kernel_rfl)) ?_
  intro W base args ds gs before hval hW _ _
  exact contract H enc W base args ds gs before hval hW

theorem proved : Rows.TopSightSaid :=
  OpenClaim.holds_of_wide 3 Tryz.f3 rfl rfl rfl rfl rfl rfl rfl ⟨rfl, rfl, rfl, rfl, rfl⟩ rfl rfl rfl rfl rfl (by kernel_rfl) Tryz.func3 (by kernel_rfl)
    (of_decide_eq_true (by kernel_rfl)) (by unfold Func.isWrapper; first | (rw [if_pos (by decide +kernel)]; kernel_rfl) | (rw [if_neg (by decide +kernel)]; exact ⟨rfl, rfl⟩))
    (fun os started H enc _ => lifted os started H enc)
end Go.Proofs.YtonfebmohoopgaaGreat.topSight
