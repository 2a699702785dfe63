/- The law TrackShortest holds for every input: the shortest way is the first one of all ways from a move to a move, and these are in order. No condition beyond the statement's own. -/
import Derived.Test.YtdechefjlfkehaaGreatN5
import Derived.Test.YtdechefjlfkehaaGreatRows
namespace Go.Proofs.YtdechefjlfkehaaGreat.trackShortest
open Go.ChangeShapes Go.WideShapes Go.ChangeAt Go.RowKit Go.Tram Go.AM
set_option maxRecDepth 100000
set_option linter.unusedVariables false


theorem own : ownKnob Tryz.prog.godebug = none := by kernel_rfl

theorem contract (H : Type) (enc : TypeId × Value → H) (W : World) (base : Nat) (args : Array Value) (ds gs : List (DataW H)) (before : List MemPlace)
    (hval : ∀ (j : Nat) t v, Tryz.f4.params[j]? = some t → args[j]? = some v → Value.okWide Tryz.prog W .any base t v)
    (hW : DataW.Whole enc Tryz.prog Tryz.f4.params.toList Rows.trackShortestSpec.vars false W args.toList ds gs before) :
    Calls Tryz.prog 4 args W fun e W' => ∃ v, e = .returned v ∧ Rows.trackShortestSpec.post enc Tryz.prog Tryz.f4 false true false false W args v W' := by
  have hW' := hW
  obtain ⟨p, q, hA0, hV, rfl, hfz, hnd⟩ := hW
  have hA : DataW.TrodAll enc Tryz.prog W 0 (fun _ => true) true Tryz.f4.params.toList args.toList ds p := hA0
  rw [Tryz.params4] at hA hval
  obtain ⟨v0, vs0, d0, ds0, p0, q0, ha0, rfl, rfl, h0, r0⟩ := trodAll_cons hA
  obtain ⟨v1, vs1, d1, ds1, p1, q1, rfl, rfl, rfl, h1, r1⟩ := trodAll_cons r0
  obtain ⟨v2, vs2, d2, ds2, p2, q2, rfl, rfl, rfl, h2, r2⟩ := trodAll_cons r1
  obtain ⟨v3, vs3, d3, ds3, p3, q3, rfl, rfl, rfl, h3, r3⟩ := trodAll_cons r2
  obtain ⟨rfl, rfl, rfl⟩ := trodAll_nil r3
  obtain rfl : args = #[v0, v1, v2, v3] := by cases args; simp_all
  obtain ⟨rfl, rfl⟩ := trodVars_none hV
  obtain ⟨a0, e0, s0⟩ := arg_agg (n := 8) (by kernel_rfl) td25 (hval 0 25 v0 rfl rfl) h0
  obtain ⟨a1, e1, s1⟩ := arg_agg (n := 8) (by kernel_rfl) td51 (hval 1 51 v1 rfl rfl) h1
  obtain ⟨a2, e2, s2⟩ := arg_agg (n := 8) (by kernel_rfl) td51 (hval 2 51 v2 rfl rfl) h2
  obtain ⟨x3, e3, b3⟩ := arg_int (hval 3 3 v3 rfl rfl) h3
  obtain ⟨x0, rfl, hf⟩ := sh_plan s0
  obtain ⟨x1, rfl, b1⟩ := sh_move s1
  obtain ⟨x2, rfl, b2⟩ := sh_move s2
  have hc := c_TrackShortest x0 x1 x2 x3 hf
  refine (law_calls Tryz.func4 (by rfl) (by decide) hc rfl (rep_cons e0 (rep_cons e1 (rep_cons e2 (rep_cons e3 rep_nil))))).mono fun e W' ⟨he, hx⟩ => ?_
  subst he
  exact ⟨_, rfl, post_ext rfl rfl rfl rfl (by kernel_rfl) (of_decide_eq_true (by kernel_rfl)) hW' hx rfl⟩

theorem lifted (os : Os) (started : os.Started) (H : Type) (enc : TypeId × Value → H) :
    ReturnsInHanded {} Tryz.checked os 4 .any (Rows.trackShortestSpec.pre6 enc Tryz.prog Tryz.f4 Rows.trackShortestRow.domain false) (Rows.trackShortestSpec.post enc Tryz.prog Tryz.f4 false true false false) := by
  refine returnsInHanded_of_change (C := Tryz.checked) own started (by kernel_rfl) Tryz.func4
    (ChangeSpec.witness6 (enc := enc) (C := Tryz.checked) false ⟨#[], #[.agg #[.slice none 0 0, .slice none 0 0], .agg #[.int .i64 0, .bool false], .agg #[.int .i64 0, .bool false], .int .i64 0], []⟩ 8 (by kernel_rfl) (by kernel_rfl) (by kernel_rfl) (by kernel_rfl)) ?_
  intro W base args ds gs before hval hW _ _
  exact contract H enc W base args ds gs before hval hW

theorem proved : Rows.TrackShortestSaid :=
  OpenClaim.holds_of_wide 4 Tryz.f4 rfl rfl rfl rfl rfl rfl rfl ⟨rfl, rfl, rfl, rfl, rfl⟩ rfl rfl rfl rfl rfl (by kernel_rfl) Tryz.func4 (by kernel_rfl)
    (of_decide_eq_true (by kernel_rfl)) (by unfold Func.isWrapper; first | (rw [if_pos (by decide +kernel)]; kernel_rfl) | (rw [if_neg (by decide +kernel)]; exact ⟨rfl, rfl⟩))
    (fun os started H enc _ => lifted os started H enc)
end Go.Proofs.YtdechefjlfkehaaGreat.trackShortest
