/- The law TrackDistances holds for every input: the distances to any move, which lists are consistent, and the shortest way, or that there is none. No condition beyond the statement's own. -/
import Derived.Test.YtdabjdajemiagaaGreatT2
import Derived.Test.YtdabjdajemiagaaGreatQ12
import Derived.Test.YtdabjdajemiagaaGreatT3
namespace Go.Proofs.YtdabjdajemiagaaGreat.trackDistances
open Go.ChangeShapes Go.WideShapes Go.ChangeAt Go.RowKit Go.Tram Go.AM
set_option maxRecDepth 100000
set_option linter.unusedVariables false

theorem sh_ints {n : Nat} {avs : List AV} (h : Shaped Tryz.prog (n + 2) 56 avs) : ∃ l : List Int, avs = [.lst 1 (l.map nCell)] ∧ l.length ≤ maxLen ∧ ∀ x ∈ l, I64 x := by
  obtain ⟨els, hl, hb, he⟩ := shaped_slice (by kernel_rfl) td56 h
  obtain ⟨l, rfl, hR⟩ := list_of (c := nCell) (R := fun x => I64 x) (fun el hel => sh_int (he el hel))
  simp at hl hb
  exact ⟨l, hl, hb, hR⟩

theorem own : ownKnob Tryz.prog.godebug = none := by kernel_rfl

theorem contract (H : Type) (enc : TypeId × Value → H) (W : World) (base : Nat) (args : Array Value) (ds gs : List (DataW H)) (before : List MemPlace)
    (hval : ∀ (j : Nat) t v, Tryz.f10.params[j]? = some t → args[j]? = some v → Value.okWide Tryz.prog W .any base t v)
    (hW : DataW.Whole enc Tryz.prog Tryz.f10.params.toList Rows.trackDistancesSpec.vars false W args.toList ds gs before) :
    Calls Tryz.prog 10 args W fun e W' => ∃ v, e = .returned v ∧ Rows.trackDistancesSpec.post enc Tryz.prog Tryz.f10 false true false false W args v W' := by
  have hW' := hW
  obtain ⟨p, q, hA0, hV, rfl, hfz, hnd⟩ := hW
  have hA : DataW.TrodAll enc Tryz.prog W 0 (fun _ => true) true Tryz.f10.params.toList args.toList ds p := hA0
  rw [Tryz.params10] at hA hval
  obtain ⟨v0, vs0, d0, ds0, p0, q0, ha0, rfl, rfl, h0, r0⟩ := trodAll_cons hA
  obtain ⟨v1, vs1, d1, ds1, p1, q1, rfl, rfl, rfl, h1, r1⟩ := trodAll_cons r0
  obtain ⟨v2, vs2, d2, ds2, p2, q2, rfl, rfl, rfl, h2, r2⟩ := trodAll_cons r1
  obtain ⟨v3, vs3, d3, ds3, p3, q3, rfl, rfl, rfl, h3, r3⟩ := trodAll_cons r2
  obtain ⟨rfl, rfl, rfl⟩ := trodAll_nil r3
  obtain rfl : args = #[v0, v1, v2, v3] := by cases args; simp_all
  obtain ⟨rfl, rfl⟩ := trodVars_none hV
  obtain ⟨a0, e0, s0⟩ := arg_agg (n := 8) (by kernel_rfl) td25 (hval 0 25 v0 rfl rfl) h0
  obtain ⟨a1, e1, s1⟩ := arg_agg (n := 8) (by kernel_rfl) td27 (hval 1 27 v1 rfl rfl) h1
  obtain ⟨a2, e2, s2⟩ := arg_agg (n := 8) (by kernel_rfl) td27 (hval 2 27 v2 rfl rfl) h2
  obtain ⟨a3, e3, s3⟩ := arg_slice (n := 8) (by kernel_rfl) td56 (hval 3 56 v3 rfl rfl) h3
  obtain ⟨x0, rfl, hf⟩ := sh_plan s0
  obtain ⟨x1, rfl, b1⟩ := sh_move s1
  obtain ⟨x2, rfl, b2⟩ := sh_move s2
  obtain ⟨x3, hx3, l3, r3⟩ := sh_ints s3
  obtain rfl : a3 = _ := by simpa using hx3
  have hc := c_TrackDistances x0 x1 x2 x3 hf l3 (fun x hx => (r3 x hx).1)
  refine (law_calls Tryz.func10 (by rfl) (by decide) hc rfl (rep_cons e0 (rep_cons e1 (rep_cons e2 (rep_cons e3 rep_nil))))).mono fun e W' ⟨he, hx⟩ => ?_
  subst he
  exact ⟨_, rfl, post_ext rfl rfl rfl rfl (by kernel_rfl) (of_decide_eq_true (by kernel_rfl)) hW' hx rfl⟩

theorem lifted (os : Os) (started : os.Started) (H : Type) (enc : TypeId × Value → H) :
    ReturnsInHanded {} Tryz.checked os 10 .any (Rows.trackDistancesSpec.pre6 enc Tryz.prog Tryz.f10 Rows.trackDistancesRow.domain false) (Rows.trackDistancesSpec.post enc Tryz.prog Tryz.f10 false true false false) := by
  refine returnsInHanded_of_change (C := Tryz.checked) own started (by kernel_rfl) Tryz.func10
    (ChangeSpec.witness6 (enc := enc) (C := Tryz.checked) false ⟨#[], #[.agg #[.slice none 0 0, .slice none 0 0], .agg #[.int .i64 0, .bool false], .agg #[.int .i64 0, .bool false], .slice none 0 0], []⟩ 8 (by kernel_rfl) (by kernel_rfl) (by kernel_rfl) (by kernel_rfl)) ?_
  intro W base args ds gs before hval hW _ _
  exact contract H enc W base args ds gs before hval hW

theorem proved : Rows.TrackDistancesSaid :=
  OpenClaim.holds_of_wide 10 Tryz.f10 rfl rfl rfl rfl rfl rfl rfl ⟨rfl, rfl, rfl, rfl, rfl⟩ rfl rfl rfl rfl rfl (by kernel_rfl) Tryz.func10 (by kernel_rfl)
    (of_decide_eq_true (by kernel_rfl)) (by unfold Func.isWrapper; first | (rw [if_pos (by decide +kernel)]; kernel_rfl) | (rw [if_neg (by decide +kernel)]; exact ⟨rfl, rfl⟩))
    (fun os started H enc _ => lifted os started H enc)
end Go.Proofs.YtdabjdajemiagaaGreat.trackDistances
