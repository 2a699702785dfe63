/- The law StreetNil holds for every input: what a nil signal, a nil lock and their zero values return. No condition beyond the statement's own. -/
import Derived.Test.YtfidfemeapgelaaGreatQ6
import Derived.Test.YtfidfemeapgelaaGreatRows
namespace Go.Proofs.YtfidfemeapgelaaGreat.streetNil
open Go.ChangeShapes Go.WideShapes Go.ChangeAt Go.RowKit Go.Street Go.AM
set_option maxRecDepth 100000
set_option linter.unusedVariables false


theorem own : ownKnob Tryz.prog.godebug = none := by kernel_rfl

theorem contract (H : Type) (enc : TypeId × Value → H) (W : World) (base : Nat) (args : Array Value) (ds gs : List (DataW H)) (before : List MemPlace)
    (hval : ∀ (j : Nat) t v, Tryz.f8.params[j]? = some t → args[j]? = some v → Value.okWide Tryz.prog W .any base t v)
    (hW : DataW.Whole enc Tryz.prog Tryz.f8.params.toList Rows.streetNilSpec.vars false W args.toList ds gs before) :
    Calls Tryz.prog 8 args W fun e W' => ∃ v, e = .returned v ∧ Rows.streetNilSpec.post enc Tryz.prog Tryz.f8 false true false false W args v W' := by
  have hW' := hW
  obtain ⟨p, q, hA0, hV, rfl, hfz, hnd⟩ := hW
  have hA : DataW.TrodAll enc Tryz.prog W 0 (fun _ => true) true Tryz.f8.params.toList args.toList ds p := hA0
  rw [Tryz.params8] at hA hval
  obtain ⟨v0, vs0, d0, ds0, p0, q0, ha0, rfl, rfl, h0, r0⟩ := trodAll_cons hA
  obtain ⟨v1, vs1, d1, ds1, p1, q1, rfl, rfl, rfl, h1, r1⟩ := trodAll_cons r0
  obtain ⟨v2, vs2, d2, ds2, p2, q2, rfl, rfl, rfl, h2, r2⟩ := trodAll_cons r1
  obtain ⟨rfl, rfl, rfl⟩ := trodAll_nil r2
  obtain rfl : args = #[v0, v1, v2] := by cases args; simp_all
  obtain ⟨rfl, rfl⟩ := trodVars_none hV
  obtain ⟨a0, e0, s0⟩ := arg_slice (n := 8) (by kernel_rfl) td41 (hval 0 41 v0 rfl rfl) h0
  obtain ⟨x1, e1, b1⟩ := arg_int (hval 1 3 v1 rfl rfl) h1
  obtain ⟨a2, e2, s2⟩ := arg_agg (n := 8) (by kernel_rfl) td56 (hval 2 56 v2 rfl rfl) h2
  obtain ⟨x0, hx0, l0, r0⟩ := sh_ints s0
  obtain rfl : a0 = _ := by simpa using hx0
  obtain ⟨x2, rfl, b2⟩ := sh_move s2
  have hc := c_StreetNil x0 x1 x2
  refine (law_calls Tryz.func8 (by rfl) (by decide) hc rfl (rep_cons e0 (rep_cons e1 (rep_cons e2 rep_nil)))).mono fun e W' ⟨he, hx⟩ => ?_
  subst he
  exact ⟨_, rfl, post_ext rfl rfl rfl rfl (by kernel_rfl) (of_decide_eq_true (by kernel_rfl)) hW' hx rfl⟩

theorem lifted (os : Os) (started : os.Started) (H : Type) (enc : TypeId × Value → H) :
    ReturnsInHanded {} Tryz.checked os 8 .any (Rows.streetNilSpec.pre6 enc Tryz.prog Tryz.f8 Rows.streetNilRow.domain false) (Rows.streetNilSpec.post enc Tryz.prog Tryz.f8 false true false false) := by
  refine returnsInHanded_of_change (C := Tryz.checked) own started (by kernel_rfl) Tryz.func8
    (ChangeSpec.witness6 (enc := enc) (C := Tryz.checked) false ⟨#[], #[.slice none 0 0, .int .i64 0, .agg #[.int .i64 0, .bool false]], []⟩ 8 (by kernel_rfl) (by kernel_rfl) (by kernel_rfl) (by kernel_rfl)) ?_
  intro W base args ds gs before hval hW _ _
  exact contract H enc W base args ds gs before hval hW

theorem k0 : (Tryz.pinned).checked.prog.inPlace 8 = Rows.streetNilRow.inPlace := by kernel_rfl
theorem k1 : (Tryz.pinned).checked.prog.unfollowed 8 = Rows.streetNilRow.unfollowed := by kernel_rfl
theorem k2 : (Tryz.pinned).checked.prog.recurses 8 = Rows.streetNilRow.recurses := by kernel_rfl
theorem k3 : (Tryz.pinned).checked.prog.varsNamed 8 = Rows.streetNilRow.named := by kernel_rfl
theorem closed : joinedFacts (Tryz.pinned).checked.prog 8 Tryz.f8 Rows.streetNilSpec Rows.streetNilRow = true := by
  unfold joinedFacts
  rw [k0, k1, k2, k3]
  kernel_rfl
theorem proved : Rows.StreetNilSaid :=
  OpenClaim.holds_of_wide 8 Tryz.f8 rfl rfl rfl rfl rfl rfl rfl ⟨rfl, rfl, rfl, rfl, rfl⟩ rfl rfl rfl rfl rfl (by kernel_rfl) Tryz.func8 closed
    (of_decide_eq_true (by kernel_rfl)) (by unfold Func.isWrapper; first | (rw [if_pos (by decide +kernel)]; kernel_rfl) | (rw [if_neg (by decide +kernel)]; exact ⟨rfl, rfl⟩))
    (fun os started H enc _ => lifted os started H enc)
end Go.Proofs.YtfidfemeapgelaaGreat.streetNil
