/-
  No cell of these rows narrows 'for every input' (looked for: loops, veiled, ifaces, maps, wideKeys, modest, calm, conditions, laid).
  DERIVED. THE GIVEN ROWS OF THIS SEAT. 11 by the template 'for every input the law returns true; each argument reads behind the call as it read before'; 0 by the template 'total and deterministic' (their statements: YteodgilndjjgdaaTotals.lean).
  GIVEN WITH THE SEED: the statements are not yours to turn. If you find one false, say at which input.
  Laid BY PROGRAM, IN A SANDBOX (cutbox-rows.mjs): the forced cells as the released guide's own fill.sh prints them over the translation 9fbff2c0997a15a3… (all of the seat's roots in one cut). By AI agents, Wed Nov 11 2026. No macro, syntax, notation, axiom, sorry.
-/
import Derived.Test.YteodgilndjjgdaaChecked
import GoSem.Claim
import GoSem.ClaimJoined
import GoSem.ClaimMapViews
import Derived.JoinedTies
import Derived.KernelRfl
namespace Go.Proofs.Yteodgilndjjgdaa
/- THE CELL 'sum', in the pinned program and in every row, IS THE sha256 OF THE DUMP (.gsa) THAT YteodgilndjjgdaaProg.lean LOADS. Nothing in Lean hashes anything: it is a label: what it is worth is what the hold of that sum in a sandbox is worth. -/
noncomputable def Try.pinned : Pinned := { name := "yteodgilndjjgdaa", sum := "9fbff2c0997a15a37b9f6578dacf0210162e29c990d7359eb50f42717935888a", checked := Try.checked }
namespace Rows
def none {H : Type} : Left H := { results := [], args := [] }

/-- 'tramlinelaw02.SweepFoul': WHATEVER THE INPUT: true; the input reads as it did. -/
def sweepFoulSpec : ChangeSpec := { name := "sweepFoul", fn := fun _ => fun
  | [d1, d2, d3, d4, d5] => { results := [.lit (.bool true)], args := [d1, d2, d3, d4, d5] }
  | _ => none }
def sweepFoulRow : OpenClaim := { program := "yteodgilndjjgdaa", sum := "9fbff2c0997a15a37b9f6578dacf0210162e29c990d7359eb50f42717935888a", func := "tramline/tramlinelaw02.SweepFoul", spec := "sweepFoul", inPlace := ["math.sqrt"], unfollowed := true, recurses := true, plainKeys := false, apart := false }
def SweepFoulSaid : Prop := sweepFoulRow.holds Try.pinned (OpenSpec.ofChange sweepFoulSpec)

/-- ITS FALSE NEIGHBOUR: 'it returns false'. Refute it at one input. -/
def sweepFoulWrong : ChangeSpec := { name := "sweepFoul", fn := fun _ => fun
  | [d1, d2, d3, d4, d5] => { results := [.lit (.bool false)], args := [d1, d2, d3, d4, d5] }
  | _ => none }
def SweepFoulWrongFalsely : Prop := sweepFoulRow.holds Try.pinned (OpenSpec.ofChange sweepFoulWrong)

/-- 'tramlinelaw02.SweepClears': WHATEVER THE INPUT: true; the input reads as it did. -/
def sweepClearsSpec : ChangeSpec := { name := "sweepClears", fn := fun _ => fun
  | [d1, d2, d3, d4, d5] => { results := [.lit (.bool true)], args := [d1, d2, d3, d4, d5] }
  | _ => none }
def sweepClearsRow : OpenClaim := { program := "yteodgilndjjgdaa", sum := "9fbff2c0997a15a37b9f6578dacf0210162e29c990d7359eb50f42717935888a", func := "tramline/tramlinelaw02.SweepClears", spec := "sweepClears", inPlace := ["math.sqrt"], unfollowed := true, recurses := true, plainKeys := false, apart := false }
def SweepClearsSaid : Prop := sweepClearsRow.holds Try.pinned (OpenSpec.ofChange sweepClearsSpec)

/-- ITS FALSE NEIGHBOUR: 'it returns false'. Refute it at one input. -/
def sweepClearsWrong : ChangeSpec := { name := "sweepClears", fn := fun _ => fun
  | [d1, d2, d3, d4, d5] => { results := [.lit (.bool false)], args := [d1, d2, d3, d4, d5] }
  | _ => none }
def SweepClearsWrongFalsely : Prop := sweepClearsRow.holds Try.pinned (OpenSpec.ofChange sweepClearsWrong)

/-- 'tramlinelaw02.SweepNear': WHATEVER THE INPUT: true; the input reads as it did. -/
def sweepNearSpec : ChangeSpec := { name := "sweepNear", fn := fun _ => fun
  | [d1, d2, d3, d4] => { results := [.lit (.bool true)], args := [d1, d2, d3, d4] }
  | _ => none }
def sweepNearRow : OpenClaim := { program := "yteodgilndjjgdaa", sum := "9fbff2c0997a15a37b9f6578dacf0210162e29c990d7359eb50f42717935888a", func := "tramline/tramlinelaw02.SweepNear", spec := "sweepNear", inPlace := ["math.sqrt"], unfollowed := true, recurses := true, plainKeys := false, apart := false }
def SweepNearSaid : Prop := sweepNearRow.holds Try.pinned (OpenSpec.ofChange sweepNearSpec)

/-- ITS FALSE NEIGHBOUR: 'it returns false'. Refute it at one input. -/
def sweepNearWrong : ChangeSpec := { name := "sweepNear", fn := fun _ => fun
  | [d1, d2, d3, d4] => { results := [.lit (.bool false)], args := [d1, d2, d3, d4] }
  | _ => none }
def SweepNearWrongFalsely : Prop := sweepNearRow.holds Try.pinned (OpenSpec.ofChange sweepNearWrong)

/-- 'tramlinelaw02.SweepGaps': WHATEVER THE INPUT: true; the input reads as it did. -/
def sweepGapsSpec : ChangeSpec := { name := "sweepGaps", fn := fun _ => fun
  | [d1, d2, d3, d4] => { results := [.lit (.bool true)], args := [d1, d2, d3, d4] }
  | _ => none }
def sweepGapsRow : OpenClaim := { program := "yteodgilndjjgdaa", sum := "9fbff2c0997a15a37b9f6578dacf0210162e29c990d7359eb50f42717935888a", func := "tramline/tramlinelaw02.SweepGaps", spec := "sweepGaps", inPlace := ["math.sqrt"], unfollowed := true, recurses := true, plainKeys := false, apart := false }
def SweepGapsSaid : Prop := sweepGapsRow.holds Try.pinned (OpenSpec.ofChange sweepGapsSpec)

/-- ITS FALSE NEIGHBOUR: 'it returns false'. Refute it at one input. -/
def sweepGapsWrong : ChangeSpec := { name := "sweepGaps", fn := fun _ => fun
  | [d1, d2, d3, d4] => { results := [.lit (.bool false)], args := [d1, d2, d3, d4] }
  | _ => none }
def SweepGapsWrongFalsely : Prop := sweepGapsRow.holds Try.pinned (OpenSpec.ofChange sweepGapsWrong)

/-- 'tramlinelaw02.SweepPlaces': WHATEVER THE INPUT: true; the input reads as it did. -/
def sweepPlacesSpec : ChangeSpec := { name := "sweepPlaces", fn := fun _ => fun
  | [d1, d2, d3] => { results := [.lit (.bool true)], args := [d1, d2, d3] }
  | _ => none }
def sweepPlacesRow : OpenClaim := { program := "yteodgilndjjgdaa", sum := "9fbff2c0997a15a37b9f6578dacf0210162e29c990d7359eb50f42717935888a", func := "tramline/tramlinelaw02.SweepPlaces", spec := "sweepPlaces", inPlace := ["math.sqrt"], unfollowed := true, recurses := true, plainKeys := false, apart := false }
def SweepPlacesSaid : Prop := sweepPlacesRow.holds Try.pinned (OpenSpec.ofChange sweepPlacesSpec)

/-- ITS FALSE NEIGHBOUR: 'it returns false'. Refute it at one input. -/
def sweepPlacesWrong : ChangeSpec := { name := "sweepPlaces", fn := fun _ => fun
  | [d1, d2, d3] => { results := [.lit (.bool false)], args := [d1, d2, d3] }
  | _ => none }
def SweepPlacesWrongFalsely : Prop := sweepPlacesRow.holds Try.pinned (OpenSpec.ofChange sweepPlacesWrong)

/-- 'tramlinelaw02.SweepZones': WHATEVER THE INPUT: true; the input reads as it did. -/
def sweepZonesSpec : ChangeSpec := { name := "sweepZones", fn := fun _ => fun
  | [d1, d2, d3, d4, d5] => { results := [.lit (.bool true)], args := [d1, d2, d3, d4, d5] }
  | _ => none }
def sweepZonesRow : OpenClaim := { program := "yteodgilndjjgdaa", sum := "9fbff2c0997a15a37b9f6578dacf0210162e29c990d7359eb50f42717935888a", func := "tramline/tramlinelaw02.SweepZones", spec := "sweepZones", inPlace := ["math.sqrt"], unfollowed := true, recurses := true, plainKeys := false, apart := false }
def SweepZonesSaid : Prop := sweepZonesRow.holds Try.pinned (OpenSpec.ofChange sweepZonesSpec)

/-- ITS FALSE NEIGHBOUR: 'it returns false'. Refute it at one input. -/
def sweepZonesWrong : ChangeSpec := { name := "sweepZones", fn := fun _ => fun
  | [d1, d2, d3, d4, d5] => { results := [.lit (.bool false)], args := [d1, d2, d3, d4, d5] }
  | _ => none }
def SweepZonesWrongFalsely : Prop := sweepZonesRow.holds Try.pinned (OpenSpec.ofChange sweepZonesWrong)

/-- 'tramlinelaw02.SweepOutside': WHATEVER THE INPUT: true; the input reads as it did. -/
def sweepOutsideSpec : ChangeSpec := { name := "sweepOutside", fn := fun _ => fun
  | [d1, d2, d3, d4, d5] => { results := [.lit (.bool true)], args := [d1, d2, d3, d4, d5] }
  | _ => none }
def sweepOutsideRow : OpenClaim := { program := "yteodgilndjjgdaa", sum := "9fbff2c0997a15a37b9f6578dacf0210162e29c990d7359eb50f42717935888a", func := "tramline/tramlinelaw02.SweepOutside", spec := "sweepOutside", inPlace := ["math.sqrt"], unfollowed := true, recurses := true, plainKeys := false, apart := false }
def SweepOutsideSaid : Prop := sweepOutsideRow.holds Try.pinned (OpenSpec.ofChange sweepOutsideSpec)

/-- ITS FALSE NEIGHBOUR: 'it returns false'. Refute it at one input. -/
def sweepOutsideWrong : ChangeSpec := { name := "sweepOutside", fn := fun _ => fun
  | [d1, d2, d3, d4, d5] => { results := [.lit (.bool false)], args := [d1, d2, d3, d4, d5] }
  | _ => none }
def SweepOutsideWrongFalsely : Prop := sweepOutsideRow.holds Try.pinned (OpenSpec.ofChange sweepOutsideWrong)

/-- 'tramlinelaw02.SweepWitness': WHATEVER THE INPUT: true; the input reads as it did. -/
def sweepWitnessSpec : ChangeSpec := { name := "sweepWitness", fn := fun _ => fun
  | [d1, d2, d3] => { results := [.lit (.bool true)], args := [d1, d2, d3] }
  | _ => none }
def sweepWitnessRow : OpenClaim := { program := "yteodgilndjjgdaa", sum := "9fbff2c0997a15a37b9f6578dacf0210162e29c990d7359eb50f42717935888a", func := "tramline/tramlinelaw02.SweepWitness", spec := "sweepWitness", inPlace := ["math.sqrt"], unfollowed := true, recurses := true, plainKeys := false, apart := false }
def SweepWitnessSaid : Prop := sweepWitnessRow.holds Try.pinned (OpenSpec.ofChange sweepWitnessSpec)

/-- ITS FALSE NEIGHBOUR: 'it returns false'. Refute it at one input. -/
def sweepWitnessWrong : ChangeSpec := { name := "sweepWitness", fn := fun _ => fun
  | [d1, d2, d3] => { results := [.lit (.bool false)], args := [d1, d2, d3] }
  | _ => none }
def SweepWitnessWrongFalsely : Prop := sweepWitnessRow.holds Try.pinned (OpenSpec.ofChange sweepWitnessWrong)

/-- 'tramlinelaw02.SweepFouls': WHATEVER THE INPUT: true; the input reads as it did. -/
def sweepFoulsSpec : ChangeSpec := { name := "sweepFouls", fn := fun _ => fun
  | [d1, d2] => { results := [.lit (.bool true)], args := [d1, d2] }
  | _ => none }
def sweepFoulsRow : OpenClaim := { program := "yteodgilndjjgdaa", sum := "9fbff2c0997a15a37b9f6578dacf0210162e29c990d7359eb50f42717935888a", func := "tramline/tramlinelaw02.SweepFouls", spec := "sweepFouls", inPlace := ["math.sqrt"], unfollowed := true, recurses := true, plainKeys := false, apart := false }
def SweepFoulsSaid : Prop := sweepFoulsRow.holds Try.pinned (OpenSpec.ofChange sweepFoulsSpec)

/-- ITS FALSE NEIGHBOUR: 'it returns false'. Refute it at one input. -/
def sweepFoulsWrong : ChangeSpec := { name := "sweepFouls", fn := fun _ => fun
  | [d1, d2] => { results := [.lit (.bool false)], args := [d1, d2] }
  | _ => none }
def SweepFoulsWrongFalsely : Prop := sweepFoulsRow.holds Try.pinned (OpenSpec.ofChange sweepFoulsWrong)

/-- 'tramlinelaw02.SweepWider': WHATEVER THE INPUT: true; the input reads as it did. -/
def sweepWiderSpec : ChangeSpec := { name := "sweepWider", fn := fun _ => fun
  | [d1, d2, d3] => { results := [.lit (.bool true)], args := [d1, d2, d3] }
  | _ => none }
def sweepWiderRow : OpenClaim := { program := "yteodgilndjjgdaa", sum := "9fbff2c0997a15a37b9f6578dacf0210162e29c990d7359eb50f42717935888a", func := "tramline/tramlinelaw02.SweepWider", spec := "sweepWider", inPlace := ["math.sqrt"], unfollowed := true, recurses := true, plainKeys := false, apart := false }
def SweepWiderSaid : Prop := sweepWiderRow.holds Try.pinned (OpenSpec.ofChange sweepWiderSpec)

/-- ITS FALSE NEIGHBOUR: 'it returns false'. Refute it at one input. -/
def sweepWiderWrong : ChangeSpec := { name := "sweepWider", fn := fun _ => fun
  | [d1, d2, d3] => { results := [.lit (.bool false)], args := [d1, d2, d3] }
  | _ => none }
def SweepWiderWrongFalsely : Prop := sweepWiderRow.holds Try.pinned (OpenSpec.ofChange sweepWiderWrong)

/-- 'tramlinelaw02.SweepMoved': WHATEVER THE INPUT: true; the input reads as it did. -/
def sweepMovedSpec : ChangeSpec := { name := "sweepMoved", fn := fun _ => fun
  | [d1, d2, d3, d4, d5, d6] => { results := [.lit (.bool true)], args := [d1, d2, d3, d4, d5, d6] }
  | _ => none }
def sweepMovedRow : OpenClaim := { program := "yteodgilndjjgdaa", sum := "9fbff2c0997a15a37b9f6578dacf0210162e29c990d7359eb50f42717935888a", func := "tramline/tramlinelaw02.SweepMoved", spec := "sweepMoved", inPlace := ["math.sqrt"], unfollowed := true, recurses := true, plainKeys := false, apart := false }
def SweepMovedSaid : Prop := sweepMovedRow.holds Try.pinned (OpenSpec.ofChange sweepMovedSpec)

/-- ITS FALSE NEIGHBOUR: 'it returns false'. Refute it at one input. -/
def sweepMovedWrong : ChangeSpec := { name := "sweepMoved", fn := fun _ => fun
  | [d1, d2, d3, d4, d5, d6] => { results := [.lit (.bool false)], args := [d1, d2, d3, d4, d5, d6] }
  | _ => none }
def SweepMovedWrongFalsely : Prop := sweepMovedRow.holds Try.pinned (OpenSpec.ofChange sweepMovedWrong)

/- THE SECOND FORM. 'bulk': how many values and letters a reading holds, each counted each time it is reached (what is shared counts as often as it is met; a slice's spare places count too). A statement '..UptoSaid' is the law's where the arguments, and the package variables that the reading takes, are together of bulk at most 1048576: NARROWER than '..Said'. Prove '..Said' where nothing that the law and all that it calls make is longer than what came in: it says more and counts as full. Else prove '..UptoSaid'. A law counts once. -/
mutual
def uptoBulk {H : Type} : DataW H → Nat
  | .lit (.string bytes) => bytes.length + 1
  | .lit _ => 1
  | .nil => 1
  | .ptr d => uptoBulk d + 1
  | .slice elems spare => uptoBulkAll elems + uptoBulkAll spare + 1
  | .agg parts => uptoBulkAll parts + 1
  | .iface _ d => uptoBulk d + 1
  | .map entries => uptoBulkEntries entries + 1
  | .held _ => 1
def uptoBulkAll {H : Type} : List (DataW H) → Nat
  | [] => 0
  | d :: r => uptoBulk d + uptoBulkAll r
def uptoBulkEntries {H : Type} : List (Lit × DataW H) → Nat
  | [] => 0
  | x :: r => uptoBulkEntry x + uptoBulkEntries r
def uptoBulkEntry {H : Type} : Lit × DataW H → Nat
  | (.string bytes, d) => bytes.length + uptoBulk d + 1
  | (_, d) => uptoBulk d + 1
 end
def uptoSmall : (H : Type) → List (DataW H) → Bool := fun _ ds => decide (uptoBulkAll ds ≤ 1048576)
def OpenSpec.upto (s : _root_.Go.ChangeSpec) : _root_.Go.OpenSpec := { _root_.Go.OpenSpec.ofChange s with cond := some uptoSmall }

/-- 'tramlinelaw02.SweepFoul', WHERE WHAT IT READS IS OF BULK AT MOST 1048576: true; the input reads as it did. -/
def sweepFoulUptoRow : OpenClaim := { program := "yteodgilndjjgdaa", sum := "9fbff2c0997a15a37b9f6578dacf0210162e29c990d7359eb50f42717935888a", func := "tramline/tramlinelaw02.SweepFoul", spec := "sweepFoul", inPlace := ["math.sqrt"], unfollowed := true, recurses := true, plainKeys := false, apart := false, narrowed := true }
def SweepFoulUptoSaid : Prop := sweepFoulUptoRow.holds Try.pinned (OpenSpec.upto sweepFoulSpec)

/-- 'tramlinelaw02.SweepClears', WHERE WHAT IT READS IS OF BULK AT MOST 1048576: true; the input reads as it did. -/
def sweepClearsUptoRow : OpenClaim := { program := "yteodgilndjjgdaa", sum := "9fbff2c0997a15a37b9f6578dacf0210162e29c990d7359eb50f42717935888a", func := "tramline/tramlinelaw02.SweepClears", spec := "sweepClears", inPlace := ["math.sqrt"], unfollowed := true, recurses := true, plainKeys := false, apart := false, narrowed := true }
def SweepClearsUptoSaid : Prop := sweepClearsUptoRow.holds Try.pinned (OpenSpec.upto sweepClearsSpec)

/-- 'tramlinelaw02.SweepNear', WHERE WHAT IT READS IS OF BULK AT MOST 1048576: true; the input reads as it did. -/
def sweepNearUptoRow : OpenClaim := { program := "yteodgilndjjgdaa", sum := "9fbff2c0997a15a37b9f6578dacf0210162e29c990d7359eb50f42717935888a", func := "tramline/tramlinelaw02.SweepNear", spec := "sweepNear", inPlace := ["math.sqrt"], unfollowed := true, recurses := true, plainKeys := false, apart := false, narrowed := true }
def SweepNearUptoSaid : Prop := sweepNearUptoRow.holds Try.pinned (OpenSpec.upto sweepNearSpec)

/-- 'tramlinelaw02.SweepGaps', WHERE WHAT IT READS IS OF BULK AT MOST 1048576: true; the input reads as it did. -/
def sweepGapsUptoRow : OpenClaim := { program := "yteodgilndjjgdaa", sum := "9fbff2c0997a15a37b9f6578dacf0210162e29c990d7359eb50f42717935888a", func := "tramline/tramlinelaw02.SweepGaps", spec := "sweepGaps", inPlace := ["math.sqrt"], unfollowed := true, recurses := true, plainKeys := false, apart := false, narrowed := true }
def SweepGapsUptoSaid : Prop := sweepGapsUptoRow.holds Try.pinned (OpenSpec.upto sweepGapsSpec)

/-- 'tramlinelaw02.SweepPlaces', WHERE WHAT IT READS IS OF BULK AT MOST 1048576: true; the input reads as it did. -/
def sweepPlacesUptoRow : OpenClaim := { program := "yteodgilndjjgdaa", sum := "9fbff2c0997a15a37b9f6578dacf0210162e29c990d7359eb50f42717935888a", func := "tramline/tramlinelaw02.SweepPlaces", spec := "sweepPlaces", inPlace := ["math.sqrt"], unfollowed := true, recurses := true, plainKeys := false, apart := false, narrowed := true }
def SweepPlacesUptoSaid : Prop := sweepPlacesUptoRow.holds Try.pinned (OpenSpec.upto sweepPlacesSpec)

/-- 'tramlinelaw02.SweepZones', WHERE WHAT IT READS IS OF BULK AT MOST 1048576: true; the input reads as it did. -/
def sweepZonesUptoRow : OpenClaim := { program := "yteodgilndjjgdaa", sum := "9fbff2c0997a15a37b9f6578dacf0210162e29c990d7359eb50f42717935888a", func := "tramline/tramlinelaw02.SweepZones", spec := "sweepZones", inPlace := ["math.sqrt"], unfollowed := true, recurses := true, plainKeys := false, apart := false, narrowed := true }
def SweepZonesUptoSaid : Prop := sweepZonesUptoRow.holds Try.pinned (OpenSpec.upto sweepZonesSpec)

/-- 'tramlinelaw02.SweepOutside', WHERE WHAT IT READS IS OF BULK AT MOST 1048576: true; the input reads as it did. -/
def sweepOutsideUptoRow : OpenClaim := { program := "yteodgilndjjgdaa", sum := "9fbff2c0997a15a37b9f6578dacf0210162e29c990d7359eb50f42717935888a", func := "tramline/tramlinelaw02.SweepOutside", spec := "sweepOutside", inPlace := ["math.sqrt"], unfollowed := true, recurses := true, plainKeys := false, apart := false, narrowed := true }
def SweepOutsideUptoSaid : Prop := sweepOutsideUptoRow.holds Try.pinned (OpenSpec.upto sweepOutsideSpec)

/-- 'tramlinelaw02.SweepWitness', WHERE WHAT IT READS IS OF BULK AT MOST 1048576: true; the input reads as it did. -/
def sweepWitnessUptoRow : OpenClaim := { program := "yteodgilndjjgdaa", sum := "9fbff2c0997a15a37b9f6578dacf0210162e29c990d7359eb50f42717935888a", func := "tramline/tramlinelaw02.SweepWitness", spec := "sweepWitness", inPlace := ["math.sqrt"], unfollowed := true, recurses := true, plainKeys := false, apart := false, narrowed := true }
def SweepWitnessUptoSaid : Prop := sweepWitnessUptoRow.holds Try.pinned (OpenSpec.upto sweepWitnessSpec)

/-- 'tramlinelaw02.SweepFouls', WHERE WHAT IT READS IS OF BULK AT MOST 1048576: true; the input reads as it did. -/
def sweepFoulsUptoRow : OpenClaim := { program := "yteodgilndjjgdaa", sum := "9fbff2c0997a15a37b9f6578dacf0210162e29c990d7359eb50f42717935888a", func := "tramline/tramlinelaw02.SweepFouls", spec := "sweepFouls", inPlace := ["math.sqrt"], unfollowed := true, recurses := true, plainKeys := false, apart := false, narrowed := true }
def SweepFoulsUptoSaid : Prop := sweepFoulsUptoRow.holds Try.pinned (OpenSpec.upto sweepFoulsSpec)

/-- 'tramlinelaw02.SweepWider', WHERE WHAT IT READS IS OF BULK AT MOST 1048576: true; the input reads as it did. -/
def sweepWiderUptoRow : OpenClaim := { program := "yteodgilndjjgdaa", sum := "9fbff2c0997a15a37b9f6578dacf0210162e29c990d7359eb50f42717935888a", func := "tramline/tramlinelaw02.SweepWider", spec := "sweepWider", inPlace := ["math.sqrt"], unfollowed := true, recurses := true, plainKeys := false, apart := false, narrowed := true }
def SweepWiderUptoSaid : Prop := sweepWiderUptoRow.holds Try.pinned (OpenSpec.upto sweepWiderSpec)

/-- 'tramlinelaw02.SweepMoved', WHERE WHAT IT READS IS OF BULK AT MOST 1048576: true; the input reads as it did. -/
def sweepMovedUptoRow : OpenClaim := { program := "yteodgilndjjgdaa", sum := "9fbff2c0997a15a37b9f6578dacf0210162e29c990d7359eb50f42717935888a", func := "tramline/tramlinelaw02.SweepMoved", spec := "sweepMoved", inPlace := ["math.sqrt"], unfollowed := true, recurses := true, plainKeys := false, apart := false, narrowed := true }
def SweepMovedUptoSaid : Prop := sweepMovedUptoRow.holds Try.pinned (OpenSpec.upto sweepMovedSpec)

end Rows
end Go.Proofs.Yteodgilndjjgdaa
