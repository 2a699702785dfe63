/-
  No cell of these rows narrows 'for every input' (looked for: loops, veiled, ifaces, maps, wideKeys, modest, calm, conditions, laid).
  DERIVED. THE GIVEN ROWS OF THIS SEAT. 11 by the template 'for every input the law returns true; each argument reads behind the call as it read before'; 0 by the template 'total and deterministic' (their statements: YtibddmpaklcleaaTotals.lean).
  GIVEN WITH THE SEED: the statements are not yours to turn. If you find one false, say at which input.
  Laid BY PROGRAM, IN A SANDBOX (cutbox-rows.mjs): the forced cells as the released guide's own fill.sh prints them over the translation 82afe3aec37c69c4… (all of the seat's roots in one cut). By AI agents, Wed Nov 11 2026. No macro, syntax, notation, axiom, sorry.
-/
import Derived.Test.YtibddmpaklcleaaChecked
import GoSem.Claim
import GoSem.ClaimJoined
import GoSem.ClaimMapViews
import Derived.JoinedTies
import Derived.KernelRfl
namespace Go.Proofs.Ytibddmpaklcleaa
/- THE CELL 'sum', in the pinned program and in every row, IS THE sha256 OF THE DUMP (.gsa) THAT YtibddmpaklcleaaProg.lean LOADS. Nothing in Lean hashes anything: it is a label: what it is worth is what the hold of that sum in a sandbox is worth. -/
noncomputable def Try.pinned : Pinned := { name := "ytibddmpaklcleaa", sum := "82afe3aec37c69c41031b972098fc6e98b7b3a699a934cd9847730754467ee29", checked := Try.checked }
namespace Rows
def none {H : Type} : Left H := { results := [], args := [] }

/-- 'tramlinelaw04.CurrentSolves': WHATEVER THE INPUT: true; the input reads as it did. -/
def currentSolvesSpec : ChangeSpec := { name := "currentSolves", fn := fun _ => fun
  | [d1, d2, d3] => { results := [.lit (.bool true)], args := [d1, d2, d3] }
  | _ => none }
def currentSolvesRow : OpenClaim := { program := "ytibddmpaklcleaa", sum := "82afe3aec37c69c41031b972098fc6e98b7b3a699a934cd9847730754467ee29", func := "tramline/tramlinelaw04.CurrentSolves", spec := "currentSolves", unfollowed := true, recurses := true, apart := false }
def CurrentSolvesSaid : Prop := currentSolvesRow.holds Try.pinned (OpenSpec.ofChange currentSolvesSpec)

/-- ITS FALSE NEIGHBOUR: 'it returns false'. Refute it at one input. -/
def currentSolvesWrong : ChangeSpec := { name := "currentSolves", fn := fun _ => fun
  | [d1, d2, d3] => { results := [.lit (.bool false)], args := [d1, d2, d3] }
  | _ => none }
def CurrentSolvesWrongFalsely : Prop := currentSolvesRow.holds Try.pinned (OpenSpec.ofChange currentSolvesWrong)

/-- 'tramlinelaw04.CurrentBalances': WHATEVER THE INPUT: true; the input reads as it did. -/
def currentBalancesSpec : ChangeSpec := { name := "currentBalances", fn := fun _ => fun
  | [d1, d2, d3] => { results := [.lit (.bool true)], args := [d1, d2, d3] }
  | _ => none }
def currentBalancesRow : OpenClaim := { program := "ytibddmpaklcleaa", sum := "82afe3aec37c69c41031b972098fc6e98b7b3a699a934cd9847730754467ee29", func := "tramline/tramlinelaw04.CurrentBalances", spec := "currentBalances", unfollowed := true, recurses := true, apart := false }
def CurrentBalancesSaid : Prop := currentBalancesRow.holds Try.pinned (OpenSpec.ofChange currentBalancesSpec)

/-- ITS FALSE NEIGHBOUR: 'it returns false'. Refute it at one input. -/
def currentBalancesWrong : ChangeSpec := { name := "currentBalances", fn := fun _ => fun
  | [d1, d2, d3] => { results := [.lit (.bool false)], args := [d1, d2, d3] }
  | _ => none }
def CurrentBalancesWrongFalsely : Prop := currentBalancesRow.holds Try.pinned (OpenSpec.ofChange currentBalancesWrong)

/-- 'tramlinelaw04.CurrentSettles': WHATEVER THE INPUT: true; the input reads as it did. -/
def currentSettlesSpec : ChangeSpec := { name := "currentSettles", fn := fun _ => fun
  | [d1, d2, d3] => { results := [.lit (.bool true)], args := [d1, d2, d3] }
  | _ => none }
def currentSettlesRow : OpenClaim := { program := "ytibddmpaklcleaa", sum := "82afe3aec37c69c41031b972098fc6e98b7b3a699a934cd9847730754467ee29", func := "tramline/tramlinelaw04.CurrentSettles", spec := "currentSettles", unfollowed := true, recurses := true, apart := false }
def CurrentSettlesSaid : Prop := currentSettlesRow.holds Try.pinned (OpenSpec.ofChange currentSettlesSpec)

/-- ITS FALSE NEIGHBOUR: 'it returns false'. Refute it at one input. -/
def currentSettlesWrong : ChangeSpec := { name := "currentSettles", fn := fun _ => fun
  | [d1, d2, d3] => { results := [.lit (.bool false)], args := [d1, d2, d3] }
  | _ => none }
def CurrentSettlesWrongFalsely : Prop := currentSettlesRow.holds Try.pinned (OpenSpec.ofChange currentSettlesWrong)

/-- 'tramlinelaw04.CurrentSafe': WHATEVER THE INPUT: true; the input reads as it did. -/
def currentSafeSpec : ChangeSpec := { name := "currentSafe", fn := fun _ => fun
  | [d1, d2, d3] => { results := [.lit (.bool true)], args := [d1, d2, d3] }
  | _ => none }
def currentSafeRow : OpenClaim := { program := "ytibddmpaklcleaa", sum := "82afe3aec37c69c41031b972098fc6e98b7b3a699a934cd9847730754467ee29", func := "tramline/tramlinelaw04.CurrentSafe", spec := "currentSafe", unfollowed := true, recurses := true, apart := false }
def CurrentSafeSaid : Prop := currentSafeRow.holds Try.pinned (OpenSpec.ofChange currentSafeSpec)

/-- ITS FALSE NEIGHBOUR: 'it returns false'. Refute it at one input. -/
def currentSafeWrong : ChangeSpec := { name := "currentSafe", fn := fun _ => fun
  | [d1, d2, d3] => { results := [.lit (.bool false)], args := [d1, d2, d3] }
  | _ => none }
def CurrentSafeWrongFalsely : Prop := currentSafeRow.holds Try.pinned (OpenSpec.ofChange currentSafeWrong)

/-- 'tramlinelaw04.CurrentRelief': WHATEVER THE INPUT: true; the input reads as it did. -/
def currentReliefSpec : ChangeSpec := { name := "currentRelief", fn := fun _ => fun
  | [d1, d2, d3] => { results := [.lit (.bool true)], args := [d1, d2, d3] }
  | _ => none }
def currentReliefRow : OpenClaim := { program := "ytibddmpaklcleaa", sum := "82afe3aec37c69c41031b972098fc6e98b7b3a699a934cd9847730754467ee29", func := "tramline/tramlinelaw04.CurrentRelief", spec := "currentRelief", unfollowed := true, recurses := true, apart := false }
def CurrentReliefSaid : Prop := currentReliefRow.holds Try.pinned (OpenSpec.ofChange currentReliefSpec)

/-- ITS FALSE NEIGHBOUR: 'it returns false'. Refute it at one input. -/
def currentReliefWrong : ChangeSpec := { name := "currentRelief", fn := fun _ => fun
  | [d1, d2, d3] => { results := [.lit (.bool false)], args := [d1, d2, d3] }
  | _ => none }
def CurrentReliefWrongFalsely : Prop := currentReliefRow.holds Try.pinned (OpenSpec.ofChange currentReliefWrong)

/-- 'tramlinelaw04.CurrentMore': WHATEVER THE INPUT: true; the input reads as it did. -/
def currentMoreSpec : ChangeSpec := { name := "currentMore", fn := fun _ => fun
  | [d1, d2, d3, d4, d5] => { results := [.lit (.bool true)], args := [d1, d2, d3, d4, d5] }
  | _ => none }
def currentMoreRow : OpenClaim := { program := "ytibddmpaklcleaa", sum := "82afe3aec37c69c41031b972098fc6e98b7b3a699a934cd9847730754467ee29", func := "tramline/tramlinelaw04.CurrentMore", spec := "currentMore", unfollowed := true, recurses := true, apart := false }
def CurrentMoreSaid : Prop := currentMoreRow.holds Try.pinned (OpenSpec.ofChange currentMoreSpec)

/-- ITS FALSE NEIGHBOUR: 'it returns false'. Refute it at one input. -/
def currentMoreWrong : ChangeSpec := { name := "currentMore", fn := fun _ => fun
  | [d1, d2, d3, d4, d5] => { results := [.lit (.bool false)], args := [d1, d2, d3, d4, d5] }
  | _ => none }
def CurrentMoreWrongFalsely : Prop := currentMoreRow.holds Try.pinned (OpenSpec.ofChange currentMoreWrong)

/-- 'tramlinelaw04.CurrentQuiet': WHATEVER THE INPUT: true; the input reads as it did. -/
def currentQuietSpec : ChangeSpec := { name := "currentQuiet", fn := fun _ => fun
  | [d1, d2] => { results := [.lit (.bool true)], args := [d1, d2] }
  | _ => none }
def currentQuietRow : OpenClaim := { program := "ytibddmpaklcleaa", sum := "82afe3aec37c69c41031b972098fc6e98b7b3a699a934cd9847730754467ee29", func := "tramline/tramlinelaw04.CurrentQuiet", spec := "currentQuiet", unfollowed := true, recurses := true, apart := false }
def CurrentQuietSaid : Prop := currentQuietRow.holds Try.pinned (OpenSpec.ofChange currentQuietSpec)

/-- ITS FALSE NEIGHBOUR: 'it returns false'. Refute it at one input. -/
def currentQuietWrong : ChangeSpec := { name := "currentQuiet", fn := fun _ => fun
  | [d1, d2] => { results := [.lit (.bool false)], args := [d1, d2] }
  | _ => none }
def CurrentQuietWrongFalsely : Prop := currentQuietRow.holds Try.pinned (OpenSpec.ofChange currentQuietWrong)

/-- 'tramlinelaw04.CurrentHolds': WHATEVER THE INPUT: true; the input reads as it did. -/
def currentHoldsSpec : ChangeSpec := { name := "currentHolds", fn := fun _ => fun
  | [d1, d2, d3, d4] => { results := [.lit (.bool true)], args := [d1, d2, d3, d4] }
  | _ => none }
def currentHoldsRow : OpenClaim := { program := "ytibddmpaklcleaa", sum := "82afe3aec37c69c41031b972098fc6e98b7b3a699a934cd9847730754467ee29", func := "tramline/tramlinelaw04.CurrentHolds", spec := "currentHolds", unfollowed := true, recurses := true, apart := false }
def CurrentHoldsSaid : Prop := currentHoldsRow.holds Try.pinned (OpenSpec.ofChange currentHoldsSpec)

/-- ITS FALSE NEIGHBOUR: 'it returns false'. Refute it at one input. -/
def currentHoldsWrong : ChangeSpec := { name := "currentHolds", fn := fun _ => fun
  | [d1, d2, d3, d4] => { results := [.lit (.bool false)], args := [d1, d2, d3, d4] }
  | _ => none }
def CurrentHoldsWrongFalsely : Prop := currentHoldsRow.holds Try.pinned (OpenSpec.ofChange currentHoldsWrong)

/-- 'tramlinelaw04.CurrentParts': WHATEVER THE INPUT: true; the input reads as it did. -/
def currentPartsSpec : ChangeSpec := { name := "currentParts", fn := fun _ => fun
  | [d1, d2] => { results := [.lit (.bool true)], args := [d1, d2] }
  | _ => none }
def currentPartsRow : OpenClaim := { program := "ytibddmpaklcleaa", sum := "82afe3aec37c69c41031b972098fc6e98b7b3a699a934cd9847730754467ee29", func := "tramline/tramlinelaw04.CurrentParts", spec := "currentParts", unfollowed := true, recurses := true, apart := false }
def CurrentPartsSaid : Prop := currentPartsRow.holds Try.pinned (OpenSpec.ofChange currentPartsSpec)

/-- ITS FALSE NEIGHBOUR: 'it returns false'. Refute it at one input. -/
def currentPartsWrong : ChangeSpec := { name := "currentParts", fn := fun _ => fun
  | [d1, d2] => { results := [.lit (.bool false)], args := [d1, d2] }
  | _ => none }
def CurrentPartsWrongFalsely : Prop := currentPartsRow.holds Try.pinned (OpenSpec.ofChange currentPartsWrong)

/-- 'tramlinelaw04.CurrentEnergies': WHATEVER THE INPUT: true; the input reads as it did. -/
def currentEnergiesSpec : ChangeSpec := { name := "currentEnergies", fn := fun _ => fun
  | [d1, d2, d3] => { results := [.lit (.bool true)], args := [d1, d2, d3] }
  | _ => none }
def currentEnergiesRow : OpenClaim := { program := "ytibddmpaklcleaa", sum := "82afe3aec37c69c41031b972098fc6e98b7b3a699a934cd9847730754467ee29", func := "tramline/tramlinelaw04.CurrentEnergies", spec := "currentEnergies", unfollowed := true, recurses := true, apart := false }
def CurrentEnergiesSaid : Prop := currentEnergiesRow.holds Try.pinned (OpenSpec.ofChange currentEnergiesSpec)

/-- ITS FALSE NEIGHBOUR: 'it returns false'. Refute it at one input. -/
def currentEnergiesWrong : ChangeSpec := { name := "currentEnergies", fn := fun _ => fun
  | [d1, d2, d3] => { results := [.lit (.bool false)], args := [d1, d2, d3] }
  | _ => none }
def CurrentEnergiesWrongFalsely : Prop := currentEnergiesRow.holds Try.pinned (OpenSpec.ofChange currentEnergiesWrong)

/-- 'tramlinelaw04.CurrentLoses': WHATEVER THE INPUT: true; the input reads as it did. -/
def currentLosesSpec : ChangeSpec := { name := "currentLoses", fn := fun _ => fun
  | [d1, d2, d3] => { results := [.lit (.bool true)], args := [d1, d2, d3] }
  | _ => none }
def currentLosesRow : OpenClaim := { program := "ytibddmpaklcleaa", sum := "82afe3aec37c69c41031b972098fc6e98b7b3a699a934cd9847730754467ee29", func := "tramline/tramlinelaw04.CurrentLoses", spec := "currentLoses", unfollowed := true, recurses := true, apart := false }
def CurrentLosesSaid : Prop := currentLosesRow.holds Try.pinned (OpenSpec.ofChange currentLosesSpec)

/-- ITS FALSE NEIGHBOUR: 'it returns false'. Refute it at one input. -/
def currentLosesWrong : ChangeSpec := { name := "currentLoses", fn := fun _ => fun
  | [d1, d2, d3] => { results := [.lit (.bool false)], args := [d1, d2, d3] }
  | _ => none }
def CurrentLosesWrongFalsely : Prop := currentLosesRow.holds Try.pinned (OpenSpec.ofChange currentLosesWrong)

/- THE SECOND FORM. 'bulk': how many values and letters a reading holds, each counted each time it is reached (what is shared counts as often as it is met; a slice's spare places count too). A statement '..UptoSaid' is the law's where the arguments, and the package variables that the reading takes, are together of bulk at most 1048576: NARROWER than '..Said'. Prove '..Said' where nothing that the law and all that it calls make is longer than what came in: it says more and counts as full. Else prove '..UptoSaid'. A law counts once. -/
mutual
def uptoBulk {H : Type} : DataW H → Nat
  | .lit (.string bytes) => bytes.length + 1
  | .lit _ => 1
  | .nil => 1
  | .ptr d => uptoBulk d + 1
  | .slice elems spare => uptoBulkAll elems + uptoBulkAll spare + 1
  | .agg parts => uptoBulkAll parts + 1
  | .iface _ d => uptoBulk d + 1
  | .map entries => uptoBulkEntries entries + 1
  | .held _ => 1
def uptoBulkAll {H : Type} : List (DataW H) → Nat
  | [] => 0
  | d :: r => uptoBulk d + uptoBulkAll r
def uptoBulkEntries {H : Type} : List (Lit × DataW H) → Nat
  | [] => 0
  | x :: r => uptoBulkEntry x + uptoBulkEntries r
def uptoBulkEntry {H : Type} : Lit × DataW H → Nat
  | (.string bytes, d) => bytes.length + uptoBulk d + 1
  | (_, d) => uptoBulk d + 1
 end
def uptoSmall : (H : Type) → List (DataW H) → Bool := fun _ ds => decide (uptoBulkAll ds ≤ 1048576)
def OpenSpec.upto (s : _root_.Go.ChangeSpec) : _root_.Go.OpenSpec := { _root_.Go.OpenSpec.ofChange s with cond := some uptoSmall }

/-- 'tramlinelaw04.CurrentSolves', WHERE WHAT IT READS IS OF BULK AT MOST 1048576: true; the input reads as it did. -/
def currentSolvesUptoRow : OpenClaim := { program := "ytibddmpaklcleaa", sum := "82afe3aec37c69c41031b972098fc6e98b7b3a699a934cd9847730754467ee29", func := "tramline/tramlinelaw04.CurrentSolves", spec := "currentSolves", unfollowed := true, recurses := true, apart := false, narrowed := true }
def CurrentSolvesUptoSaid : Prop := currentSolvesUptoRow.holds Try.pinned (OpenSpec.upto currentSolvesSpec)

/-- 'tramlinelaw04.CurrentBalances', WHERE WHAT IT READS IS OF BULK AT MOST 1048576: true; the input reads as it did. -/
def currentBalancesUptoRow : OpenClaim := { program := "ytibddmpaklcleaa", sum := "82afe3aec37c69c41031b972098fc6e98b7b3a699a934cd9847730754467ee29", func := "tramline/tramlinelaw04.CurrentBalances", spec := "currentBalances", unfollowed := true, recurses := true, apart := false, narrowed := true }
def CurrentBalancesUptoSaid : Prop := currentBalancesUptoRow.holds Try.pinned (OpenSpec.upto currentBalancesSpec)

/-- 'tramlinelaw04.CurrentSettles', WHERE WHAT IT READS IS OF BULK AT MOST 1048576: true; the input reads as it did. -/
def currentSettlesUptoRow : OpenClaim := { program := "ytibddmpaklcleaa", sum := "82afe3aec37c69c41031b972098fc6e98b7b3a699a934cd9847730754467ee29", func := "tramline/tramlinelaw04.CurrentSettles", spec := "currentSettles", unfollowed := true, recurses := true, apart := false, narrowed := true }
def CurrentSettlesUptoSaid : Prop := currentSettlesUptoRow.holds Try.pinned (OpenSpec.upto currentSettlesSpec)

/-- 'tramlinelaw04.CurrentSafe', WHERE WHAT IT READS IS OF BULK AT MOST 1048576: true; the input reads as it did. -/
def currentSafeUptoRow : OpenClaim := { program := "ytibddmpaklcleaa", sum := "82afe3aec37c69c41031b972098fc6e98b7b3a699a934cd9847730754467ee29", func := "tramline/tramlinelaw04.CurrentSafe", spec := "currentSafe", unfollowed := true, recurses := true, apart := false, narrowed := true }
def CurrentSafeUptoSaid : Prop := currentSafeUptoRow.holds Try.pinned (OpenSpec.upto currentSafeSpec)

/-- 'tramlinelaw04.CurrentRelief', WHERE WHAT IT READS IS OF BULK AT MOST 1048576: true; the input reads as it did. -/
def currentReliefUptoRow : OpenClaim := { program := "ytibddmpaklcleaa", sum := "82afe3aec37c69c41031b972098fc6e98b7b3a699a934cd9847730754467ee29", func := "tramline/tramlinelaw04.CurrentRelief", spec := "currentRelief", unfollowed := true, recurses := true, apart := false, narrowed := true }
def CurrentReliefUptoSaid : Prop := currentReliefUptoRow.holds Try.pinned (OpenSpec.upto currentReliefSpec)

/-- 'tramlinelaw04.CurrentMore', WHERE WHAT IT READS IS OF BULK AT MOST 1048576: true; the input reads as it did. -/
def currentMoreUptoRow : OpenClaim := { program := "ytibddmpaklcleaa", sum := "82afe3aec37c69c41031b972098fc6e98b7b3a699a934cd9847730754467ee29", func := "tramline/tramlinelaw04.CurrentMore", spec := "currentMore", unfollowed := true, recurses := true, apart := false, narrowed := true }
def CurrentMoreUptoSaid : Prop := currentMoreUptoRow.holds Try.pinned (OpenSpec.upto currentMoreSpec)

/-- 'tramlinelaw04.CurrentQuiet', WHERE WHAT IT READS IS OF BULK AT MOST 1048576: true; the input reads as it did. -/
def currentQuietUptoRow : OpenClaim := { program := "ytibddmpaklcleaa", sum := "82afe3aec37c69c41031b972098fc6e98b7b3a699a934cd9847730754467ee29", func := "tramline/tramlinelaw04.CurrentQuiet", spec := "currentQuiet", unfollowed := true, recurses := true, apart := false, narrowed := true }
def CurrentQuietUptoSaid : Prop := currentQuietUptoRow.holds Try.pinned (OpenSpec.upto currentQuietSpec)

/-- 'tramlinelaw04.CurrentHolds', WHERE WHAT IT READS IS OF BULK AT MOST 1048576: true; the input reads as it did. -/
def currentHoldsUptoRow : OpenClaim := { program := "ytibddmpaklcleaa", sum := "82afe3aec37c69c41031b972098fc6e98b7b3a699a934cd9847730754467ee29", func := "tramline/tramlinelaw04.CurrentHolds", spec := "currentHolds", unfollowed := true, recurses := true, apart := false, narrowed := true }
def CurrentHoldsUptoSaid : Prop := currentHoldsUptoRow.holds Try.pinned (OpenSpec.upto currentHoldsSpec)

/-- 'tramlinelaw04.CurrentParts', WHERE WHAT IT READS IS OF BULK AT MOST 1048576: true; the input reads as it did. -/
def currentPartsUptoRow : OpenClaim := { program := "ytibddmpaklcleaa", sum := "82afe3aec37c69c41031b972098fc6e98b7b3a699a934cd9847730754467ee29", func := "tramline/tramlinelaw04.CurrentParts", spec := "currentParts", unfollowed := true, recurses := true, apart := false, narrowed := true }
def CurrentPartsUptoSaid : Prop := currentPartsUptoRow.holds Try.pinned (OpenSpec.upto currentPartsSpec)

/-- 'tramlinelaw04.CurrentEnergies', WHERE WHAT IT READS IS OF BULK AT MOST 1048576: true; the input reads as it did. -/
def currentEnergiesUptoRow : OpenClaim := { program := "ytibddmpaklcleaa", sum := "82afe3aec37c69c41031b972098fc6e98b7b3a699a934cd9847730754467ee29", func := "tramline/tramlinelaw04.CurrentEnergies", spec := "currentEnergies", unfollowed := true, recurses := true, apart := false, narrowed := true }
def CurrentEnergiesUptoSaid : Prop := currentEnergiesUptoRow.holds Try.pinned (OpenSpec.upto currentEnergiesSpec)

/-- 'tramlinelaw04.CurrentLoses', WHERE WHAT IT READS IS OF BULK AT MOST 1048576: true; the input reads as it did. -/
def currentLosesUptoRow : OpenClaim := { program := "ytibddmpaklcleaa", sum := "82afe3aec37c69c41031b972098fc6e98b7b3a699a934cd9847730754467ee29", func := "tramline/tramlinelaw04.CurrentLoses", spec := "currentLoses", unfollowed := true, recurses := true, apart := false, narrowed := true }
def CurrentLosesUptoSaid : Prop := currentLosesUptoRow.holds Try.pinned (OpenSpec.upto currentLosesSpec)

end Rows
end Go.Proofs.Ytibddmpaklcleaa
