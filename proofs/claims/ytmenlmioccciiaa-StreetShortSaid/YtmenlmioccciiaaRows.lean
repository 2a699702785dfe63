/-
  No cell of these rows narrows 'for every input' (looked for: loops, veiled, ifaces, maps, wideKeys, modest, calm, conditions, laid).
  DERIVED. THE GIVEN ROWS OF THIS SEAT. 9 by the template 'for every input the law returns true; each argument reads behind the call as it read before'; 0 by the template 'total and deterministic' (their statements: YtmenlmioccciiaaTotals.lean).
  GIVEN WITH THE SEED: the statements are not yours to turn. If you find one false, say at which input.
  Laid BY PROGRAM, IN A SANDBOX (cutbox-rows.mjs): the forced cells as the released guide's own fill.sh prints them over the translation 2af067535b830a40… (all of the seat's roots in one cut). By AI agents, Wed Nov 11 2026. No macro, syntax, notation, axiom, sorry.
-/
import Derived.Test.YtmenlmioccciiaaChecked
import GoSem.Claim
import GoSem.ClaimJoined
import GoSem.ClaimMapViews
import Derived.JoinedTies
import Derived.KernelRfl
namespace Go.Proofs.Ytmenlmioccciiaa
/- THE CELL 'sum', in the pinned program and in every row, IS THE sha256 OF THE DUMP (.gsa) THAT YtmenlmioccciiaaProg.lean LOADS. Nothing in Lean hashes anything: it is a label: what it is worth is what the hold of that sum in a sandbox is worth. -/
noncomputable def Try.pinned : Pinned := { name := "ytmenlmioccciiaa", sum := "2af067535b830a407f114a7d8bc1efc9342da82519672b671e57712078924632", checked := Try.checked }
namespace Rows
def none {H : Type} : Left H := { results := [], args := [] }

/-- 'tramlinelaw06.StreetTours': WHATEVER THE INPUT: true; the input reads as it did. -/
def streetToursSpec : ChangeSpec := { name := "streetTours", fn := fun _ => fun
  | [d1, d2, d3] => { results := [.lit (.bool true)], args := [d1, d2, d3] }
  | _ => none }
def streetToursRow : OpenClaim := { program := "ytmenlmioccciiaa", sum := "2af067535b830a407f114a7d8bc1efc9342da82519672b671e57712078924632", func := "tramline/tramlinelaw06.StreetTours", spec := "streetTours", unfollowed := true, recurses := true, plainKeys := false, apart := false }
def StreetToursSaid : Prop := streetToursRow.holds Try.pinned (OpenSpec.ofChange streetToursSpec)

/-- ITS FALSE NEIGHBOUR: 'it returns false'. Refute it at one input. -/
def streetToursWrong : ChangeSpec := { name := "streetTours", fn := fun _ => fun
  | [d1, d2, d3] => { results := [.lit (.bool false)], args := [d1, d2, d3] }
  | _ => none }
def StreetToursWrongFalsely : Prop := streetToursRow.holds Try.pinned (OpenSpec.ofChange streetToursWrong)

/-- 'tramlinelaw06.StreetSignals': WHATEVER THE INPUT: true; the input reads as it did. -/
def streetSignalsSpec : ChangeSpec := { name := "streetSignals", fn := fun _ => fun
  | [d1, d2] => { results := [.lit (.bool true)], args := [d1, d2] }
  | _ => none }
def streetSignalsRow : OpenClaim := { program := "ytmenlmioccciiaa", sum := "2af067535b830a407f114a7d8bc1efc9342da82519672b671e57712078924632", func := "tramline/tramlinelaw06.StreetSignals", spec := "streetSignals", unfollowed := true, recurses := true, plainKeys := false, apart := false }
def StreetSignalsSaid : Prop := streetSignalsRow.holds Try.pinned (OpenSpec.ofChange streetSignalsSpec)

/-- ITS FALSE NEIGHBOUR: 'it returns false'. Refute it at one input. -/
def streetSignalsWrong : ChangeSpec := { name := "streetSignals", fn := fun _ => fun
  | [d1, d2] => { results := [.lit (.bool false)], args := [d1, d2] }
  | _ => none }
def StreetSignalsWrongFalsely : Prop := streetSignalsRow.holds Try.pinned (OpenSpec.ofChange streetSignalsWrong)

/-- 'tramlinelaw06.StreetKeeps': WHATEVER THE INPUT: true; the input reads as it did. -/
def streetKeepsSpec : ChangeSpec := { name := "streetKeeps", fn := fun _ => fun
  | [d1, d2] => { results := [.lit (.bool true)], args := [d1, d2] }
  | _ => none }
def streetKeepsRow : OpenClaim := { program := "ytmenlmioccciiaa", sum := "2af067535b830a407f114a7d8bc1efc9342da82519672b671e57712078924632", func := "tramline/tramlinelaw06.StreetKeeps", spec := "streetKeeps", unfollowed := true, recurses := true, plainKeys := false, apart := false }
def StreetKeepsSaid : Prop := streetKeepsRow.holds Try.pinned (OpenSpec.ofChange streetKeepsSpec)

/-- ITS FALSE NEIGHBOUR: 'it returns false'. Refute it at one input. -/
def streetKeepsWrong : ChangeSpec := { name := "streetKeeps", fn := fun _ => fun
  | [d1, d2] => { results := [.lit (.bool false)], args := [d1, d2] }
  | _ => none }
def StreetKeepsWrongFalsely : Prop := streetKeepsRow.holds Try.pinned (OpenSpec.ofChange streetKeepsWrong)

/-- 'tramlinelaw06.StreetWaits': WHATEVER THE INPUT: true; the input reads as it did. -/
def streetWaitsSpec : ChangeSpec := { name := "streetWaits", fn := fun _ => fun
  | [d1, d2, d3] => { results := [.lit (.bool true)], args := [d1, d2, d3] }
  | _ => none }
def streetWaitsRow : OpenClaim := { program := "ytmenlmioccciiaa", sum := "2af067535b830a407f114a7d8bc1efc9342da82519672b671e57712078924632", func := "tramline/tramlinelaw06.StreetWaits", spec := "streetWaits", unfollowed := true, recurses := true, plainKeys := false, apart := false }
def StreetWaitsSaid : Prop := streetWaitsRow.holds Try.pinned (OpenSpec.ofChange streetWaitsSpec)

/-- ITS FALSE NEIGHBOUR: 'it returns false'. Refute it at one input. -/
def streetWaitsWrong : ChangeSpec := { name := "streetWaits", fn := fun _ => fun
  | [d1, d2, d3] => { results := [.lit (.bool false)], args := [d1, d2, d3] }
  | _ => none }
def StreetWaitsWrongFalsely : Prop := streetWaitsRow.holds Try.pinned (OpenSpec.ofChange streetWaitsWrong)

/-- 'tramlinelaw06.StreetQuiet': WHATEVER THE INPUT: true; the input reads as it did. -/
def streetQuietSpec : ChangeSpec := { name := "streetQuiet", fn := fun _ => fun
  | [d1, d2, d3] => { results := [.lit (.bool true)], args := [d1, d2, d3] }
  | _ => none }
def streetQuietRow : OpenClaim := { program := "ytmenlmioccciiaa", sum := "2af067535b830a407f114a7d8bc1efc9342da82519672b671e57712078924632", func := "tramline/tramlinelaw06.StreetQuiet", spec := "streetQuiet", unfollowed := true, recurses := true, plainKeys := false, apart := false }
def StreetQuietSaid : Prop := streetQuietRow.holds Try.pinned (OpenSpec.ofChange streetQuietSpec)

/-- ITS FALSE NEIGHBOUR: 'it returns false'. Refute it at one input. -/
def streetQuietWrong : ChangeSpec := { name := "streetQuiet", fn := fun _ => fun
  | [d1, d2, d3] => { results := [.lit (.bool false)], args := [d1, d2, d3] }
  | _ => none }
def StreetQuietWrongFalsely : Prop := streetQuietRow.holds Try.pinned (OpenSpec.ofChange streetQuietWrong)

/-- 'tramlinelaw06.StreetRight': WHATEVER THE INPUT: true; the input reads as it did. -/
def streetRightSpec : ChangeSpec := { name := "streetRight", fn := fun _ => fun
  | [d1, d2] => { results := [.lit (.bool true)], args := [d1, d2] }
  | _ => none }
def streetRightRow : OpenClaim := { program := "ytmenlmioccciiaa", sum := "2af067535b830a407f114a7d8bc1efc9342da82519672b671e57712078924632", func := "tramline/tramlinelaw06.StreetRight", spec := "streetRight", unfollowed := true, recurses := true, plainKeys := false, apart := false }
def StreetRightSaid : Prop := streetRightRow.holds Try.pinned (OpenSpec.ofChange streetRightSpec)

/-- ITS FALSE NEIGHBOUR: 'it returns false'. Refute it at one input. -/
def streetRightWrong : ChangeSpec := { name := "streetRight", fn := fun _ => fun
  | [d1, d2] => { results := [.lit (.bool false)], args := [d1, d2] }
  | _ => none }
def StreetRightWrongFalsely : Prop := streetRightRow.holds Try.pinned (OpenSpec.ofChange streetRightWrong)

/-- 'tramlinelaw06.StreetNever': WHATEVER THE INPUT: true; the input reads as it did. -/
def streetNeverSpec : ChangeSpec := { name := "streetNever", fn := fun _ => fun
  | [d1, d2] => { results := [.lit (.bool true)], args := [d1, d2] }
  | _ => none }
def streetNeverRow : OpenClaim := { program := "ytmenlmioccciiaa", sum := "2af067535b830a407f114a7d8bc1efc9342da82519672b671e57712078924632", func := "tramline/tramlinelaw06.StreetNever", spec := "streetNever", unfollowed := true, recurses := true, plainKeys := false, apart := false }
def StreetNeverSaid : Prop := streetNeverRow.holds Try.pinned (OpenSpec.ofChange streetNeverSpec)

/-- ITS FALSE NEIGHBOUR: 'it returns false'. Refute it at one input. -/
def streetNeverWrong : ChangeSpec := { name := "streetNever", fn := fun _ => fun
  | [d1, d2] => { results := [.lit (.bool false)], args := [d1, d2] }
  | _ => none }
def StreetNeverWrongFalsely : Prop := streetNeverRow.holds Try.pinned (OpenSpec.ofChange streetNeverWrong)

/-- 'tramlinelaw06.StreetShort': WHATEVER THE INPUT: true; the input reads as it did. -/
def streetShortSpec : ChangeSpec := { name := "streetShort", fn := fun _ => fun
  | [d1, d2, d3] => { results := [.lit (.bool true)], args := [d1, d2, d3] }
  | _ => none }
def streetShortRow : OpenClaim := { program := "ytmenlmioccciiaa", sum := "2af067535b830a407f114a7d8bc1efc9342da82519672b671e57712078924632", func := "tramline/tramlinelaw06.StreetShort", spec := "streetShort", unfollowed := true, recurses := true, plainKeys := false, apart := false }
def StreetShortSaid : Prop := streetShortRow.holds Try.pinned (OpenSpec.ofChange streetShortSpec)

/-- ITS FALSE NEIGHBOUR: 'it returns false'. Refute it at one input. -/
def streetShortWrong : ChangeSpec := { name := "streetShort", fn := fun _ => fun
  | [d1, d2, d3] => { results := [.lit (.bool false)], args := [d1, d2, d3] }
  | _ => none }
def StreetShortWrongFalsely : Prop := streetShortRow.holds Try.pinned (OpenSpec.ofChange streetShortWrong)

/-- 'tramlinelaw06.StreetChecks': WHATEVER THE INPUT: true; the input reads as it did. -/
def streetChecksSpec : ChangeSpec := { name := "streetChecks", fn := fun _ => fun
  | [d] => { results := [.lit (.bool true)], args := [d] }
  | _ => none }
def streetChecksRow : OpenClaim := { program := "ytmenlmioccciiaa", sum := "2af067535b830a407f114a7d8bc1efc9342da82519672b671e57712078924632", func := "tramline/tramlinelaw06.StreetChecks", spec := "streetChecks", unfollowed := true, recurses := true, plainKeys := false, apart := false }
def StreetChecksSaid : Prop := streetChecksRow.holds Try.pinned (OpenSpec.ofChange streetChecksSpec)

/-- ITS FALSE NEIGHBOUR: 'it returns false'. Refute it at one input. -/
def streetChecksWrong : ChangeSpec := { name := "streetChecks", fn := fun _ => fun
  | [d] => { results := [.lit (.bool false)], args := [d] }
  | _ => none }
def StreetChecksWrongFalsely : Prop := streetChecksRow.holds Try.pinned (OpenSpec.ofChange streetChecksWrong)

/- THE SECOND FORM. 'bulk': how many values and letters a reading holds, each counted each time it is reached (what is shared counts as often as it is met; a slice's spare places count too). A statement '..UptoSaid' is the law's where the arguments, and the package variables that the reading takes, are together of bulk at most 1048576: NARROWER than '..Said'. Prove '..Said' where nothing that the law and all that it calls make is longer than what came in: it says more and counts as full. Else prove '..UptoSaid'. A law counts once. -/
mutual
def uptoBulk {H : Type} : DataW H → Nat
  | .lit (.string bytes) => bytes.length + 1
  | .lit _ => 1
  | .nil => 1
  | .ptr d => uptoBulk d + 1
  | .slice elems spare => uptoBulkAll elems + uptoBulkAll spare + 1
  | .agg parts => uptoBulkAll parts + 1
  | .iface _ d => uptoBulk d + 1
  | .map entries => uptoBulkEntries entries + 1
  | .held _ => 1
def uptoBulkAll {H : Type} : List (DataW H) → Nat
  | [] => 0
  | d :: r => uptoBulk d + uptoBulkAll r
def uptoBulkEntries {H : Type} : List (Lit × DataW H) → Nat
  | [] => 0
  | x :: r => uptoBulkEntry x + uptoBulkEntries r
def uptoBulkEntry {H : Type} : Lit × DataW H → Nat
  | (.string bytes, d) => bytes.length + uptoBulk d + 1
  | (_, d) => uptoBulk d + 1
 end
def uptoSmall : (H : Type) → List (DataW H) → Bool := fun _ ds => decide (uptoBulkAll ds ≤ 1048576)
def OpenSpec.upto (s : _root_.Go.ChangeSpec) : _root_.Go.OpenSpec := { _root_.Go.OpenSpec.ofChange s with cond := some uptoSmall }

/-- 'tramlinelaw06.StreetTours', WHERE WHAT IT READS IS OF BULK AT MOST 1048576: true; the input reads as it did. -/
def streetToursUptoRow : OpenClaim := { program := "ytmenlmioccciiaa", sum := "2af067535b830a407f114a7d8bc1efc9342da82519672b671e57712078924632", func := "tramline/tramlinelaw06.StreetTours", spec := "streetTours", unfollowed := true, recurses := true, plainKeys := false, apart := false, narrowed := true }
def StreetToursUptoSaid : Prop := streetToursUptoRow.holds Try.pinned (OpenSpec.upto streetToursSpec)

/-- 'tramlinelaw06.StreetSignals', WHERE WHAT IT READS IS OF BULK AT MOST 1048576: true; the input reads as it did. -/
def streetSignalsUptoRow : OpenClaim := { program := "ytmenlmioccciiaa", sum := "2af067535b830a407f114a7d8bc1efc9342da82519672b671e57712078924632", func := "tramline/tramlinelaw06.StreetSignals", spec := "streetSignals", unfollowed := true, recurses := true, plainKeys := false, apart := false, narrowed := true }
def StreetSignalsUptoSaid : Prop := streetSignalsUptoRow.holds Try.pinned (OpenSpec.upto streetSignalsSpec)

/-- 'tramlinelaw06.StreetKeeps', WHERE WHAT IT READS IS OF BULK AT MOST 1048576: true; the input reads as it did. -/
def streetKeepsUptoRow : OpenClaim := { program := "ytmenlmioccciiaa", sum := "2af067535b830a407f114a7d8bc1efc9342da82519672b671e57712078924632", func := "tramline/tramlinelaw06.StreetKeeps", spec := "streetKeeps", unfollowed := true, recurses := true, plainKeys := false, apart := false, narrowed := true }
def StreetKeepsUptoSaid : Prop := streetKeepsUptoRow.holds Try.pinned (OpenSpec.upto streetKeepsSpec)

/-- 'tramlinelaw06.StreetWaits', WHERE WHAT IT READS IS OF BULK AT MOST 1048576: true; the input reads as it did. -/
def streetWaitsUptoRow : OpenClaim := { program := "ytmenlmioccciiaa", sum := "2af067535b830a407f114a7d8bc1efc9342da82519672b671e57712078924632", func := "tramline/tramlinelaw06.StreetWaits", spec := "streetWaits", unfollowed := true, recurses := true, plainKeys := false, apart := false, narrowed := true }
def StreetWaitsUptoSaid : Prop := streetWaitsUptoRow.holds Try.pinned (OpenSpec.upto streetWaitsSpec)

/-- 'tramlinelaw06.StreetQuiet', WHERE WHAT IT READS IS OF BULK AT MOST 1048576: true; the input reads as it did. -/
def streetQuietUptoRow : OpenClaim := { program := "ytmenlmioccciiaa", sum := "2af067535b830a407f114a7d8bc1efc9342da82519672b671e57712078924632", func := "tramline/tramlinelaw06.StreetQuiet", spec := "streetQuiet", unfollowed := true, recurses := true, plainKeys := false, apart := false, narrowed := true }
def StreetQuietUptoSaid : Prop := streetQuietUptoRow.holds Try.pinned (OpenSpec.upto streetQuietSpec)

/-- 'tramlinelaw06.StreetRight', WHERE WHAT IT READS IS OF BULK AT MOST 1048576: true; the input reads as it did. -/
def streetRightUptoRow : OpenClaim := { program := "ytmenlmioccciiaa", sum := "2af067535b830a407f114a7d8bc1efc9342da82519672b671e57712078924632", func := "tramline/tramlinelaw06.StreetRight", spec := "streetRight", unfollowed := true, recurses := true, plainKeys := false, apart := false, narrowed := true }
def StreetRightUptoSaid : Prop := streetRightUptoRow.holds Try.pinned (OpenSpec.upto streetRightSpec)

/-- 'tramlinelaw06.StreetNever', WHERE WHAT IT READS IS OF BULK AT MOST 1048576: true; the input reads as it did. -/
def streetNeverUptoRow : OpenClaim := { program := "ytmenlmioccciiaa", sum := "2af067535b830a407f114a7d8bc1efc9342da82519672b671e57712078924632", func := "tramline/tramlinelaw06.StreetNever", spec := "streetNever", unfollowed := true, recurses := true, plainKeys := false, apart := false, narrowed := true }
def StreetNeverUptoSaid : Prop := streetNeverUptoRow.holds Try.pinned (OpenSpec.upto streetNeverSpec)

/-- 'tramlinelaw06.StreetShort', WHERE WHAT IT READS IS OF BULK AT MOST 1048576: true; the input reads as it did. -/
def streetShortUptoRow : OpenClaim := { program := "ytmenlmioccciiaa", sum := "2af067535b830a407f114a7d8bc1efc9342da82519672b671e57712078924632", func := "tramline/tramlinelaw06.StreetShort", spec := "streetShort", unfollowed := true, recurses := true, plainKeys := false, apart := false, narrowed := true }
def StreetShortUptoSaid : Prop := streetShortUptoRow.holds Try.pinned (OpenSpec.upto streetShortSpec)

/-- 'tramlinelaw06.StreetChecks', WHERE WHAT IT READS IS OF BULK AT MOST 1048576: true; the input reads as it did. -/
def streetChecksUptoRow : OpenClaim := { program := "ytmenlmioccciiaa", sum := "2af067535b830a407f114a7d8bc1efc9342da82519672b671e57712078924632", func := "tramline/tramlinelaw06.StreetChecks", spec := "streetChecks", unfollowed := true, recurses := true, plainKeys := false, apart := false, narrowed := true }
def StreetChecksUptoSaid : Prop := streetChecksUptoRow.holds Try.pinned (OpenSpec.upto streetChecksSpec)

end Rows
end Go.Proofs.Ytmenlmioccciiaa
