/-
  No cell of these rows narrows 'for every input' (looked for: loops, veiled, ifaces, maps, wideKeys, modest, calm, conditions, laid).
  DERIVED. THE GIVEN ROWS OF THIS SEAT. 3 by the template 'for every input the law returns true; each argument reads behind the call as it read before'; 0 by the template 'total and deterministic' (their statements: YtdechefjlfkehaaGreatTotals.lean).
  GIVEN WITH THE SEED: the statements are not yours to turn. If you find one false, say at which input.
  Laid BY PROGRAM, IN A SANDBOX (cutbox-rows.mjs): the forced cells as the released guide's own fill.sh prints them over the translation 3aa471d7ef307c0a… (all of the seat's roots in one cut). By AI agents, Wed Nov 11 2026. No macro, syntax, notation, axiom, sorry.
-/
import Derived.Test.YtdechefjlfkehaaGreatChecked
import GoSem.Claim
import GoSem.ClaimJoined
import GoSem.ClaimMapViews
import Derived.JoinedTies
import Derived.KernelRfl
namespace Go.Proofs.YtdechefjlfkehaaGreat
/- THE CELL 'sum', in the pinned program and in every row, IS THE sha256 OF THE DUMP (.gsa) THAT YtdechefjlfkehaaGreatProg.lean LOADS. Nothing in Lean hashes anything: it is a label: what it is worth is what the hold of that sum in a sandbox is worth. -/
noncomputable def Tryz.pinned : Pinned := { name := "ytdechefjlfkehaagreat", sum := "3aa471d7ef307c0aa13bacc1bc0f2ae13d722f77e2dd0b8b9cff4b163bf37af6", checked := Tryz.checked }
namespace Rows
def none {H : Type} : Left H := { results := [], args := [] }

/-- 'tramlinetop.TopPunctual': WHATEVER THE INPUT: true; the input reads as it did. -/
def topPunctualSpec : ChangeSpec := { name := "topPunctual", fn := fun _ => fun
  | [d1, d2, d3, d4] => { results := [.lit (.bool true)], args := [d1, d2, d3, d4] }
  | _ => none }
def topPunctualRow : OpenClaim := { program := "ytdechefjlfkehaagreat", sum := "3aa471d7ef307c0aa13bacc1bc0f2ae13d722f77e2dd0b8b9cff4b163bf37af6", func := "tramline/tramlinetop.TopPunctual", spec := "topPunctual", inPlace := ["math.sqrt"], unfollowed := true, recurses := true, plainKeys := false, apart := false }
def TopPunctualSaid : Prop := topPunctualRow.holds Tryz.pinned (OpenSpec.ofChange topPunctualSpec)

/-- ITS FALSE NEIGHBOUR: 'it returns false'. Refute it at one input. -/
def topPunctualWrong : ChangeSpec := { name := "topPunctual", fn := fun _ => fun
  | [d1, d2, d3, d4] => { results := [.lit (.bool false)], args := [d1, d2, d3, d4] }
  | _ => none }
def TopPunctualWrongFalsely : Prop := topPunctualRow.holds Tryz.pinned (OpenSpec.ofChange topPunctualWrong)

/-- 'tramlinelaw01.TrackShortest': WHATEVER THE INPUT: true; the input reads as it did. -/
def trackShortestSpec : ChangeSpec := { name := "trackShortest", fn := fun _ => fun
  | [d1, d2, d3, d4] => { results := [.lit (.bool true)], args := [d1, d2, d3, d4] }
  | _ => none }
def trackShortestRow : OpenClaim := { program := "ytdechefjlfkehaagreat", sum := "3aa471d7ef307c0aa13bacc1bc0f2ae13d722f77e2dd0b8b9cff4b163bf37af6", func := "tramline/tramlinelaw01.TrackShortest", spec := "trackShortest", inPlace := ["math.sqrt"], unfollowed := true, recurses := true, plainKeys := false, apart := false }
def TrackShortestSaid : Prop := trackShortestRow.holds Tryz.pinned (OpenSpec.ofChange trackShortestSpec)

/-- ITS FALSE NEIGHBOUR: 'it returns false'. Refute it at one input. -/
def trackShortestWrong : ChangeSpec := { name := "trackShortest", fn := fun _ => fun
  | [d1, d2, d3, d4] => { results := [.lit (.bool false)], args := [d1, d2, d3, d4] }
  | _ => none }
def TrackShortestWrongFalsely : Prop := trackShortestRow.holds Tryz.pinned (OpenSpec.ofChange trackShortestWrong)

/-- 'tramlinetop.TopShifted': WHATEVER THE INPUT: true; the input reads as it did. -/
def topShiftedSpec : ChangeSpec := { name := "topShifted", fn := fun _ => fun
  | [d1, d2, d3] => { results := [.lit (.bool true)], args := [d1, d2, d3] }
  | _ => none }
def topShiftedRow : OpenClaim := { program := "ytdechefjlfkehaagreat", sum := "3aa471d7ef307c0aa13bacc1bc0f2ae13d722f77e2dd0b8b9cff4b163bf37af6", func := "tramline/tramlinetop.TopShifted", spec := "topShifted", inPlace := ["math.sqrt"], unfollowed := true, recurses := true, plainKeys := false, apart := false }
def TopShiftedSaid : Prop := topShiftedRow.holds Tryz.pinned (OpenSpec.ofChange topShiftedSpec)

/-- ITS FALSE NEIGHBOUR: 'it returns false'. Refute it at one input. -/
def topShiftedWrong : ChangeSpec := { name := "topShifted", fn := fun _ => fun
  | [d1, d2, d3] => { results := [.lit (.bool false)], args := [d1, d2, d3] }
  | _ => none }
def TopShiftedWrongFalsely : Prop := topShiftedRow.holds Tryz.pinned (OpenSpec.ofChange topShiftedWrong)

/- THE SECOND FORM. 'bulk': how many values and letters a reading holds, each counted each time it is reached (what is shared counts as often as it is met; a slice's spare places count too). A statement '..UptoSaid' is the law's where the arguments, and the package variables that the reading takes, are together of bulk at most 1048576: NARROWER than '..Said'. Prove '..Said' where nothing that the law and all that it calls make is longer than what came in: it says more and counts as full. Else prove '..UptoSaid'. A law counts once. -/
mutual
def uptoBulk {H : Type} : DataW H → Nat
  | .lit (.string bytes) => bytes.length + 1
  | .lit _ => 1
  | .nil => 1
  | .ptr d => uptoBulk d + 1
  | .slice elems spare => uptoBulkAll elems + uptoBulkAll spare + 1
  | .agg parts => uptoBulkAll parts + 1
  | .iface _ d => uptoBulk d + 1
  | .map entries => uptoBulkEntries entries + 1
  | .held _ => 1
def uptoBulkAll {H : Type} : List (DataW H) → Nat
  | [] => 0
  | d :: r => uptoBulk d + uptoBulkAll r
def uptoBulkEntries {H : Type} : List (Lit × DataW H) → Nat
  | [] => 0
  | x :: r => uptoBulkEntry x + uptoBulkEntries r
def uptoBulkEntry {H : Type} : Lit × DataW H → Nat
  | (.string bytes, d) => bytes.length + uptoBulk d + 1
  | (_, d) => uptoBulk d + 1
 end
def uptoSmall : (H : Type) → List (DataW H) → Bool := fun _ ds => decide (uptoBulkAll ds ≤ 1048576)
def OpenSpec.upto (s : _root_.Go.ChangeSpec) : _root_.Go.OpenSpec := { _root_.Go.OpenSpec.ofChange s with cond := some uptoSmall }

/-- 'tramlinetop.TopPunctual', WHERE WHAT IT READS IS OF BULK AT MOST 1048576: true; the input reads as it did. -/
def topPunctualUptoRow : OpenClaim := { program := "ytdechefjlfkehaagreat", sum := "3aa471d7ef307c0aa13bacc1bc0f2ae13d722f77e2dd0b8b9cff4b163bf37af6", func := "tramline/tramlinetop.TopPunctual", spec := "topPunctual", inPlace := ["math.sqrt"], unfollowed := true, recurses := true, plainKeys := false, apart := false, narrowed := true }
def TopPunctualUptoSaid : Prop := topPunctualUptoRow.holds Tryz.pinned (OpenSpec.upto topPunctualSpec)

/-- 'tramlinelaw01.TrackShortest', WHERE WHAT IT READS IS OF BULK AT MOST 1048576: true; the input reads as it did. -/
def trackShortestUptoRow : OpenClaim := { program := "ytdechefjlfkehaagreat", sum := "3aa471d7ef307c0aa13bacc1bc0f2ae13d722f77e2dd0b8b9cff4b163bf37af6", func := "tramline/tramlinelaw01.TrackShortest", spec := "trackShortest", inPlace := ["math.sqrt"], unfollowed := true, recurses := true, plainKeys := false, apart := false, narrowed := true }
def TrackShortestUptoSaid : Prop := trackShortestUptoRow.holds Tryz.pinned (OpenSpec.upto trackShortestSpec)

/-- 'tramlinetop.TopShifted', WHERE WHAT IT READS IS OF BULK AT MOST 1048576: true; the input reads as it did. -/
def topShiftedUptoRow : OpenClaim := { program := "ytdechefjlfkehaagreat", sum := "3aa471d7ef307c0aa13bacc1bc0f2ae13d722f77e2dd0b8b9cff4b163bf37af6", func := "tramline/tramlinetop.TopShifted", spec := "topShifted", inPlace := ["math.sqrt"], unfollowed := true, recurses := true, plainKeys := false, apart := false, narrowed := true }
def TopShiftedUptoSaid : Prop := topShiftedUptoRow.holds Tryz.pinned (OpenSpec.upto topShiftedSpec)

end Rows
end Go.Proofs.YtdechefjlfkehaaGreat
