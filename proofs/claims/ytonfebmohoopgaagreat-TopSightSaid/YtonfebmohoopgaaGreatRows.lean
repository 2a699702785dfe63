/-
  No cell of these rows narrows 'for every input' (looked for: loops, veiled, ifaces, maps, wideKeys, modest, calm, conditions, laid).
  DERIVED. THE GIVEN ROWS OF THIS SEAT. 3 by the template 'for every input the law returns true; each argument reads behind the call as it read before'; 0 by the template 'total and deterministic' (their statements: YtonfebmohoopgaaGreatTotals.lean).
  GIVEN WITH THE SEED: the statements are not yours to turn. If you find one false, say at which input.
  Laid BY PROGRAM, IN A SANDBOX (cutbox-rows.mjs): the forced cells as the released guide's own fill.sh prints them over the translation a6fa40a5939cf6d9… (all of the seat's roots in one cut). By AI agents, Wed Nov 11 2026. No macro, syntax, notation, axiom, sorry.
-/
import Derived.Test.YtonfebmohoopgaaGreatChecked
import GoSem.Claim
import GoSem.ClaimJoined
import GoSem.ClaimMapViews
import Derived.JoinedTies
import Derived.KernelRfl
namespace Go.Proofs.YtonfebmohoopgaaGreat
/- THE CELL 'sum', in the pinned program and in every row, IS THE sha256 OF THE DUMP (.gsa) THAT YtonfebmohoopgaaGreatProg.lean LOADS. Nothing in Lean hashes anything: it is a label: what it is worth is what the hold of that sum in a sandbox is worth. -/
noncomputable def Tryz.pinned : Pinned := { name := "ytonfebmohoopgaagreat", sum := "a6fa40a5939cf6d96aa42ddb9617164ef7756c3e4302ead0ccc38305dd4a5a89", checked := Tryz.checked }
namespace Rows
def none {H : Type} : Left H := { results := [], args := [] }

/-- 'tramlinetop.TopSight': WHATEVER THE INPUT: true; the input reads as it did. -/
def topSightSpec : ChangeSpec := { name := "topSight", fn := fun _ => fun
  | [d1, d2, d3, d4, d5, d6, d7, d8] => { results := [.lit (.bool true)], args := [d1, d2, d3, d4, d5, d6, d7, d8] }
  | _ => none }
def topSightRow : OpenClaim := { program := "ytonfebmohoopgaagreat", sum := "a6fa40a5939cf6d96aa42ddb9617164ef7756c3e4302ead0ccc38305dd4a5a89", func := "tramline/tramlinetop.TopSight", spec := "topSight", inPlace := ["math.sqrt"], unfollowed := true, recurses := true, plainKeys := false, apart := false }
def TopSightSaid : Prop := topSightRow.holds Tryz.pinned (OpenSpec.ofChange topSightSpec)

/-- ITS FALSE NEIGHBOUR: 'it returns false'. Refute it at one input. -/
def topSightWrong : ChangeSpec := { name := "topSight", fn := fun _ => fun
  | [d1, d2, d3, d4, d5, d6, d7, d8] => { results := [.lit (.bool false)], args := [d1, d2, d3, d4, d5, d6, d7, d8] }
  | _ => none }
def TopSightWrongFalsely : Prop := topSightRow.holds Tryz.pinned (OpenSpec.ofChange topSightWrong)

/-- 'tramlinetop.TopLonger': WHATEVER THE INPUT: true; the input reads as it did. -/
def topLongerSpec : ChangeSpec := { name := "topLonger", fn := fun _ => fun
  | [d1, d2, d3, d4, d5, d6] => { results := [.lit (.bool true)], args := [d1, d2, d3, d4, d5, d6] }
  | _ => none }
def topLongerRow : OpenClaim := { program := "ytonfebmohoopgaagreat", sum := "a6fa40a5939cf6d96aa42ddb9617164ef7756c3e4302ead0ccc38305dd4a5a89", func := "tramline/tramlinetop.TopLonger", spec := "topLonger", inPlace := ["math.sqrt"], unfollowed := true, recurses := true, plainKeys := false, apart := false }
def TopLongerSaid : Prop := topLongerRow.holds Tryz.pinned (OpenSpec.ofChange topLongerSpec)

/-- ITS FALSE NEIGHBOUR: 'it returns false'. Refute it at one input. -/
def topLongerWrong : ChangeSpec := { name := "topLonger", fn := fun _ => fun
  | [d1, d2, d3, d4, d5, d6] => { results := [.lit (.bool false)], args := [d1, d2, d3, d4, d5, d6] }
  | _ => none }
def TopLongerWrongFalsely : Prop := topLongerRow.holds Tryz.pinned (OpenSpec.ofChange topLongerWrong)

/-- 'tramlinetop.TopTrimmed': WHATEVER THE INPUT: true; the input reads as it did. -/
def topTrimmedSpec : ChangeSpec := { name := "topTrimmed", fn := fun _ => fun
  | [d1, d2, d3, d4, d5] => { results := [.lit (.bool true)], args := [d1, d2, d3, d4, d5] }
  | _ => none }
def topTrimmedRow : OpenClaim := { program := "ytonfebmohoopgaagreat", sum := "a6fa40a5939cf6d96aa42ddb9617164ef7756c3e4302ead0ccc38305dd4a5a89", func := "tramline/tramlinetop.TopTrimmed", spec := "topTrimmed", inPlace := ["math.sqrt"], unfollowed := true, recurses := true, plainKeys := false, apart := false }
def TopTrimmedSaid : Prop := topTrimmedRow.holds Tryz.pinned (OpenSpec.ofChange topTrimmedSpec)

/-- ITS FALSE NEIGHBOUR: 'it returns false'. Refute it at one input. -/
def topTrimmedWrong : ChangeSpec := { name := "topTrimmed", fn := fun _ => fun
  | [d1, d2, d3, d4, d5] => { results := [.lit (.bool false)], args := [d1, d2, d3, d4, d5] }
  | _ => none }
def TopTrimmedWrongFalsely : Prop := topTrimmedRow.holds Tryz.pinned (OpenSpec.ofChange topTrimmedWrong)

/- THE SECOND FORM. 'bulk': how many values and letters a reading holds, each counted each time it is reached (what is shared counts as often as it is met; a slice's spare places count too). A statement '..UptoSaid' is the law's where the arguments, and the package variables that the reading takes, are together of bulk at most 1048576: NARROWER than '..Said'. Prove '..Said' where nothing that the law and all that it calls make is longer than what came in: it says more and counts as full. Else prove '..UptoSaid'. A law counts once. -/
mutual
def uptoBulk {H : Type} : DataW H → Nat
  | .lit (.string bytes) => bytes.length + 1
  | .lit _ => 1
  | .nil => 1
  | .ptr d => uptoBulk d + 1
  | .slice elems spare => uptoBulkAll elems + uptoBulkAll spare + 1
  | .agg parts => uptoBulkAll parts + 1
  | .iface _ d => uptoBulk d + 1
  | .map entries => uptoBulkEntries entries + 1
  | .held _ => 1
def uptoBulkAll {H : Type} : List (DataW H) → Nat
  | [] => 0
  | d :: r => uptoBulk d + uptoBulkAll r
def uptoBulkEntries {H : Type} : List (Lit × DataW H) → Nat
  | [] => 0
  | x :: r => uptoBulkEntry x + uptoBulkEntries r
def uptoBulkEntry {H : Type} : Lit × DataW H → Nat
  | (.string bytes, d) => bytes.length + uptoBulk d + 1
  | (_, d) => uptoBulk d + 1
 end
def uptoSmall : (H : Type) → List (DataW H) → Bool := fun _ ds => decide (uptoBulkAll ds ≤ 1048576)
def OpenSpec.upto (s : _root_.Go.ChangeSpec) : _root_.Go.OpenSpec := { _root_.Go.OpenSpec.ofChange s with cond := some uptoSmall }

/-- 'tramlinetop.TopSight', WHERE WHAT IT READS IS OF BULK AT MOST 1048576: true; the input reads as it did. -/
def topSightUptoRow : OpenClaim := { program := "ytonfebmohoopgaagreat", sum := "a6fa40a5939cf6d96aa42ddb9617164ef7756c3e4302ead0ccc38305dd4a5a89", func := "tramline/tramlinetop.TopSight", spec := "topSight", inPlace := ["math.sqrt"], unfollowed := true, recurses := true, plainKeys := false, apart := false, narrowed := true }
def TopSightUptoSaid : Prop := topSightUptoRow.holds Tryz.pinned (OpenSpec.upto topSightSpec)

/-- 'tramlinetop.TopLonger', WHERE WHAT IT READS IS OF BULK AT MOST 1048576: true; the input reads as it did. -/
def topLongerUptoRow : OpenClaim := { program := "ytonfebmohoopgaagreat", sum := "a6fa40a5939cf6d96aa42ddb9617164ef7756c3e4302ead0ccc38305dd4a5a89", func := "tramline/tramlinetop.TopLonger", spec := "topLonger", inPlace := ["math.sqrt"], unfollowed := true, recurses := true, plainKeys := false, apart := false, narrowed := true }
def TopLongerUptoSaid : Prop := topLongerUptoRow.holds Tryz.pinned (OpenSpec.upto topLongerSpec)

/-- 'tramlinetop.TopTrimmed', WHERE WHAT IT READS IS OF BULK AT MOST 1048576: true; the input reads as it did. -/
def topTrimmedUptoRow : OpenClaim := { program := "ytonfebmohoopgaagreat", sum := "a6fa40a5939cf6d96aa42ddb9617164ef7756c3e4302ead0ccc38305dd4a5a89", func := "tramline/tramlinetop.TopTrimmed", spec := "topTrimmed", inPlace := ["math.sqrt"], unfollowed := true, recurses := true, plainKeys := false, apart := false, narrowed := true }
def TopTrimmedUptoSaid : Prop := topTrimmedUptoRow.holds Tryz.pinned (OpenSpec.upto topTrimmedSpec)

end Rows
end Go.Proofs.YtonfebmohoopgaaGreat
