/-
  No cell of these rows narrows 'for every input' (looked for: loops, veiled, ifaces, maps, wideKeys, modest, calm, conditions, laid).
  DERIVED. THE GIVEN ROWS OF THIS SEAT. 5 by the template 'for every input the law returns true; each argument reads behind the call as it read before'; 0 by the template 'total and deterministic' (their statements: YtlgdbddegopphaaGreatTotals.lean).
  GIVEN WITH THE SEED: the statements are not yours to turn. If you find one false, say at which input.
  Laid BY PROGRAM, IN A SANDBOX (cutbox-rows.mjs): the forced cells as the released guide's own fill.sh prints them over the translation e6b37d80f6b8f87d… (all of the seat's roots in one cut). By AI agents, Wed Nov 11 2026. No macro, syntax, notation, axiom, sorry.
-/
import Derived.Test.YtlgdbddegopphaaGreatChecked
import GoSem.Claim
import GoSem.ClaimJoined
import GoSem.ClaimMapViews
import Derived.JoinedTies
import Derived.KernelRfl
namespace Go.Proofs.YtlgdbddegopphaaGreat
/- THE CELL 'sum', in the pinned program and in every row, IS THE sha256 OF THE DUMP (.gsa) THAT YtlgdbddegopphaaGreatProg.lean LOADS. Nothing in Lean hashes anything: it is a label: what it is worth is what the hold of that sum in a sandbox is worth. -/
noncomputable def Tryz.pinned : Pinned := { name := "ytlgdbddegopphaagreat", sum := "e6b37d80f6b8f87d5655976b053190fccfe7111e6d3d0b16013845d38476309c", checked := Tryz.checked }
namespace Rows
def none {H : Type} : Left H := { results := [], args := [] }

/-- 'tramlinelaw05.LockChecks': WHATEVER THE INPUT: true; the input reads as it did. -/
def lockChecksSpec : ChangeSpec := { name := "lockChecks", fn := fun _ => fun
  | [d] => { results := [.lit (.bool true)], args := [d] }
  | _ => none }
def lockChecksRow : OpenClaim := { program := "ytlgdbddegopphaagreat", sum := "e6b37d80f6b8f87d5655976b053190fccfe7111e6d3d0b16013845d38476309c", func := "tramline/tramlinelaw05.LockChecks", spec := "lockChecks", inPlace := ["math.sqrt"], unfollowed := true, recurses := true, plainKeys := false, apart := false }
def LockChecksSaid : Prop := lockChecksRow.holds Tryz.pinned (OpenSpec.ofChange lockChecksSpec)

/-- ITS FALSE NEIGHBOUR: 'it returns false'. Refute it at one input. -/
def lockChecksWrong : ChangeSpec := { name := "lockChecks", fn := fun _ => fun
  | [d] => { results := [.lit (.bool false)], args := [d] }
  | _ => none }
def LockChecksWrongFalsely : Prop := lockChecksRow.holds Tryz.pinned (OpenSpec.ofChange lockChecksWrong)

/-- 'tramlinelaw05.LockSafe': WHATEVER THE INPUT: true; the input reads as it did. -/
def lockSafeSpec : ChangeSpec := { name := "lockSafe", fn := fun _ => fun
  | [d1, d2, d3] => { results := [.lit (.bool true)], args := [d1, d2, d3] }
  | _ => none }
def lockSafeRow : OpenClaim := { program := "ytlgdbddegopphaagreat", sum := "e6b37d80f6b8f87d5655976b053190fccfe7111e6d3d0b16013845d38476309c", func := "tramline/tramlinelaw05.LockSafe", spec := "lockSafe", inPlace := ["math.sqrt"], unfollowed := true, recurses := true, plainKeys := false, apart := false }
def LockSafeSaid : Prop := lockSafeRow.holds Tryz.pinned (OpenSpec.ofChange lockSafeSpec)

/-- ITS FALSE NEIGHBOUR: 'it returns false'. Refute it at one input. -/
def lockSafeWrong : ChangeSpec := { name := "lockSafe", fn := fun _ => fun
  | [d1, d2, d3] => { results := [.lit (.bool false)], args := [d1, d2, d3] }
  | _ => none }
def LockSafeWrongFalsely : Prop := lockSafeRow.holds Tryz.pinned (OpenSpec.ofChange lockSafeWrong)

/-- 'tramlinelaw05.LockYields': WHATEVER THE INPUT: true; the input reads as it did. -/
def lockYieldsSpec : ChangeSpec := { name := "lockYields", fn := fun _ => fun
  | [d1, d2, d3, d4, d5] => { results := [.lit (.bool true)], args := [d1, d2, d3, d4, d5] }
  | _ => none }
def lockYieldsRow : OpenClaim := { program := "ytlgdbddegopphaagreat", sum := "e6b37d80f6b8f87d5655976b053190fccfe7111e6d3d0b16013845d38476309c", func := "tramline/tramlinelaw05.LockYields", spec := "lockYields", inPlace := ["math.sqrt"], unfollowed := true, recurses := true, plainKeys := false, apart := false }
def LockYieldsSaid : Prop := lockYieldsRow.holds Tryz.pinned (OpenSpec.ofChange lockYieldsSpec)

/-- ITS FALSE NEIGHBOUR: 'it returns false'. Refute it at one input. -/
def lockYieldsWrong : ChangeSpec := { name := "lockYields", fn := fun _ => fun
  | [d1, d2, d3, d4, d5] => { results := [.lit (.bool false)], args := [d1, d2, d3, d4, d5] }
  | _ => none }
def LockYieldsWrongFalsely : Prop := lockYieldsRow.holds Tryz.pinned (OpenSpec.ofChange lockYieldsWrong)

/-- 'tramlinelaw05.LockPlays': WHATEVER THE INPUT: true; the input reads as it did. -/
def lockPlaysSpec : ChangeSpec := { name := "lockPlays", fn := fun _ => fun
  | [d1, d2] => { results := [.lit (.bool true)], args := [d1, d2] }
  | _ => none }
def lockPlaysRow : OpenClaim := { program := "ytlgdbddegopphaagreat", sum := "e6b37d80f6b8f87d5655976b053190fccfe7111e6d3d0b16013845d38476309c", func := "tramline/tramlinelaw05.LockPlays", spec := "lockPlays", inPlace := ["math.sqrt"], unfollowed := true, recurses := true, plainKeys := false, apart := false }
def LockPlaysSaid : Prop := lockPlaysRow.holds Tryz.pinned (OpenSpec.ofChange lockPlaysSpec)

/-- ITS FALSE NEIGHBOUR: 'it returns false'. Refute it at one input. -/
def lockPlaysWrong : ChangeSpec := { name := "lockPlays", fn := fun _ => fun
  | [d1, d2] => { results := [.lit (.bool false)], args := [d1, d2] }
  | _ => none }
def LockPlaysWrongFalsely : Prop := lockPlaysRow.holds Tryz.pinned (OpenSpec.ofChange lockPlaysWrong)

/-- 'tramlinelaw05.LockKeeps': WHATEVER THE INPUT: true; the input reads as it did. -/
def lockKeepsSpec : ChangeSpec := { name := "lockKeeps", fn := fun _ => fun
  | [d1, d2] => { results := [.lit (.bool true)], args := [d1, d2] }
  | _ => none }
def lockKeepsRow : OpenClaim := { program := "ytlgdbddegopphaagreat", sum := "e6b37d80f6b8f87d5655976b053190fccfe7111e6d3d0b16013845d38476309c", func := "tramline/tramlinelaw05.LockKeeps", spec := "lockKeeps", inPlace := ["math.sqrt"], unfollowed := true, recurses := true, plainKeys := false, apart := false }
def LockKeepsSaid : Prop := lockKeepsRow.holds Tryz.pinned (OpenSpec.ofChange lockKeepsSpec)

/-- ITS FALSE NEIGHBOUR: 'it returns false'. Refute it at one input. -/
def lockKeepsWrong : ChangeSpec := { name := "lockKeeps", fn := fun _ => fun
  | [d1, d2] => { results := [.lit (.bool false)], args := [d1, d2] }
  | _ => none }
def LockKeepsWrongFalsely : Prop := lockKeepsRow.holds Tryz.pinned (OpenSpec.ofChange lockKeepsWrong)

/- THE SECOND FORM. 'bulk': how many values and letters a reading holds, each counted each time it is reached (what is shared counts as often as it is met; a slice's spare places count too). A statement '..UptoSaid' is the law's where the arguments, and the package variables that the reading takes, are together of bulk at most 1048576: NARROWER than '..Said'. Prove '..Said' where nothing that the law and all that it calls make is longer than what came in: it says more and counts as full. Else prove '..UptoSaid'. A law counts once. -/
mutual
def uptoBulk {H : Type} : DataW H → Nat
  | .lit (.string bytes) => bytes.length + 1
  | .lit _ => 1
  | .nil => 1
  | .ptr d => uptoBulk d + 1
  | .slice elems spare => uptoBulkAll elems + uptoBulkAll spare + 1
  | .agg parts => uptoBulkAll parts + 1
  | .iface _ d => uptoBulk d + 1
  | .map entries => uptoBulkEntries entries + 1
  | .held _ => 1
def uptoBulkAll {H : Type} : List (DataW H) → Nat
  | [] => 0
  | d :: r => uptoBulk d + uptoBulkAll r
def uptoBulkEntries {H : Type} : List (Lit × DataW H) → Nat
  | [] => 0
  | x :: r => uptoBulkEntry x + uptoBulkEntries r
def uptoBulkEntry {H : Type} : Lit × DataW H → Nat
  | (.string bytes, d) => bytes.length + uptoBulk d + 1
  | (_, d) => uptoBulk d + 1
 end
def uptoSmall : (H : Type) → List (DataW H) → Bool := fun _ ds => decide (uptoBulkAll ds ≤ 1048576)
def OpenSpec.upto (s : _root_.Go.ChangeSpec) : _root_.Go.OpenSpec := { _root_.Go.OpenSpec.ofChange s with cond := some uptoSmall }

/-- 'tramlinelaw05.LockChecks', WHERE WHAT IT READS IS OF BULK AT MOST 1048576: true; the input reads as it did. -/
def lockChecksUptoRow : OpenClaim := { program := "ytlgdbddegopphaagreat", sum := "e6b37d80f6b8f87d5655976b053190fccfe7111e6d3d0b16013845d38476309c", func := "tramline/tramlinelaw05.LockChecks", spec := "lockChecks", inPlace := ["math.sqrt"], unfollowed := true, recurses := true, plainKeys := false, apart := false, narrowed := true }
def LockChecksUptoSaid : Prop := lockChecksUptoRow.holds Tryz.pinned (OpenSpec.upto lockChecksSpec)

/-- 'tramlinelaw05.LockSafe', WHERE WHAT IT READS IS OF BULK AT MOST 1048576: true; the input reads as it did. -/
def lockSafeUptoRow : OpenClaim := { program := "ytlgdbddegopphaagreat", sum := "e6b37d80f6b8f87d5655976b053190fccfe7111e6d3d0b16013845d38476309c", func := "tramline/tramlinelaw05.LockSafe", spec := "lockSafe", inPlace := ["math.sqrt"], unfollowed := true, recurses := true, plainKeys := false, apart := false, narrowed := true }
def LockSafeUptoSaid : Prop := lockSafeUptoRow.holds Tryz.pinned (OpenSpec.upto lockSafeSpec)

/-- 'tramlinelaw05.LockYields', WHERE WHAT IT READS IS OF BULK AT MOST 1048576: true; the input reads as it did. -/
def lockYieldsUptoRow : OpenClaim := { program := "ytlgdbddegopphaagreat", sum := "e6b37d80f6b8f87d5655976b053190fccfe7111e6d3d0b16013845d38476309c", func := "tramline/tramlinelaw05.LockYields", spec := "lockYields", inPlace := ["math.sqrt"], unfollowed := true, recurses := true, plainKeys := false, apart := false, narrowed := true }
def LockYieldsUptoSaid : Prop := lockYieldsUptoRow.holds Tryz.pinned (OpenSpec.upto lockYieldsSpec)

/-- 'tramlinelaw05.LockPlays', WHERE WHAT IT READS IS OF BULK AT MOST 1048576: true; the input reads as it did. -/
def lockPlaysUptoRow : OpenClaim := { program := "ytlgdbddegopphaagreat", sum := "e6b37d80f6b8f87d5655976b053190fccfe7111e6d3d0b16013845d38476309c", func := "tramline/tramlinelaw05.LockPlays", spec := "lockPlays", inPlace := ["math.sqrt"], unfollowed := true, recurses := true, plainKeys := false, apart := false, narrowed := true }
def LockPlaysUptoSaid : Prop := lockPlaysUptoRow.holds Tryz.pinned (OpenSpec.upto lockPlaysSpec)

/-- 'tramlinelaw05.LockKeeps', WHERE WHAT IT READS IS OF BULK AT MOST 1048576: true; the input reads as it did. -/
def lockKeepsUptoRow : OpenClaim := { program := "ytlgdbddegopphaagreat", sum := "e6b37d80f6b8f87d5655976b053190fccfe7111e6d3d0b16013845d38476309c", func := "tramline/tramlinelaw05.LockKeeps", spec := "lockKeeps", inPlace := ["math.sqrt"], unfollowed := true, recurses := true, plainKeys := false, apart := false, narrowed := true }
def LockKeepsUptoSaid : Prop := lockKeepsUptoRow.holds Tryz.pinned (OpenSpec.upto lockKeepsSpec)

end Rows
end Go.Proofs.YtlgdbddegopphaaGreat
