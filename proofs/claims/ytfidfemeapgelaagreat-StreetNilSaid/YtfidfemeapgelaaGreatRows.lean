/-
  No cell of these rows narrows 'for every input' (looked for: loops, veiled, ifaces, maps, wideKeys, modest, calm, conditions, laid).
  DERIVED. THE GIVEN ROWS OF THIS SEAT. 11 by the template 'for every input the law returns true; each argument reads behind the call as it read before'; 0 by the template 'total and deterministic' (their statements: YtfidfemeapgelaaGreatTotals.lean).
  GIVEN WITH THE SEED: the statements are not yours to turn. If you find one false, say at which input.
  Laid BY PROGRAM, IN A SANDBOX (cutbox-rows.mjs): the forced cells as the released guide's own fill.sh prints them over the translation 3bf011ed2a63b83a… (all of the seat's roots in one cut). By AI agents, Wed Nov 11 2026. No macro, syntax, notation, axiom, sorry.
-/
import Derived.Test.YtfidfemeapgelaaGreatChecked
import GoSem.Claim
import GoSem.ClaimJoined
import GoSem.ClaimMapViews
import Derived.JoinedTies
import Derived.KernelRfl
namespace Go.Proofs.YtfidfemeapgelaaGreat
/- THE CELL 'sum', in the pinned program and in every row, IS THE sha256 OF THE DUMP (.gsa) THAT YtfidfemeapgelaaGreatProg.lean LOADS. Nothing in Lean hashes anything: it is a label: what it is worth is what the hold of that sum in a sandbox is worth. -/
noncomputable def Tryz.pinned : Pinned := { name := "ytfidfemeapgelaagreat", sum := "3bf011ed2a63b83ab2f319d85d41d2edd3ab9f90fd8d80eede4b3a83f16e8750", checked := Tryz.checked }
namespace Rows
def none {H : Type} : Left H := { results := [], args := [] }

/-- 'tramlinelaw05.LockChecks': WHATEVER THE INPUT: true; the input reads as it did. -/
def lockChecksSpec : ChangeSpec := { name := "lockChecks", fn := fun _ => fun
  | [d] => { results := [.lit (.bool true)], args := [d] }
  | _ => none }
def lockChecksRow : OpenClaim := { program := "ytfidfemeapgelaagreat", sum := "3bf011ed2a63b83ab2f319d85d41d2edd3ab9f90fd8d80eede4b3a83f16e8750", func := "tramline/tramlinelaw05.LockChecks", spec := "lockChecks", inPlace := ["math.sqrt"], unfollowed := true, recurses := true, plainKeys := false, apart := false }
def LockChecksSaid : Prop := lockChecksRow.holds Tryz.pinned (OpenSpec.ofChange lockChecksSpec)

/-- ITS FALSE NEIGHBOUR: 'it returns false'. Refute it at one input. -/
def lockChecksWrong : ChangeSpec := { name := "lockChecks", fn := fun _ => fun
  | [d] => { results := [.lit (.bool false)], args := [d] }
  | _ => none }
def LockChecksWrongFalsely : Prop := lockChecksRow.holds Tryz.pinned (OpenSpec.ofChange lockChecksWrong)

/-- 'tramlinelaw05.LockSafe': WHATEVER THE INPUT: true; the input reads as it did. -/
def lockSafeSpec : ChangeSpec := { name := "lockSafe", fn := fun _ => fun
  | [d1, d2, d3] => { results := [.lit (.bool true)], args := [d1, d2, d3] }
  | _ => none }
def lockSafeRow : OpenClaim := { program := "ytfidfemeapgelaagreat", sum := "3bf011ed2a63b83ab2f319d85d41d2edd3ab9f90fd8d80eede4b3a83f16e8750", func := "tramline/tramlinelaw05.LockSafe", spec := "lockSafe", inPlace := ["math.sqrt"], unfollowed := true, recurses := true, plainKeys := false, apart := false }
def LockSafeSaid : Prop := lockSafeRow.holds Tryz.pinned (OpenSpec.ofChange lockSafeSpec)

/-- ITS FALSE NEIGHBOUR: 'it returns false'. Refute it at one input. -/
def lockSafeWrong : ChangeSpec := { name := "lockSafe", fn := fun _ => fun
  | [d1, d2, d3] => { results := [.lit (.bool false)], args := [d1, d2, d3] }
  | _ => none }
def LockSafeWrongFalsely : Prop := lockSafeRow.holds Tryz.pinned (OpenSpec.ofChange lockSafeWrong)

/-- 'tramlinelaw05.LockYields': WHATEVER THE INPUT: true; the input reads as it did. -/
def lockYieldsSpec : ChangeSpec := { name := "lockYields", fn := fun _ => fun
  | [d1, d2, d3, d4, d5] => { results := [.lit (.bool true)], args := [d1, d2, d3, d4, d5] }
  | _ => none }
def lockYieldsRow : OpenClaim := { program := "ytfidfemeapgelaagreat", sum := "3bf011ed2a63b83ab2f319d85d41d2edd3ab9f90fd8d80eede4b3a83f16e8750", func := "tramline/tramlinelaw05.LockYields", spec := "lockYields", inPlace := ["math.sqrt"], unfollowed := true, recurses := true, plainKeys := false, apart := false }
def LockYieldsSaid : Prop := lockYieldsRow.holds Tryz.pinned (OpenSpec.ofChange lockYieldsSpec)

/-- ITS FALSE NEIGHBOUR: 'it returns false'. Refute it at one input. -/
def lockYieldsWrong : ChangeSpec := { name := "lockYields", fn := fun _ => fun
  | [d1, d2, d3, d4, d5] => { results := [.lit (.bool false)], args := [d1, d2, d3, d4, d5] }
  | _ => none }
def LockYieldsWrongFalsely : Prop := lockYieldsRow.holds Tryz.pinned (OpenSpec.ofChange lockYieldsWrong)

/-- 'tramlinelaw05.LockPlays': WHATEVER THE INPUT: true; the input reads as it did. -/
def lockPlaysSpec : ChangeSpec := { name := "lockPlays", fn := fun _ => fun
  | [d1, d2] => { results := [.lit (.bool true)], args := [d1, d2] }
  | _ => none }
def lockPlaysRow : OpenClaim := { program := "ytfidfemeapgelaagreat", sum := "3bf011ed2a63b83ab2f319d85d41d2edd3ab9f90fd8d80eede4b3a83f16e8750", func := "tramline/tramlinelaw05.LockPlays", spec := "lockPlays", inPlace := ["math.sqrt"], unfollowed := true, recurses := true, plainKeys := false, apart := false }
def LockPlaysSaid : Prop := lockPlaysRow.holds Tryz.pinned (OpenSpec.ofChange lockPlaysSpec)

/-- ITS FALSE NEIGHBOUR: 'it returns false'. Refute it at one input. -/
def lockPlaysWrong : ChangeSpec := { name := "lockPlays", fn := fun _ => fun
  | [d1, d2] => { results := [.lit (.bool false)], args := [d1, d2] }
  | _ => none }
def LockPlaysWrongFalsely : Prop := lockPlaysRow.holds Tryz.pinned (OpenSpec.ofChange lockPlaysWrong)

/-- 'tramlinelaw05.LockKeeps': WHATEVER THE INPUT: true; the input reads as it did. -/
def lockKeepsSpec : ChangeSpec := { name := "lockKeeps", fn := fun _ => fun
  | [d1, d2] => { results := [.lit (.bool true)], args := [d1, d2] }
  | _ => none }
def lockKeepsRow : OpenClaim := { program := "ytfidfemeapgelaagreat", sum := "3bf011ed2a63b83ab2f319d85d41d2edd3ab9f90fd8d80eede4b3a83f16e8750", func := "tramline/tramlinelaw05.LockKeeps", spec := "lockKeeps", inPlace := ["math.sqrt"], unfollowed := true, recurses := true, plainKeys := false, apart := false }
def LockKeepsSaid : Prop := lockKeepsRow.holds Tryz.pinned (OpenSpec.ofChange lockKeepsSpec)

/-- ITS FALSE NEIGHBOUR: 'it returns false'. Refute it at one input. -/
def lockKeepsWrong : ChangeSpec := { name := "lockKeeps", fn := fun _ => fun
  | [d1, d2] => { results := [.lit (.bool false)], args := [d1, d2] }
  | _ => none }
def LockKeepsWrongFalsely : Prop := lockKeepsRow.holds Tryz.pinned (OpenSpec.ofChange lockKeepsWrong)

/-- 'tramlinelaw06.StreetNil': WHATEVER THE INPUT: true; the input reads as it did. -/
def streetNilSpec : ChangeSpec := { name := "streetNil", fn := fun _ => fun
  | [d1, d2, d3] => { results := [.lit (.bool true)], args := [d1, d2, d3] }
  | _ => none }
def streetNilRow : OpenClaim := { program := "ytfidfemeapgelaagreat", sum := "3bf011ed2a63b83ab2f319d85d41d2edd3ab9f90fd8d80eede4b3a83f16e8750", func := "tramline/tramlinelaw06.StreetNil", spec := "streetNil", inPlace := ["math.sqrt"], unfollowed := true, recurses := true, plainKeys := false, apart := false }
def StreetNilSaid : Prop := streetNilRow.holds Tryz.pinned (OpenSpec.ofChange streetNilSpec)

/-- ITS FALSE NEIGHBOUR: 'it returns false'. Refute it at one input. -/
def streetNilWrong : ChangeSpec := { name := "streetNil", fn := fun _ => fun
  | [d1, d2, d3] => { results := [.lit (.bool false)], args := [d1, d2, d3] }
  | _ => none }
def StreetNilWrongFalsely : Prop := streetNilRow.holds Tryz.pinned (OpenSpec.ofChange streetNilWrong)

/-- 'tramlinelaw06.StreetAsks': WHATEVER THE INPUT: true; the input reads as it did. -/
def streetAsksSpec : ChangeSpec := { name := "streetAsks", fn := fun _ => fun
  | [d1, d2, d3, d4, d5] => { results := [.lit (.bool true)], args := [d1, d2, d3, d4, d5] }
  | _ => none }
def streetAsksRow : OpenClaim := { program := "ytfidfemeapgelaagreat", sum := "3bf011ed2a63b83ab2f319d85d41d2edd3ab9f90fd8d80eede4b3a83f16e8750", func := "tramline/tramlinelaw06.StreetAsks", spec := "streetAsks", inPlace := ["math.sqrt"], unfollowed := true, recurses := true, plainKeys := false, apart := false }
def StreetAsksSaid : Prop := streetAsksRow.holds Tryz.pinned (OpenSpec.ofChange streetAsksSpec)

/-- ITS FALSE NEIGHBOUR: 'it returns false'. Refute it at one input. -/
def streetAsksWrong : ChangeSpec := { name := "streetAsks", fn := fun _ => fun
  | [d1, d2, d3, d4, d5] => { results := [.lit (.bool false)], args := [d1, d2, d3, d4, d5] }
  | _ => none }
def StreetAsksWrongFalsely : Prop := streetAsksRow.holds Tryz.pinned (OpenSpec.ofChange streetAsksWrong)

/-- 'tramlinetop.TopStrangers': WHATEVER THE INPUT: true; the input reads as it did. -/
def topStrangersSpec : ChangeSpec := { name := "topStrangers", fn := fun _ => fun
  | [d1, d2, d3] => { results := [.lit (.bool true)], args := [d1, d2, d3] }
  | _ => none }
def topStrangersRow : OpenClaim := { program := "ytfidfemeapgelaagreat", sum := "3bf011ed2a63b83ab2f319d85d41d2edd3ab9f90fd8d80eede4b3a83f16e8750", func := "tramline/tramlinetop.TopStrangers", spec := "topStrangers", inPlace := ["math.sqrt"], unfollowed := true, recurses := true, plainKeys := false, apart := false }
def TopStrangersSaid : Prop := topStrangersRow.holds Tryz.pinned (OpenSpec.ofChange topStrangersSpec)

/-- ITS FALSE NEIGHBOUR: 'it returns false'. Refute it at one input. -/
def topStrangersWrong : ChangeSpec := { name := "topStrangers", fn := fun _ => fun
  | [d1, d2, d3] => { results := [.lit (.bool false)], args := [d1, d2, d3] }
  | _ => none }
def TopStrangersWrongFalsely : Prop := topStrangersRow.holds Tryz.pinned (OpenSpec.ofChange topStrangersWrong)

/-- 'tramlinetop.TopClear': WHATEVER THE INPUT: true; the input reads as it did. -/
def topClearSpec : ChangeSpec := { name := "topClear", fn := fun _ => fun
  | [d1, d2, d3, d4] => { results := [.lit (.bool true)], args := [d1, d2, d3, d4] }
  | _ => none }
def topClearRow : OpenClaim := { program := "ytfidfemeapgelaagreat", sum := "3bf011ed2a63b83ab2f319d85d41d2edd3ab9f90fd8d80eede4b3a83f16e8750", func := "tramline/tramlinetop.TopClear", spec := "topClear", inPlace := ["math.sqrt"], unfollowed := true, recurses := true, plainKeys := false, apart := false }
def TopClearSaid : Prop := topClearRow.holds Tryz.pinned (OpenSpec.ofChange topClearSpec)

/-- ITS FALSE NEIGHBOUR: 'it returns false'. Refute it at one input. -/
def topClearWrong : ChangeSpec := { name := "topClear", fn := fun _ => fun
  | [d1, d2, d3, d4] => { results := [.lit (.bool false)], args := [d1, d2, d3, d4] }
  | _ => none }
def TopClearWrongFalsely : Prop := topClearRow.holds Tryz.pinned (OpenSpec.ofChange topClearWrong)

/-- 'tramlinetop.TopRoutes': WHATEVER THE INPUT: true; the input reads as it did. -/
def topRoutesSpec : ChangeSpec := { name := "topRoutes", fn := fun _ => fun
  | [d1, d2, d3, d4, d5] => { results := [.lit (.bool true)], args := [d1, d2, d3, d4, d5] }
  | _ => none }
def topRoutesRow : OpenClaim := { program := "ytfidfemeapgelaagreat", sum := "3bf011ed2a63b83ab2f319d85d41d2edd3ab9f90fd8d80eede4b3a83f16e8750", func := "tramline/tramlinetop.TopRoutes", spec := "topRoutes", inPlace := ["math.sqrt"], unfollowed := true, recurses := true, plainKeys := false, apart := false }
def TopRoutesSaid : Prop := topRoutesRow.holds Tryz.pinned (OpenSpec.ofChange topRoutesSpec)

/-- ITS FALSE NEIGHBOUR: 'it returns false'. Refute it at one input. -/
def topRoutesWrong : ChangeSpec := { name := "topRoutes", fn := fun _ => fun
  | [d1, d2, d3, d4, d5] => { results := [.lit (.bool false)], args := [d1, d2, d3, d4, d5] }
  | _ => none }
def TopRoutesWrongFalsely : Prop := topRoutesRow.holds Tryz.pinned (OpenSpec.ofChange topRoutesWrong)

/-- 'tramlinetop.TopGate': WHATEVER THE INPUT: true; the input reads as it did. -/
def topGateSpec : ChangeSpec := { name := "topGate", fn := fun _ => fun
  | [d1, d2, d3, d4] => { results := [.lit (.bool true)], args := [d1, d2, d3, d4] }
  | _ => none }
def topGateRow : OpenClaim := { program := "ytfidfemeapgelaagreat", sum := "3bf011ed2a63b83ab2f319d85d41d2edd3ab9f90fd8d80eede4b3a83f16e8750", func := "tramline/tramlinetop.TopGate", spec := "topGate", inPlace := ["math.sqrt"], unfollowed := true, recurses := true, plainKeys := false, apart := false }
def TopGateSaid : Prop := topGateRow.holds Tryz.pinned (OpenSpec.ofChange topGateSpec)

/-- ITS FALSE NEIGHBOUR: 'it returns false'. Refute it at one input. -/
def topGateWrong : ChangeSpec := { name := "topGate", fn := fun _ => fun
  | [d1, d2, d3, d4] => { results := [.lit (.bool false)], args := [d1, d2, d3, d4] }
  | _ => none }
def TopGateWrongFalsely : Prop := topGateRow.holds Tryz.pinned (OpenSpec.ofChange topGateWrong)

/- THE SECOND FORM. 'bulk': how many values and letters a reading holds, each counted each time it is reached (what is shared counts as often as it is met; a slice's spare places count too). A statement '..UptoSaid' is the law's where the arguments, and the package variables that the reading takes, are together of bulk at most 1048576: NARROWER than '..Said'. Prove '..Said' where nothing that the law and all that it calls make is longer than what came in: it says more and counts as full. Else prove '..UptoSaid'. A law counts once. -/
mutual
def uptoBulk {H : Type} : DataW H → Nat
  | .lit (.string bytes) => bytes.length + 1
  | .lit _ => 1
  | .nil => 1
  | .ptr d => uptoBulk d + 1
  | .slice elems spare => uptoBulkAll elems + uptoBulkAll spare + 1
  | .agg parts => uptoBulkAll parts + 1
  | .iface _ d => uptoBulk d + 1
  | .map entries => uptoBulkEntries entries + 1
  | .held _ => 1
def uptoBulkAll {H : Type} : List (DataW H) → Nat
  | [] => 0
  | d :: r => uptoBulk d + uptoBulkAll r
def uptoBulkEntries {H : Type} : List (Lit × DataW H) → Nat
  | [] => 0
  | x :: r => uptoBulkEntry x + uptoBulkEntries r
def uptoBulkEntry {H : Type} : Lit × DataW H → Nat
  | (.string bytes, d) => bytes.length + uptoBulk d + 1
  | (_, d) => uptoBulk d + 1
 end
def uptoSmall : (H : Type) → List (DataW H) → Bool := fun _ ds => decide (uptoBulkAll ds ≤ 1048576)
def OpenSpec.upto (s : _root_.Go.ChangeSpec) : _root_.Go.OpenSpec := { _root_.Go.OpenSpec.ofChange s with cond := some uptoSmall }

/-- 'tramlinelaw05.LockChecks', WHERE WHAT IT READS IS OF BULK AT MOST 1048576: true; the input reads as it did. -/
def lockChecksUptoRow : OpenClaim := { program := "ytfidfemeapgelaagreat", sum := "3bf011ed2a63b83ab2f319d85d41d2edd3ab9f90fd8d80eede4b3a83f16e8750", func := "tramline/tramlinelaw05.LockChecks", spec := "lockChecks", inPlace := ["math.sqrt"], unfollowed := true, recurses := true, plainKeys := false, apart := false, narrowed := true }
def LockChecksUptoSaid : Prop := lockChecksUptoRow.holds Tryz.pinned (OpenSpec.upto lockChecksSpec)

/-- 'tramlinelaw05.LockSafe', WHERE WHAT IT READS IS OF BULK AT MOST 1048576: true; the input reads as it did. -/
def lockSafeUptoRow : OpenClaim := { program := "ytfidfemeapgelaagreat", sum := "3bf011ed2a63b83ab2f319d85d41d2edd3ab9f90fd8d80eede4b3a83f16e8750", func := "tramline/tramlinelaw05.LockSafe", spec := "lockSafe", inPlace := ["math.sqrt"], unfollowed := true, recurses := true, plainKeys := false, apart := false, narrowed := true }
def LockSafeUptoSaid : Prop := lockSafeUptoRow.holds Tryz.pinned (OpenSpec.upto lockSafeSpec)

/-- 'tramlinelaw05.LockYields', WHERE WHAT IT READS IS OF BULK AT MOST 1048576: true; the input reads as it did. -/
def lockYieldsUptoRow : OpenClaim := { program := "ytfidfemeapgelaagreat", sum := "3bf011ed2a63b83ab2f319d85d41d2edd3ab9f90fd8d80eede4b3a83f16e8750", func := "tramline/tramlinelaw05.LockYields", spec := "lockYields", inPlace := ["math.sqrt"], unfollowed := true, recurses := true, plainKeys := false, apart := false, narrowed := true }
def LockYieldsUptoSaid : Prop := lockYieldsUptoRow.holds Tryz.pinned (OpenSpec.upto lockYieldsSpec)

/-- 'tramlinelaw05.LockPlays', WHERE WHAT IT READS IS OF BULK AT MOST 1048576: true; the input reads as it did. -/
def lockPlaysUptoRow : OpenClaim := { program := "ytfidfemeapgelaagreat", sum := "3bf011ed2a63b83ab2f319d85d41d2edd3ab9f90fd8d80eede4b3a83f16e8750", func := "tramline/tramlinelaw05.LockPlays", spec := "lockPlays", inPlace := ["math.sqrt"], unfollowed := true, recurses := true, plainKeys := false, apart := false, narrowed := true }
def LockPlaysUptoSaid : Prop := lockPlaysUptoRow.holds Tryz.pinned (OpenSpec.upto lockPlaysSpec)

/-- 'tramlinelaw05.LockKeeps', WHERE WHAT IT READS IS OF BULK AT MOST 1048576: true; the input reads as it did. -/
def lockKeepsUptoRow : OpenClaim := { program := "ytfidfemeapgelaagreat", sum := "3bf011ed2a63b83ab2f319d85d41d2edd3ab9f90fd8d80eede4b3a83f16e8750", func := "tramline/tramlinelaw05.LockKeeps", spec := "lockKeeps", inPlace := ["math.sqrt"], unfollowed := true, recurses := true, plainKeys := false, apart := false, narrowed := true }
def LockKeepsUptoSaid : Prop := lockKeepsUptoRow.holds Tryz.pinned (OpenSpec.upto lockKeepsSpec)

/-- 'tramlinelaw06.StreetNil', WHERE WHAT IT READS IS OF BULK AT MOST 1048576: true; the input reads as it did. -/
def streetNilUptoRow : OpenClaim := { program := "ytfidfemeapgelaagreat", sum := "3bf011ed2a63b83ab2f319d85d41d2edd3ab9f90fd8d80eede4b3a83f16e8750", func := "tramline/tramlinelaw06.StreetNil", spec := "streetNil", inPlace := ["math.sqrt"], unfollowed := true, recurses := true, plainKeys := false, apart := false, narrowed := true }
def StreetNilUptoSaid : Prop := streetNilUptoRow.holds Tryz.pinned (OpenSpec.upto streetNilSpec)

/-- 'tramlinelaw06.StreetAsks', WHERE WHAT IT READS IS OF BULK AT MOST 1048576: true; the input reads as it did. -/
def streetAsksUptoRow : OpenClaim := { program := "ytfidfemeapgelaagreat", sum := "3bf011ed2a63b83ab2f319d85d41d2edd3ab9f90fd8d80eede4b3a83f16e8750", func := "tramline/tramlinelaw06.StreetAsks", spec := "streetAsks", inPlace := ["math.sqrt"], unfollowed := true, recurses := true, plainKeys := false, apart := false, narrowed := true }
def StreetAsksUptoSaid : Prop := streetAsksUptoRow.holds Tryz.pinned (OpenSpec.upto streetAsksSpec)

/-- 'tramlinetop.TopStrangers', WHERE WHAT IT READS IS OF BULK AT MOST 1048576: true; the input reads as it did. -/
def topStrangersUptoRow : OpenClaim := { program := "ytfidfemeapgelaagreat", sum := "3bf011ed2a63b83ab2f319d85d41d2edd3ab9f90fd8d80eede4b3a83f16e8750", func := "tramline/tramlinetop.TopStrangers", spec := "topStrangers", inPlace := ["math.sqrt"], unfollowed := true, recurses := true, plainKeys := false, apart := false, narrowed := true }
def TopStrangersUptoSaid : Prop := topStrangersUptoRow.holds Tryz.pinned (OpenSpec.upto topStrangersSpec)

/-- 'tramlinetop.TopClear', WHERE WHAT IT READS IS OF BULK AT MOST 1048576: true; the input reads as it did. -/
def topClearUptoRow : OpenClaim := { program := "ytfidfemeapgelaagreat", sum := "3bf011ed2a63b83ab2f319d85d41d2edd3ab9f90fd8d80eede4b3a83f16e8750", func := "tramline/tramlinetop.TopClear", spec := "topClear", inPlace := ["math.sqrt"], unfollowed := true, recurses := true, plainKeys := false, apart := false, narrowed := true }
def TopClearUptoSaid : Prop := topClearUptoRow.holds Tryz.pinned (OpenSpec.upto topClearSpec)

/-- 'tramlinetop.TopRoutes', WHERE WHAT IT READS IS OF BULK AT MOST 1048576: true; the input reads as it did. -/
def topRoutesUptoRow : OpenClaim := { program := "ytfidfemeapgelaagreat", sum := "3bf011ed2a63b83ab2f319d85d41d2edd3ab9f90fd8d80eede4b3a83f16e8750", func := "tramline/tramlinetop.TopRoutes", spec := "topRoutes", inPlace := ["math.sqrt"], unfollowed := true, recurses := true, plainKeys := false, apart := false, narrowed := true }
def TopRoutesUptoSaid : Prop := topRoutesUptoRow.holds Tryz.pinned (OpenSpec.upto topRoutesSpec)

/-- 'tramlinetop.TopGate', WHERE WHAT IT READS IS OF BULK AT MOST 1048576: true; the input reads as it did. -/
def topGateUptoRow : OpenClaim := { program := "ytfidfemeapgelaagreat", sum := "3bf011ed2a63b83ab2f319d85d41d2edd3ab9f90fd8d80eede4b3a83f16e8750", func := "tramline/tramlinetop.TopGate", spec := "topGate", inPlace := ["math.sqrt"], unfollowed := true, recurses := true, plainKeys := false, apart := false, narrowed := true }
def TopGateUptoSaid : Prop := topGateUptoRow.holds Tryz.pinned (OpenSpec.upto topGateSpec)

end Rows
end Go.Proofs.YtfidfemeapgelaaGreat
