/-
  No cell of these rows narrows 'for every input' (looked for: loops, veiled, ifaces, maps, wideKeys, modest, calm, conditions, laid).
  DERIVED. THE GIVEN ROWS OF THIS SEAT. 10 by the template 'for every input the law returns true; each argument reads behind the call as it read before'; 0 by the template 'total and deterministic' (their statements: YtdabjdajemiagaaGreatTotals.lean).
  GIVEN WITH THE SEED: the statements are not yours to turn. If you find one false, say at which input.
  Laid BY PROGRAM, IN A SANDBOX (cutbox-rows.mjs): the forced cells as the released guide's own fill.sh prints them over the translation bac17e708a229785… (all of the seat's roots in one cut). By AI agents, Wed Nov 11 2026. No macro, syntax, notation, axiom, sorry.
-/
import Derived.Test.YtdabjdajemiagaaGreatChecked
import GoSem.Claim
import GoSem.ClaimJoined
import GoSem.ClaimMapViews
import Derived.JoinedTies
import Derived.KernelRfl
namespace Go.Proofs.YtdabjdajemiagaaGreat
/- THE CELL 'sum', in the pinned program and in every row, IS THE sha256 OF THE DUMP (.gsa) THAT YtdabjdajemiagaaGreatProg.lean LOADS. Nothing in Lean hashes anything: it is a label: what it is worth is what the hold of that sum in a sandbox is worth. -/
noncomputable def Tryz.pinned : Pinned := { name := "ytdabjdajemiagaagreat", sum := "bac17e708a229785bf40f7083a4366a9659c8d9e9f0e9b833e145b3e345c96f0", checked := Tryz.checked }
namespace Rows
def none {H : Type} : Left H := { results := [], args := [] }

/-- 'tramlinelaw01.TrackNext': WHATEVER THE INPUT: true; the input reads as it did. -/
def trackNextSpec : ChangeSpec := { name := "trackNext", fn := fun _ => fun
  | [d1, d2, d3] => { results := [.lit (.bool true)], args := [d1, d2, d3] }
  | _ => none }
def trackNextRow : OpenClaim := { program := "ytdabjdajemiagaagreat", sum := "bac17e708a229785bf40f7083a4366a9659c8d9e9f0e9b833e145b3e345c96f0", func := "tramline/tramlinelaw01.TrackNext", spec := "trackNext", inPlace := ["math.sqrt"], unfollowed := true, recurses := true, plainKeys := false, apart := false }
def TrackNextSaid : Prop := trackNextRow.holds Tryz.pinned (OpenSpec.ofChange trackNextSpec)

/-- ITS FALSE NEIGHBOUR: 'it returns false'. Refute it at one input. -/
def trackNextWrong : ChangeSpec := { name := "trackNext", fn := fun _ => fun
  | [d1, d2, d3] => { results := [.lit (.bool false)], args := [d1, d2, d3] }
  | _ => none }
def TrackNextWrongFalsely : Prop := trackNextRow.holds Tryz.pinned (OpenSpec.ofChange trackNextWrong)

/-- 'tramlinelaw01.TrackBack': WHATEVER THE INPUT: true; the input reads as it did. -/
def trackBackSpec : ChangeSpec := { name := "trackBack", fn := fun _ => fun
  | [d1, d2, d3] => { results := [.lit (.bool true)], args := [d1, d2, d3] }
  | _ => none }
def trackBackRow : OpenClaim := { program := "ytdabjdajemiagaagreat", sum := "bac17e708a229785bf40f7083a4366a9659c8d9e9f0e9b833e145b3e345c96f0", func := "tramline/tramlinelaw01.TrackBack", spec := "trackBack", inPlace := ["math.sqrt"], unfollowed := true, recurses := true, plainKeys := false, apart := false }
def TrackBackSaid : Prop := trackBackRow.holds Tryz.pinned (OpenSpec.ofChange trackBackSpec)

/-- ITS FALSE NEIGHBOUR: 'it returns false'. Refute it at one input. -/
def trackBackWrong : ChangeSpec := { name := "trackBack", fn := fun _ => fun
  | [d1, d2, d3] => { results := [.lit (.bool false)], args := [d1, d2, d3] }
  | _ => none }
def TrackBackWrongFalsely : Prop := trackBackRow.holds Tryz.pinned (OpenSpec.ofChange trackBackWrong)

/-- 'tramlinelaw01.TrackProved': WHATEVER THE INPUT: true; the input reads as it did. -/
def trackProvedSpec : ChangeSpec := { name := "trackProved", fn := fun _ => fun
  | [d1, d2] => { results := [.lit (.bool true)], args := [d1, d2] }
  | _ => none }
def trackProvedRow : OpenClaim := { program := "ytdabjdajemiagaagreat", sum := "bac17e708a229785bf40f7083a4366a9659c8d9e9f0e9b833e145b3e345c96f0", func := "tramline/tramlinelaw01.TrackProved", spec := "trackProved", inPlace := ["math.sqrt"], unfollowed := true, recurses := true, plainKeys := false, apart := false }
def TrackProvedSaid : Prop := trackProvedRow.holds Tryz.pinned (OpenSpec.ofChange trackProvedSpec)

/-- ITS FALSE NEIGHBOUR: 'it returns false'. Refute it at one input. -/
def trackProvedWrong : ChangeSpec := { name := "trackProved", fn := fun _ => fun
  | [d1, d2] => { results := [.lit (.bool false)], args := [d1, d2] }
  | _ => none }
def TrackProvedWrongFalsely : Prop := trackProvedRow.holds Tryz.pinned (OpenSpec.ofChange trackProvedWrong)

/-- 'tramlinelaw01.TrackWays': WHATEVER THE INPUT: true; the input reads as it did. -/
def trackWaysSpec : ChangeSpec := { name := "trackWays", fn := fun _ => fun
  | [d1, d2, d3, d4] => { results := [.lit (.bool true)], args := [d1, d2, d3, d4] }
  | _ => none }
def trackWaysRow : OpenClaim := { program := "ytdabjdajemiagaagreat", sum := "bac17e708a229785bf40f7083a4366a9659c8d9e9f0e9b833e145b3e345c96f0", func := "tramline/tramlinelaw01.TrackWays", spec := "trackWays", inPlace := ["math.sqrt"], unfollowed := true, recurses := true, plainKeys := false, apart := false }
def TrackWaysSaid : Prop := trackWaysRow.holds Tryz.pinned (OpenSpec.ofChange trackWaysSpec)

/-- ITS FALSE NEIGHBOUR: 'it returns false'. Refute it at one input. -/
def trackWaysWrong : ChangeSpec := { name := "trackWays", fn := fun _ => fun
  | [d1, d2, d3, d4] => { results := [.lit (.bool false)], args := [d1, d2, d3, d4] }
  | _ => none }
def TrackWaysWrongFalsely : Prop := trackWaysRow.holds Tryz.pinned (OpenSpec.ofChange trackWaysWrong)

/-- 'tramlinelaw01.TrackTurned': WHATEVER THE INPUT: true; the input reads as it did. -/
def trackTurnedSpec : ChangeSpec := { name := "trackTurned", fn := fun _ => fun
  | [d1, d2, d3] => { results := [.lit (.bool true)], args := [d1, d2, d3] }
  | _ => none }
def trackTurnedRow : OpenClaim := { program := "ytdabjdajemiagaagreat", sum := "bac17e708a229785bf40f7083a4366a9659c8d9e9f0e9b833e145b3e345c96f0", func := "tramline/tramlinelaw01.TrackTurned", spec := "trackTurned", inPlace := ["math.sqrt"], unfollowed := true, recurses := true, plainKeys := false, apart := false }
def TrackTurnedSaid : Prop := trackTurnedRow.holds Tryz.pinned (OpenSpec.ofChange trackTurnedSpec)

/-- ITS FALSE NEIGHBOUR: 'it returns false'. Refute it at one input. -/
def trackTurnedWrong : ChangeSpec := { name := "trackTurned", fn := fun _ => fun
  | [d1, d2, d3] => { results := [.lit (.bool false)], args := [d1, d2, d3] }
  | _ => none }
def TrackTurnedWrongFalsely : Prop := trackTurnedRow.holds Tryz.pinned (OpenSpec.ofChange trackTurnedWrong)

/-- 'tramlinelaw01.TrackForever': WHATEVER THE INPUT: true; the input reads as it did. -/
def trackForeverSpec : ChangeSpec := { name := "trackForever", fn := fun _ => fun
  | [d1, d2] => { results := [.lit (.bool true)], args := [d1, d2] }
  | _ => none }
def trackForeverRow : OpenClaim := { program := "ytdabjdajemiagaagreat", sum := "bac17e708a229785bf40f7083a4366a9659c8d9e9f0e9b833e145b3e345c96f0", func := "tramline/tramlinelaw01.TrackForever", spec := "trackForever", inPlace := ["math.sqrt"], unfollowed := true, recurses := true, plainKeys := false, apart := false }
def TrackForeverSaid : Prop := trackForeverRow.holds Tryz.pinned (OpenSpec.ofChange trackForeverSpec)

/-- ITS FALSE NEIGHBOUR: 'it returns false'. Refute it at one input. -/
def trackForeverWrong : ChangeSpec := { name := "trackForever", fn := fun _ => fun
  | [d1, d2] => { results := [.lit (.bool false)], args := [d1, d2] }
  | _ => none }
def TrackForeverWrongFalsely : Prop := trackForeverRow.holds Tryz.pinned (OpenSpec.ofChange trackForeverWrong)

/-- 'tramlinelaw01.TrackEndless': WHATEVER THE INPUT: true; the input reads as it did. -/
def trackEndlessSpec : ChangeSpec := { name := "trackEndless", fn := fun _ => fun
  | [d1, d2] => { results := [.lit (.bool true)], args := [d1, d2] }
  | _ => none }
def trackEndlessRow : OpenClaim := { program := "ytdabjdajemiagaagreat", sum := "bac17e708a229785bf40f7083a4366a9659c8d9e9f0e9b833e145b3e345c96f0", func := "tramline/tramlinelaw01.TrackEndless", spec := "trackEndless", inPlace := ["math.sqrt"], unfollowed := true, recurses := true, plainKeys := false, apart := false }
def TrackEndlessSaid : Prop := trackEndlessRow.holds Tryz.pinned (OpenSpec.ofChange trackEndlessSpec)

/-- ITS FALSE NEIGHBOUR: 'it returns false'. Refute it at one input. -/
def trackEndlessWrong : ChangeSpec := { name := "trackEndless", fn := fun _ => fun
  | [d1, d2] => { results := [.lit (.bool false)], args := [d1, d2] }
  | _ => none }
def TrackEndlessWrongFalsely : Prop := trackEndlessRow.holds Tryz.pinned (OpenSpec.ofChange trackEndlessWrong)

/-- 'tramlinelaw01.TrackDistances': WHATEVER THE INPUT: true; the input reads as it did. -/
def trackDistancesSpec : ChangeSpec := { name := "trackDistances", fn := fun _ => fun
  | [d1, d2, d3, d4] => { results := [.lit (.bool true)], args := [d1, d2, d3, d4] }
  | _ => none }
def trackDistancesRow : OpenClaim := { program := "ytdabjdajemiagaagreat", sum := "bac17e708a229785bf40f7083a4366a9659c8d9e9f0e9b833e145b3e345c96f0", func := "tramline/tramlinelaw01.TrackDistances", spec := "trackDistances", inPlace := ["math.sqrt"], unfollowed := true, recurses := true, plainKeys := false, apart := false }
def TrackDistancesSaid : Prop := trackDistancesRow.holds Tryz.pinned (OpenSpec.ofChange trackDistancesSpec)

/-- ITS FALSE NEIGHBOUR: 'it returns false'. Refute it at one input. -/
def trackDistancesWrong : ChangeSpec := { name := "trackDistances", fn := fun _ => fun
  | [d1, d2, d3, d4] => { results := [.lit (.bool false)], args := [d1, d2, d3, d4] }
  | _ => none }
def TrackDistancesWrongFalsely : Prop := trackDistancesRow.holds Tryz.pinned (OpenSpec.ofChange trackDistancesWrong)

/-- 'tramlinelaw01.TrackShortest': WHATEVER THE INPUT: true; the input reads as it did. -/
def trackShortestSpec : ChangeSpec := { name := "trackShortest", fn := fun _ => fun
  | [d1, d2, d3, d4] => { results := [.lit (.bool true)], args := [d1, d2, d3, d4] }
  | _ => none }
def trackShortestRow : OpenClaim := { program := "ytdabjdajemiagaagreat", sum := "bac17e708a229785bf40f7083a4366a9659c8d9e9f0e9b833e145b3e345c96f0", func := "tramline/tramlinelaw01.TrackShortest", spec := "trackShortest", inPlace := ["math.sqrt"], unfollowed := true, recurses := true, plainKeys := false, apart := false }
def TrackShortestSaid : Prop := trackShortestRow.holds Tryz.pinned (OpenSpec.ofChange trackShortestSpec)

/-- ITS FALSE NEIGHBOUR: 'it returns false'. Refute it at one input. -/
def trackShortestWrong : ChangeSpec := { name := "trackShortest", fn := fun _ => fun
  | [d1, d2, d3, d4] => { results := [.lit (.bool false)], args := [d1, d2, d3, d4] }
  | _ => none }
def TrackShortestWrongFalsely : Prop := trackShortestRow.holds Tryz.pinned (OpenSpec.ofChange trackShortestWrong)

/-- 'tramlinelaw01.TrackRefuses': WHATEVER THE INPUT: true; the input reads as it did. -/
def trackRefusesSpec : ChangeSpec := { name := "trackRefuses", fn := fun _ => fun
  | [d1, d2] => { results := [.lit (.bool true)], args := [d1, d2] }
  | _ => none }
def trackRefusesRow : OpenClaim := { program := "ytdabjdajemiagaagreat", sum := "bac17e708a229785bf40f7083a4366a9659c8d9e9f0e9b833e145b3e345c96f0", func := "tramline/tramlinelaw01.TrackRefuses", spec := "trackRefuses", inPlace := ["math.sqrt"], unfollowed := true, recurses := true, plainKeys := false, apart := false }
def TrackRefusesSaid : Prop := trackRefusesRow.holds Tryz.pinned (OpenSpec.ofChange trackRefusesSpec)

/-- ITS FALSE NEIGHBOUR: 'it returns false'. Refute it at one input. -/
def trackRefusesWrong : ChangeSpec := { name := "trackRefuses", fn := fun _ => fun
  | [d1, d2] => { results := [.lit (.bool false)], args := [d1, d2] }
  | _ => none }
def TrackRefusesWrongFalsely : Prop := trackRefusesRow.holds Tryz.pinned (OpenSpec.ofChange trackRefusesWrong)

/- THE SECOND FORM. 'bulk': how many values and letters a reading holds, each counted each time it is reached (what is shared counts as often as it is met; a slice's spare places count too). A statement '..UptoSaid' is the law's where the arguments, and the package variables that the reading takes, are together of bulk at most 1048576: NARROWER than '..Said'. Prove '..Said' where nothing that the law and all that it calls make is longer than what came in: it says more and counts as full. Else prove '..UptoSaid'. A law counts once. -/
mutual
def uptoBulk {H : Type} : DataW H → Nat
  | .lit (.string bytes) => bytes.length + 1
  | .lit _ => 1
  | .nil => 1
  | .ptr d => uptoBulk d + 1
  | .slice elems spare => uptoBulkAll elems + uptoBulkAll spare + 1
  | .agg parts => uptoBulkAll parts + 1
  | .iface _ d => uptoBulk d + 1
  | .map entries => uptoBulkEntries entries + 1
  | .held _ => 1
def uptoBulkAll {H : Type} : List (DataW H) → Nat
  | [] => 0
  | d :: r => uptoBulk d + uptoBulkAll r
def uptoBulkEntries {H : Type} : List (Lit × DataW H) → Nat
  | [] => 0
  | x :: r => uptoBulkEntry x + uptoBulkEntries r
def uptoBulkEntry {H : Type} : Lit × DataW H → Nat
  | (.string bytes, d) => bytes.length + uptoBulk d + 1
  | (_, d) => uptoBulk d + 1
 end
def uptoSmall : (H : Type) → List (DataW H) → Bool := fun _ ds => decide (uptoBulkAll ds ≤ 1048576)
def OpenSpec.upto (s : _root_.Go.ChangeSpec) : _root_.Go.OpenSpec := { _root_.Go.OpenSpec.ofChange s with cond := some uptoSmall }

/-- 'tramlinelaw01.TrackNext', WHERE WHAT IT READS IS OF BULK AT MOST 1048576: true; the input reads as it did. -/
def trackNextUptoRow : OpenClaim := { program := "ytdabjdajemiagaagreat", sum := "bac17e708a229785bf40f7083a4366a9659c8d9e9f0e9b833e145b3e345c96f0", func := "tramline/tramlinelaw01.TrackNext", spec := "trackNext", inPlace := ["math.sqrt"], unfollowed := true, recurses := true, plainKeys := false, apart := false, narrowed := true }
def TrackNextUptoSaid : Prop := trackNextUptoRow.holds Tryz.pinned (OpenSpec.upto trackNextSpec)

/-- 'tramlinelaw01.TrackBack', WHERE WHAT IT READS IS OF BULK AT MOST 1048576: true; the input reads as it did. -/
def trackBackUptoRow : OpenClaim := { program := "ytdabjdajemiagaagreat", sum := "bac17e708a229785bf40f7083a4366a9659c8d9e9f0e9b833e145b3e345c96f0", func := "tramline/tramlinelaw01.TrackBack", spec := "trackBack", inPlace := ["math.sqrt"], unfollowed := true, recurses := true, plainKeys := false, apart := false, narrowed := true }
def TrackBackUptoSaid : Prop := trackBackUptoRow.holds Tryz.pinned (OpenSpec.upto trackBackSpec)

/-- 'tramlinelaw01.TrackProved', WHERE WHAT IT READS IS OF BULK AT MOST 1048576: true; the input reads as it did. -/
def trackProvedUptoRow : OpenClaim := { program := "ytdabjdajemiagaagreat", sum := "bac17e708a229785bf40f7083a4366a9659c8d9e9f0e9b833e145b3e345c96f0", func := "tramline/tramlinelaw01.TrackProved", spec := "trackProved", inPlace := ["math.sqrt"], unfollowed := true, recurses := true, plainKeys := false, apart := false, narrowed := true }
def TrackProvedUptoSaid : Prop := trackProvedUptoRow.holds Tryz.pinned (OpenSpec.upto trackProvedSpec)

/-- 'tramlinelaw01.TrackWays', WHERE WHAT IT READS IS OF BULK AT MOST 1048576: true; the input reads as it did. -/
def trackWaysUptoRow : OpenClaim := { program := "ytdabjdajemiagaagreat", sum := "bac17e708a229785bf40f7083a4366a9659c8d9e9f0e9b833e145b3e345c96f0", func := "tramline/tramlinelaw01.TrackWays", spec := "trackWays", inPlace := ["math.sqrt"], unfollowed := true, recurses := true, plainKeys := false, apart := false, narrowed := true }
def TrackWaysUptoSaid : Prop := trackWaysUptoRow.holds Tryz.pinned (OpenSpec.upto trackWaysSpec)

/-- 'tramlinelaw01.TrackTurned', WHERE WHAT IT READS IS OF BULK AT MOST 1048576: true; the input reads as it did. -/
def trackTurnedUptoRow : OpenClaim := { program := "ytdabjdajemiagaagreat", sum := "bac17e708a229785bf40f7083a4366a9659c8d9e9f0e9b833e145b3e345c96f0", func := "tramline/tramlinelaw01.TrackTurned", spec := "trackTurned", inPlace := ["math.sqrt"], unfollowed := true, recurses := true, plainKeys := false, apart := false, narrowed := true }
def TrackTurnedUptoSaid : Prop := trackTurnedUptoRow.holds Tryz.pinned (OpenSpec.upto trackTurnedSpec)

/-- 'tramlinelaw01.TrackForever', WHERE WHAT IT READS IS OF BULK AT MOST 1048576: true; the input reads as it did. -/
def trackForeverUptoRow : OpenClaim := { program := "ytdabjdajemiagaagreat", sum := "bac17e708a229785bf40f7083a4366a9659c8d9e9f0e9b833e145b3e345c96f0", func := "tramline/tramlinelaw01.TrackForever", spec := "trackForever", inPlace := ["math.sqrt"], unfollowed := true, recurses := true, plainKeys := false, apart := false, narrowed := true }
def TrackForeverUptoSaid : Prop := trackForeverUptoRow.holds Tryz.pinned (OpenSpec.upto trackForeverSpec)

/-- 'tramlinelaw01.TrackEndless', WHERE WHAT IT READS IS OF BULK AT MOST 1048576: true; the input reads as it did. -/
def trackEndlessUptoRow : OpenClaim := { program := "ytdabjdajemiagaagreat", sum := "bac17e708a229785bf40f7083a4366a9659c8d9e9f0e9b833e145b3e345c96f0", func := "tramline/tramlinelaw01.TrackEndless", spec := "trackEndless", inPlace := ["math.sqrt"], unfollowed := true, recurses := true, plainKeys := false, apart := false, narrowed := true }
def TrackEndlessUptoSaid : Prop := trackEndlessUptoRow.holds Tryz.pinned (OpenSpec.upto trackEndlessSpec)

/-- 'tramlinelaw01.TrackDistances', WHERE WHAT IT READS IS OF BULK AT MOST 1048576: true; the input reads as it did. -/
def trackDistancesUptoRow : OpenClaim := { program := "ytdabjdajemiagaagreat", sum := "bac17e708a229785bf40f7083a4366a9659c8d9e9f0e9b833e145b3e345c96f0", func := "tramline/tramlinelaw01.TrackDistances", spec := "trackDistances", inPlace := ["math.sqrt"], unfollowed := true, recurses := true, plainKeys := false, apart := false, narrowed := true }
def TrackDistancesUptoSaid : Prop := trackDistancesUptoRow.holds Tryz.pinned (OpenSpec.upto trackDistancesSpec)

/-- 'tramlinelaw01.TrackShortest', WHERE WHAT IT READS IS OF BULK AT MOST 1048576: true; the input reads as it did. -/
def trackShortestUptoRow : OpenClaim := { program := "ytdabjdajemiagaagreat", sum := "bac17e708a229785bf40f7083a4366a9659c8d9e9f0e9b833e145b3e345c96f0", func := "tramline/tramlinelaw01.TrackShortest", spec := "trackShortest", inPlace := ["math.sqrt"], unfollowed := true, recurses := true, plainKeys := false, apart := false, narrowed := true }
def TrackShortestUptoSaid : Prop := trackShortestUptoRow.holds Tryz.pinned (OpenSpec.upto trackShortestSpec)

/-- 'tramlinelaw01.TrackRefuses', WHERE WHAT IT READS IS OF BULK AT MOST 1048576: true; the input reads as it did. -/
def trackRefusesUptoRow : OpenClaim := { program := "ytdabjdajemiagaagreat", sum := "bac17e708a229785bf40f7083a4366a9659c8d9e9f0e9b833e145b3e345c96f0", func := "tramline/tramlinelaw01.TrackRefuses", spec := "trackRefuses", inPlace := ["math.sqrt"], unfollowed := true, recurses := true, plainKeys := false, apart := false, narrowed := true }
def TrackRefusesUptoSaid : Prop := trackRefusesUptoRow.holds Tryz.pinned (OpenSpec.upto trackRefusesSpec)

end Rows
end Go.Proofs.YtdabjdajemiagaaGreat
