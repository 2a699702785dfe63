/- Walks: what is foul. -/
import Derived.Test.YtdabjdajemiagaaW11
namespace Go.Tram
open Go.AM Go.Proofs
set_option maxRecDepth 10000
set_option maxHeartbeats 4000000
set_option linter.unusedVariables false
set_option linter.unusedSimpArgs false

theorem profB_iff {x : Profile} : profB x = true ↔ (1 ≤ x.Half ∧ x.Half ≤ 2000) ∧ 0 ≤ x.Swing ∧ x.Swing ≤ 1500 := by simp [profB, inr_iff]

def testBs (s : SS) (x : Profile) (t : SS) (y : Profile) : List Bool := [decide (apart s.a s.b t.a t.b (x.Half + y.Half) ≤ 0), swungB s t (x.Half + x.Swing + y.Half), swungB t s (y.Half + y.Swing + x.Half), bothB s t (x.Half + x.Swing + y.Half + y.Swing)]
theorem testBs_foul (s : SS) (x : Profile) (t : SS) (y : Profile) : (testBs s x t y).any id = foulB s x t y := by simp [testBs, foulB]

end Go.Tram
