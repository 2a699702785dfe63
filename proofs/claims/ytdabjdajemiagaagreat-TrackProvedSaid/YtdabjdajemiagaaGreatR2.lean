/- Walks: the specification of strips and of what is foul. -/
import Derived.Test.YtdabjdajemiagaaGreatR1
import Derived.Test.YtdabjdajemiagaaGreatW12
import Derived.Test.YtdabjdajemiagaaGreatW13
namespace Go.Tram
open Go.AM Go.Proofs
set_option maxRecDepth 10000
set_option maxHeartbeats 4000000
set_option linter.unusedVariables false
set_option linter.unusedSimpArgs false

/-- A strip by its rail and its number. -/
@[simp] def sAV (r : Int) (k : Nat) : AV := .agg [I r, I k]

end Go.Tram
