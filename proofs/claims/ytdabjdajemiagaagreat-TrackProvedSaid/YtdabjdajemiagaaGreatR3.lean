/- Walks: what is foul in the specification. -/
import Derived.Test.YtdabjdajemiagaaGreatR2
namespace Go.Tram
open Go.AM Go.Proofs
set_option maxRecDepth 10000
set_option maxHeartbeats 4000000
set_option linter.unusedVariables false
set_option linter.unusedSimpArgs false

end Go.Tram
