/- Walks: the plane of the sweep. -/
import Derived.Test.YtdabjdajemiagaaW7
namespace Go.Tram
open Go.AM Go.Proofs
set_option maxRecDepth 10000
set_option maxHeartbeats 4000000
set_option linter.unusedVariables false
set_option linter.unusedSimpArgs false

/-- A way from a spot to another one. -/
@[simp] def vec (a b : Spot) : AV := .agg [I (b.X - a.X), I (b.Y - a.Y)]

theorem spot_diff {a b : Spot} (ha : spotB a = true) (hb : spotB b = true) : (-20000000 ≤ b.X - a.X ∧ b.X - a.X ≤ 20000000) ∧ (-20000000 ≤ b.Y - a.Y ∧ b.Y - a.Y ≤ 20000000) := by
  rw [spotB_iff] at ha hb
  omega

abbrev U (n : Int) : AV := .v (.int .u64 n)
theorem u64_in {n : Int} (h0 : 0 ≤ n) (h1 : n < 18446744073709551616) : IntKind.u64.wrap n = n := by rw [IntKind.wrap_u64]; omega

end Go.Tram
