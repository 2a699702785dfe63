/- Walks: the sweep's exported functions that speak of strips. -/
import Derived.Test.YtdabjdajemiagaaW12
import Derived.Test.YtdabjdajemiagaaW13
namespace Go.Tram
open Go.AM Go.Proofs
set_option maxRecDepth 10000
set_option maxHeartbeats 4000000
set_option linter.unusedVariables false
set_option linter.unusedSimpArgs false

theorem sheetRows_at {p : Plan} {r : Int} (h0 : 0 ≤ r) (h1 : r < p.Rails.length) : (sheetRows p p.Rails.length)[r.toNat]? = some [.lst 9 ((p.strips r).map SS.cells)] := by
  rw [sheetRows_get (by omega), show ((r.toNat : Nat) : Int) = r by omega]
theorem strips_at {p : Plan} {s : Strip} (h : stripB p s = true) : (p.strips s.Rail)[s.Segment.toNat]? = some (p.strip s) := by
  simp only [stripB, Bool.and_eq_true, inr_iff] at h
  rw [strips_get (by omega)]; rfl

theorem strip_fine {p : Plan} {s : Strip} (hv : validB p = true) (h : stripB p s = true) : (p.strip s).Ok := by
  simp only [stripB, Bool.and_eq_true, inr_iff] at h
  exact strip_ok (rail_ok hv (by omega) (by omega)) (by omega)

end Go.Tram
