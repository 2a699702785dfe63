/- Walks: the specification's distances. -/
import Derived.Test.YtdabjdajemiagaaGreatW11
namespace Go.Tram
open Go.AM Go.Proofs
set_option maxRecDepth 10000
set_option maxHeartbeats 4000000
set_option linter.unusedVariables false
set_option linter.unusedSimpArgs false
attribute [-simp] minI maxI

theorem tdiv_nn {a b : Int} (h : 0 ≤ a) : a.tdiv b = a / b := Int.tdiv_eq_ediv_of_nonneg h
theorem tmod_nn {a b : Int} (h : 0 ≤ a) : a.tmod b = a % b := Int.tmod_eq_emod_of_nonneg h

theorem nearB_cmp (less : Bool) (a b : Int) : nearB less (cmpI a b) = if less then decide (a < b) else decide (a ≤ b) := by
  unfold nearB
  cases less
  · simp only [Bool.false_eq_true, if_false]; exact decide_eq_decide.2 cmpI_np
  · simp only [if_true]; exact decide_eq_decide.2 cmpI_neg

theorem nearB_or (less : Bool) (s d : Int) : (decide (s < d) || (decide (s = d) && !less)) = nearB less (cmpI s d) := by
  rw [nearB_cmp]
  cases less <;> simp
  exact Bool.eq_iff_iff.2 (by simp; omega)

theorem dotS_comm (a b c d : Spot) : dotS a b c d = dotS c d a b := by
  unfold dotS; rw [Int.mul_comm (b.X - a.X), Int.mul_comm (b.Y - a.Y)]

end Go.Tram
