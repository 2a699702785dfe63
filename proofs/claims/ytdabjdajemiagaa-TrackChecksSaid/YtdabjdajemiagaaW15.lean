/- Walks: the strips that a car touches, and whether two cars are clear of each other. -/
import Derived.Test.YtdabjdajemiagaaW14
namespace Go.Tram
open Go.AM Go.Proofs
set_option maxRecDepth 10000
set_option maxHeartbeats 4000000
set_option linter.unusedVariables false
set_option linter.unusedSimpArgs false

theorem coverB_iff {p : Plan} {c : Cover} : coverB p c = true ↔ inr c.Rail 0 (p.Rails.length - 1) = true ∧ 0 ≤ c.From ∧ c.From < c.To ∧ c.To ≤ p.len c.Rail := by
  simp [coverB]
theorem covers_ff {p : Plan} {l : List Cover} {i : Nat} {c : Cover} (h : l[i]? = some c) (hc : coverB p c = false) : coversB p l = false := by
  simp [coversB, all_ff h hc]
theorem touched_take {p : Plan} {l : List Cover} {i : Nat} {c : Cover} (h : l[i]? = some c) : touched p (l.take (i + 1)) = touched p (l.take i) ++ touchedOne p c := by
  simp [touched, List.take_add_one, h]
def hitOne (c : Cover) (x : SS) : Bool := decide (c.From < x.To) && decide (x.From < c.To)
theorem filter_take {l : List SS} {q : SS → Bool} {k : Nat} {x : SS} (h : l[k]? = some x) : (l.take (k + 1)).filter q = (l.take k).filter q ++ (if q x then [x] else []) := by
  rw [List.take_add_one, List.filter_append, h]; simp [List.filter_cons]
theorem touchedOne_len {p : Plan} (c : Cover) (hv : validB p = true) (hc : inr c.Rail 0 (p.Rails.length - 1) = true) : (touchedOne p c).length ≤ 31 := by
  have hi := inr_iff.1 hc
  have ro := rail_ok hv (r := c.Rail) (by omega) (by omega)
  have := ro.s
  have h1 := List.length_filter_le (hitOne c) (p.strips c.Rail)
  rw [strips_len] at h1
  show ((p.strips c.Rail).filter (hitOne c)).length ≤ 31
  omega
theorem sumTo_len (p : Plan) (r : Int) : sumTo (p.line r) ((p.rail r).Shape.length + 1) = p.len r := by unfold Plan.len; rfl
theorem ss_take (l : List SS) : (l.map SS.cells).take l.length = l.map SS.cells := List.take_of_length_le (by simp)

theorem touched_ok {p : Plan} {l : List Cover} (hv : validB p = true) (hc : coversB p l = true) {s : SS} (hs : s ∈ touched p l) : s.Ok := by
  simp only [coversB, Bool.and_eq_true, List.all_eq_true] at hc
  simp only [touched, List.mem_flatMap] at hs
  obtain ⟨c, hcl, hs⟩ := hs
  have := coverB_iff.1 (hc.2 c hcl)
  have hi := inr_iff.1 this.1
  exact strips_ok (rail_ok hv (r := c.Rail) (by omega) (by omega)) (List.mem_filter.1 hs).1
theorem touched_len {p : Plan} (hv : validB p = true) : ∀ {l : List Cover}, l.all (coverB p) = true → (touched p l).length ≤ 31 * l.length
  | [], _ => by simp [touched]
  | c :: l, h => by
    simp only [List.all_cons, Bool.and_eq_true] at h
    have h1 := touched_len hv h.2
    have h2 := touchedOne_len c hv (coverB_iff.1 h.1).1
    simp only [touched, List.flatMap_cons, List.length_append, List.length_cons] at h1 ⊢
    omega
theorem touched_len' {p : Plan} {l : List Cover} (hv : validB p = true) (hc : coversB p l = true) : (touched p l).length ≤ 3100 := by
  simp only [coversB, Bool.and_eq_true, decide_eq_true_eq] at hc
  have := touched_len hv hc.2
  omega

/-- A car's part and profile, the other's: whether they are as defined. -/
def clearOk (p : Plan) (a : List Cover) (x : Profile) (b : List Cover) (y : Profile) : Bool := validB p && ((profB x && profB y) && (coversB p a && coversB p b))

end Go.Tram
