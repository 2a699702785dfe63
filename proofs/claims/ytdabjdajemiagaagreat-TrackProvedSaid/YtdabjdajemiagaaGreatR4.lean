/- Walks: the specification of cars that stand somewhere. -/
import Derived.Test.YtdabjdajemiagaaGreatR3
import Derived.Test.YtdabjdajemiagaaGreatW15
namespace Go.Tram
open Go.AM Go.Proofs
set_option maxRecDepth 10000
set_option maxHeartbeats 4000000
set_option linter.unusedVariables false
set_option linter.unusedSimpArgs false

theorem c_rLength (p : Plan) (r : Int) (h0 : 0 ≤ r) (h1 : r < p.Rails.length) (ro : RailOk p r) : PureCall Tryz.prog 49 [p.av, I r] (I (p.len r)) :=
  c_Length p r h0 h1 ro.f ro.t (by have := ro.s; omega) ro.spots

/-- Strips by their rails and numbers. -/
def tkOne (p : Plan) (c : Cover) (n : Nat) : List (Int × Nat) := ((List.range n).filter fun k => hitOne c (stripOf (p.line c.Rail) c.Rail k)).map fun k => (c.Rail, k)
def tkAll (p : Plan) (l : List Cover) : List (Int × Nat) := l.flatMap fun c => tkOne p c ((p.rail c.Rail).Shape.length + 1)
def pC (x : Int × Nat) : List AV := [I x.1, I x.2]
def stP (p : Plan) (x : Int × Nat) : SS := stripOf (p.line x.1) x.1 x.2
theorem tkOne_succ (p : Plan) (c : Cover) (n : Nat) : tkOne p c (n + 1) = tkOne p c n ++ (if hitOne c (stripOf (p.line c.Rail) c.Rail n) then [(c.Rail, n)] else []) := by
  unfold tkOne
  rw [List.range_succ, List.filter_append, List.map_append]
  congr 1
  simp only [List.filter_cons, List.filter_nil]
  split <;> simp
theorem tkAll_take {p : Plan} {l : List Cover} {i : Nat} {c : Cover} (h : l[i]? = some c) : tkAll p (l.take (i + 1)) = tkAll p (l.take i) ++ tkOne p c ((p.rail c.Rail).Shape.length + 1) := by
  simp [tkAll, List.take_add_one, h]
theorem tkOne_map (p : Plan) (c : Cover) : (tkOne p c ((p.rail c.Rail).Shape.length + 1)).map (stP p) = touchedOne p c := by
  unfold tkOne touchedOne Plan.strips stripsTo
  rw [List.map_map, List.filter_map]
  rfl
theorem tkAll_map (p : Plan) (l : List Cover) : (tkAll p l).map (stP p) = touched p l := by
  unfold tkAll touched
  rw [List.map_flatMap]
  congr 1
  funext c
  exact tkOne_map p c
theorem tkOne_len (p : Plan) (c : Cover) (n : Nat) : (tkOne p c n).length ≤ n := by
  unfold tkOne
  rw [List.length_map]
  exact Nat.le_trans (List.length_filter_le _ _) (by simp)
theorem tk_mem {p : Plan} {l : List Cover} {x : Int × Nat} (hc : coversB p l = true) (hx : x ∈ tkAll p l) : (0 ≤ x.1 ∧ x.1 < p.Rails.length) ∧ x.2 < (p.rail x.1).Shape.length + 1 := by
  simp only [tkAll, List.mem_flatMap] at hx
  obtain ⟨c, hcl, hx⟩ := hx
  simp only [tkOne, List.mem_map, List.mem_filter, List.mem_range] at hx
  obtain ⟨k, hk, rfl⟩ := hx
  simp only [coversB, Bool.and_eq_true, List.all_eq_true] at hc
  have hi := inr_iff.1 (coverB_iff.1 (hc.2 c hcl)).1
  exact ⟨by simp only []; omega, hk.1⟩
theorem flat_pc (l : List (Int × Nat)) : (l.map pC).all (fun e => e.all flatC) = true := by simp [pC, flatC]
@[simp high] theorem flat_pc_ren (l : List (Int × Nat)) (g : List (Option Nat)) (n : Nat) : (l.map pC).map (fun e => e.map (renAV g n)) = l.map pC := map_flatC (fun x h => flatC_ren h g n) (flat_pc l)
@[simp high] theorem flat_pc_frzP (l : List (Int × Nat)) (H : Hp) (n : Nat) : (l.map pC).map (fun e => e.map (frzP H n)) = l.map pC := map_flatC (fun x h => flatC_frzP h H n) (flat_pc l)
theorem pc_take (l : List (Int × Nat)) : (l.map pC).take l.length = l.map pC := List.take_of_length_le (by simp)

end Go.Tram
