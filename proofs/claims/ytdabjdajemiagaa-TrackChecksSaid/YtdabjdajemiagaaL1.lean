/- Walks: what is small, the example, and what is known of it. -/
import Derived.Test.YtdabjdajemiagaaW15
import Derived.Test.YtdabjdajemiagaaGC
namespace Go.Tram
open Go.AM Go.Proofs
set_option maxRecDepth 100000
set_option maxHeartbeats 4000000
set_option linter.unusedVariables false
set_option linter.unusedSimpArgs false

/-- Lists that fit into a memory. -/
structure Plan.Fit (p : Plan) : Prop where
  n : p.Nodes.length ≤ 9223372036854775807
  r : p.Rails.length ≤ 9223372036854775807

def fewB (p : Plan) : Bool := p.Rails.all (fun r => decide (r.Shape.length ≤ 40)) && (p.Nodes.all (fun n => decide (n.Ends.length ≤ 10)) && (decide (p.Rails.length ≤ 12) && decide (p.Nodes.length ≤ 16)))

def exPlan : Plan :=
  { Nodes := [⟨⟨0, 0⟩, 1, [⟨0, false⟩], 0⟩, ⟨⟨1000, 0⟩, 4, [⟨0, true⟩, ⟨1, false⟩, ⟨2, false⟩], 0⟩, ⟨⟨2000, 0⟩, 1, [⟨1, true⟩], 0⟩, ⟨⟨2000, 500⟩, 1, [⟨2, true⟩], 0⟩]
    Rails := [⟨0, 1, [], 8000, 0⟩, ⟨1, 2, [], 8000, 0⟩, ⟨1, 3, [⟨1600, 0⟩], 8000, 0⟩] }

def exLit : AV := .agg [.full 5 [[I 0, I 0, I 1, .full 2 [[I 0, Bo false]], I 0], [I 1000, I 0, I 4, .full 2 [[I 0, Bo true], [I 1, Bo false], [I 2, Bo false]], I 0], [I 2000, I 0, I 1, .full 2 [[I 1, Bo true]], I 0], [I 2000, I 500, I 1, .full 2 [[I 2, Bo true]], I 0]],
  .full 5 [[I 0, I 1, .v (.slice none 0 0), I 8000, I 0], [I 1, I 2, .v (.slice none 0 0), I 8000, I 0], [I 1, I 3, .full 2 [[I 1600, I 0]], I 8000, I 0]]]

theorem ex_len (a b : Spot) (k : Int) (hk : IsSq (sqd a b) k) : far a b = k := isq_of hk
theorem ex00 : segLen (exPlan.line 0) 0 = 1000 := by unfold segLen; exact ex_len _ _ 1000 (by unfold IsSq; decide +kernel)
theorem ex10 : segLen (exPlan.line 1) 0 = 1000 := by unfold segLen; exact ex_len _ _ 1000 (by unfold IsSq; decide +kernel)
theorem ex20 : segLen (exPlan.line 2) 0 = 600 := by unfold segLen; exact ex_len _ _ 600 (by unfold IsSq; decide +kernel)
theorem ex21 : segLen (exPlan.line 2) 1 = 640 := by unfold segLen; exact ex_len _ _ 640 (by unfold IsSq; decide +kernel)
theorem ex_r0 : railB exPlan (exPlan.rail 0) = true := by
  have h1 : railA exPlan (exPlan.rail 0) = true := by decide +kernel
  have h2 : (exPlan.rail 0).Shape = [] := by decide +kernel
  have e : lineOf exPlan (exPlan.rail 0) = exPlan.line 0 := rfl
  simp [railB, h1, h2, e, List.range_succ, segB, ex00, inr]
theorem ex_r1 : railB exPlan (exPlan.rail 1) = true := by
  have h1 : railA exPlan (exPlan.rail 1) = true := by decide +kernel
  have h2 : (exPlan.rail 1).Shape = [] := by decide +kernel
  have e : lineOf exPlan (exPlan.rail 1) = exPlan.line 1 := rfl
  simp [railB, h1, h2, e, List.range_succ, segB, ex10, inr]
theorem ex_r2 : railB exPlan (exPlan.rail 2) = true := by
  have h1 : railA exPlan (exPlan.rail 2) = true := by decide +kernel
  have h2 : (exPlan.rail 2).Shape = [⟨1600, 0⟩] := by decide +kernel
  have h3 : spotB ⟨1600, 0⟩ = true := by decide +kernel
  have e : lineOf exPlan (exPlan.rail 2) = exPlan.line 2 := rfl
  simp [railB, h1, h2, h3, e, List.range_succ, segB, ex20, ex21, inr]
theorem ex_valid : validB exPlan = true := by
  have h1 : exPlan.Nodes.all nodeB = true := by decide +kernel
  have h2 : validE exPlan = true := by decide +kernel
  have e : exPlan.Rails = [exPlan.rail 0, exPlan.rail 1, exPlan.rail 2] := by unfold Plan.rail; rfl
  have h3 : exPlan.Rails.all (railB exPlan) = true := by rw [e]; simp [ex_r0, ex_r1, ex_r2]
  have h4 : inr (exPlan.Nodes.length) 1 300 = true := by decide +kernel
  have h5 : inr (exPlan.Rails.length) 1 400 = true := by decide +kernel
  simp [validB, validA, h1, h2, h3, h4, h5]

theorem ex_s21 : (exPlan.strip ⟨2, 1⟩).From = 600 ∧ (exPlan.strip ⟨2, 1⟩).To = 1240 := by
  simp [Plan.strip, stripOf, sumTo, ex20, ex21]
theorem ex_gap : gap (exPlan.strip ⟨0, 0⟩).a (exPlan.strip ⟨0, 0⟩).b (exPlan.strip ⟨2, 1⟩).a (exPlan.strip ⟨2, 1⟩).b = 600 := by decide +kernel
theorem ex_foul : foulB (exPlan.strip ⟨0, 0⟩) ⟨275, 50⟩ (exPlan.strip ⟨2, 1⟩) ⟨275, 50⟩ = true := by decide +kernel
theorem ex_len0 : exPlan.len 0 = 1000 := by
  unfold Plan.len
  have h2 : (exPlan.rail 0).Shape = [] := by decide +kernel
  simp [h2, sumTo, ex00]
theorem ex_len2 : exPlan.len 2 = 1240 := by
  unfold Plan.len
  have h2 : (exPlan.rail 2).Shape = [⟨1600, 0⟩] := by decide +kernel
  simp [h2, sumTo, ex20, ex21]
theorem ex_strips0 : exPlan.strips 0 = [stripOf (exPlan.line 0) 0 0] := by
  have h2 : (exPlan.rail 0).Shape = [] := by decide +kernel
  simp [Plan.strips, stripsTo, h2, List.range_succ]
theorem ex_strips2 : exPlan.strips 2 = [stripOf (exPlan.line 2) 2 0, stripOf (exPlan.line 2) 2 1] := by
  have h2 : (exPlan.rail 2).Shape = [⟨1600, 0⟩] := by decide +kernel
  simp [Plan.strips, stripsTo, h2, List.range_succ]
theorem ex_in (r : Int) (h : 0 ≤ r) (h' : r ≤ 2) : inr r 0 (exPlan.Rails.length - 1) = true := by
  have : exPlan.Rails.length = 3 := by decide +kernel
  rw [this, inr_iff]; omega
theorem ex_c0 : coversB exPlan [⟨0, 0, 500⟩] = true := by
  simp [coversB, coverB, ex_in, ex_len0]
theorem ex_c1 : coversB exPlan [⟨2, 700, 1240⟩] = true := by
  simp [coversB, coverB, ex_in, ex_len2]
theorem ex_c2 : coversB exPlan [⟨2, 0, 100⟩] = true := by
  simp [coversB, coverB, ex_in, ex_len2]
theorem ex_t0 : touched exPlan [⟨0, 0, 500⟩] = [stripOf (exPlan.line 0) 0 0] := by
  simp [touched, touchedOne, ex_strips0, stripOf, sumTo, ex00]
theorem ex_t1 : touched exPlan [⟨2, 700, 1240⟩] = [stripOf (exPlan.line 2) 2 1] := by
  simp [touched, touchedOne, ex_strips2, stripOf, sumTo, ex20, ex21]
theorem ex_t2 : touched exPlan [⟨2, 0, 100⟩] = [stripOf (exPlan.line 2) 2 0] := by
  simp [touched, touchedOne, ex_strips2, stripOf, sumTo, ex20, ex21]
theorem ex_f1 : foulB (stripOf (exPlan.line 0) 0 0) ⟨100, 50⟩ (stripOf (exPlan.line 2) 2 1) ⟨100, 50⟩ = false := by decide +kernel
theorem ex_f2 : foulB (stripOf (exPlan.line 0) 0 0) ⟨100, 50⟩ (stripOf (exPlan.line 2) 2 0) ⟨100, 50⟩ = true := by decide +kernel
theorem ex_clear1 : clearB exPlan [⟨0, 0, 500⟩] ⟨100, 50⟩ [⟨2, 700, 1240⟩] ⟨100, 50⟩ = true := by
  simp [clearB, ex_t0, ex_t1, ex_f1]
theorem ex_clear2 : clearB exPlan [⟨0, 0, 500⟩] ⟨100, 50⟩ [⟨2, 0, 100⟩] ⟨100, 50⟩ = false := by
  simp [clearB, ex_t0, ex_t2, ex_f2]

end Go.Tram
