/- Walks: what is small, the example, and what is known of it. -/
import Derived.Test.YteodgilndjjgdaaGreatW15
import Derived.Test.YteodgilndjjgdaaGreatGC
namespace Go.Tram
open Go.AM Go.Proofs
set_option maxRecDepth 100000
set_option maxHeartbeats 4000000
set_option linter.unusedVariables false
set_option linter.unusedSimpArgs false

/-- Lists that fit into a memory. -/
structure Plan.Fit (p : Plan) : Prop where
  n : p.Nodes.length ≤ 9223372036854775807
  r : p.Rails.length ≤ 9223372036854775807

def fewB (p : Plan) : Bool := p.Rails.all (fun r => decide (r.Shape.length ≤ 40)) && (p.Nodes.all (fun n => decide (n.Ends.length ≤ 10)) && (decide (p.Rails.length ≤ 12) && decide (p.Nodes.length ≤ 16)))

theorem c_few (p : Plan) (hf : p.Fit) : PureCall Tryz.prog 4 [p.av] (Bo (fewB p)) := by
  have hn := hf.n
  have hr := hf.r
  refine PureCall.of_body Tryz.func4 rfl (by decide) (by simp [Tryz.ntmps4]) ?_
  simp only [Tryz.ntmps4, Tryz.results4]
  refine awp_sr rfl fun K hK => ?_
  simp -dsimp
  refine hK _ _ ?_; clear hK K
  refine awp_seq_k fun K1 hK1 => ?_
  refine awp_sr rfl fun K hK => ?_
  simp -dsimp
  refine hK _ _ ?_; clear hK K
  refine awp_block ?_
  refine awp_prune [1, 3] ?_
  simp only [prune, List.map_cons, List.map_nil, Go.AM.look, Nat.reduceEqDiff, reduceIte]
  refine awp_loop_l [1] (α := Nat) (fun k => [(3, I k)]) (fun _ => [some (.els 2 [p.cells])]) (fun k => k ≤ p.Rails.length ∧ (p.Rails.take k).all (fun r => decide (r.Shape.length ≤ 40)) = true) (fun k => p.Rails.length - k) 0 ?_ ?_ ?_
  · simp
  · exact sub_same (by simp)
  rintro k ⟨k1, k2⟩
  simp only [List.cons_append, List.nil_append, prune, List.map_cons, List.map_nil, Go.AM.look, Nat.reduceEqDiff, reduceIte]
  refine awp_seq_k fun K2 hK2 => ?_
  refine awp_sr rfl fun K hK => ?_
  simp -dsimp
  refine hK _ _ ?_; clear hK K
  refine awp_cond rfl (fun hc0 => ?_) (fun hc0 => ?_)
  · skip
    try simp at hc0
    have g0 := p.rail_get (i := (k : Int)) (by omega) (by omega)
    simp only [Int.toNat_natCast] at g0
    have wk : IntKind.i64.wrap ((k : Int) + 1) = (k : Int) + 1 := wrap_in (by omega) (by omega)
    refine awp_skip ?_
    simp only [thenA, inBlockA, reduceIte, Nat.reduceEqDiff, eq_self]
    refine hK2 _ _ ?_
    refine awp_prune [1, 3] ?_
    simp only [prune, List.map_cons, List.map_nil, Go.AM.look, Nat.reduceEqDiff, reduceIte]
    refine awp_seq_k fun K3 hK3 => ?_
    refine awp_block ?_
    refine awp_sr rfl fun K hK => ?_
    simp -dsimp [g0]
    refine hK _ _ ?_; clear hK K
    refine awp_cond rfl (fun hc1 => ?_) (fun hc1 => ?_)
    · skip
      try simp at hc1
      have hv : fewB p = false := by simp only [fewB]; rw [all_ff g0 (by simp; omega)]; rfl
      refine awp_sr rfl fun K hK => ?_
      simp -dsimp
      refine hK _ _ ?_; clear hK K
      exact awp_ret (by simp [hv])
    · skip
      try simp at hc1
      refine awp_skip ?_
      simp only [thenA, inBlockA, reduceIte, Nat.reduceEqDiff, eq_self]
      refine hK3 _ _ ?_
      refine awp_prune [1, 3] ?_
      simp only [prune, List.map_cons, List.map_nil, Go.AM.look, Nat.reduceEqDiff, reduceIte]
      refine awp_r rfl fun K hK => ?_
      simp -dsimp [wk]
      refine hK _ _ ?_; clear hK K
      simp only [thenA, inBlockA, reduceIte, Nat.reduceEqDiff, eq_self]
      exact ⟨k + 1, ⟨by omega, by rw [take_all' g0, k2]; simp; omega⟩, by omega, sub_same (by simp)⟩
  · skip
    try simp at hc0
    have hR := all_of_take (by omega) k2
    refine awp_exit ?_
    simp only [thenA, inBlockA, reduceIte, Nat.reduceEqDiff, eq_self]
    refine hK1 _ _ ?_
    refine awp_prune [1] ?_
    simp only [prune, List.map_cons, List.map_nil, Go.AM.look, Nat.reduceEqDiff, reduceIte]
    refine awp_seq_k fun K4 hK4 => ?_
    refine awp_sr rfl fun K hK => ?_
    simp -dsimp
    refine hK _ _ ?_; clear hK K
    refine awp_block ?_
    refine awp_prune [1, 4] ?_
    simp only [prune, List.map_cons, List.map_nil, Go.AM.look, Nat.reduceEqDiff, reduceIte]
    refine awp_loop_l [1] (α := Nat) (fun k => [(4, I k)]) (fun _ => [some (.els 2 [p.cells])]) (fun k => k ≤ p.Nodes.length ∧ (p.Nodes.take k).all (fun n => decide (n.Ends.length ≤ 10)) = true) (fun k => p.Nodes.length - k) 0 ?_ ?_ ?_
    · simp
    · exact sub_same (by simp)
    rintro j ⟨j1, j2⟩
    simp only [List.cons_append, List.nil_append, prune, List.map_cons, List.map_nil, Go.AM.look, Nat.reduceEqDiff, reduceIte]
    refine awp_seq_k fun K5 hK5 => ?_
    refine awp_sr rfl fun K hK => ?_
    simp -dsimp
    refine hK _ _ ?_; clear hK K
    refine awp_cond rfl (fun hc2 => ?_) (fun hc2 => ?_)
    · skip
      try simp at hc2
      have g0 := p.node_get (i := (j : Int)) (by omega) (by omega)
      simp only [Int.toNat_natCast] at g0
      have wk : IntKind.i64.wrap ((j : Int) + 1) = (j : Int) + 1 := wrap_in (by omega) (by omega)
      refine awp_skip ?_
      simp only [thenA, inBlockA, reduceIte, Nat.reduceEqDiff, eq_self]
      refine hK5 _ _ ?_
      refine awp_prune [1, 4] ?_
      simp only [prune, List.map_cons, List.map_nil, Go.AM.look, Nat.reduceEqDiff, reduceIte]
      refine awp_seq_k fun K6 hK6 => ?_
      refine awp_block ?_
      refine awp_sr rfl fun K hK => ?_
      simp -dsimp [g0]
      refine hK _ _ ?_; clear hK K
      refine awp_cond rfl (fun hc3 => ?_) (fun hc3 => ?_)
      · skip
        try simp at hc3
        have hv : fewB p = false := by simp only [fewB]; rw [all_ff g0 (by simp; omega)]; simp
        refine awp_sr rfl fun K hK => ?_
        simp -dsimp
        refine hK _ _ ?_; clear hK K
        exact awp_ret (by simp [hv])
      · skip
        try simp at hc3
        refine awp_skip ?_
        simp only [thenA, inBlockA, reduceIte, Nat.reduceEqDiff, eq_self]
        refine hK6 _ _ ?_
        refine awp_prune [1, 4] ?_
        simp only [prune, List.map_cons, List.map_nil, Go.AM.look, Nat.reduceEqDiff, reduceIte]
        refine awp_r rfl fun K hK => ?_
        simp -dsimp [wk]
        refine hK _ _ ?_; clear hK K
        simp only [thenA, inBlockA, reduceIte, Nat.reduceEqDiff, eq_self]
        exact ⟨j + 1, ⟨by omega, by rw [take_all' g0, j2]; simp; omega⟩, by omega, sub_same (by simp)⟩
    · skip
      try simp at hc2
      have hN := all_of_take (by omega) j2
      refine awp_exit ?_
      simp only [thenA, inBlockA, reduceIte, Nat.reduceEqDiff, eq_self]
      refine hK4 _ _ ?_
      refine awp_prune [1] ?_
      simp only [prune, List.map_cons, List.map_nil, Go.AM.look, Nat.reduceEqDiff, reduceIte]
      refine awp_sr rfl fun K hK => ?_
      simp -dsimp
      refine hK _ _ ?_; clear hK K
      refine awp_ret ?_
      simp only [fewB, hR, hN]
      simp
      exact Bool.eq_iff_iff.2 (by simp; omega)

def exPlan : Plan :=
  { Nodes := [⟨⟨0, 0⟩, 1, [⟨0, false⟩], 0⟩, ⟨⟨1000, 0⟩, 4, [⟨0, true⟩, ⟨1, false⟩, ⟨2, false⟩], 0⟩, ⟨⟨2000, 0⟩, 1, [⟨1, true⟩], 0⟩, ⟨⟨2000, 500⟩, 1, [⟨2, true⟩], 0⟩]
    Rails := [⟨0, 1, [], 8000, 0⟩, ⟨1, 2, [], 8000, 0⟩, ⟨1, 3, [⟨1600, 0⟩], 8000, 0⟩] }

def exLit : AV := .agg [.full 5 [[I 0, I 0, I 1, .full 2 [[I 0, Bo false]], I 0], [I 1000, I 0, I 4, .full 2 [[I 0, Bo true], [I 1, Bo false], [I 2, Bo false]], I 0], [I 2000, I 0, I 1, .full 2 [[I 1, Bo true]], I 0], [I 2000, I 500, I 1, .full 2 [[I 2, Bo true]], I 0]],
  .full 5 [[I 0, I 1, .v (.slice none 0 0), I 8000, I 0], [I 1, I 2, .v (.slice none 0 0), I 8000, I 0], [I 1, I 3, .full 2 [[I 1600, I 0]], I 8000, I 0]]]

theorem c_ExLit : PureCall Tryz.prog 19 [] exLit := by
  refine PureCall.of_body Tryz.func19 rfl (by decide) (by simp [Tryz.ntmps19]) ?_
  simp only [Tryz.ntmps19, Tryz.results19]
  refine awp_sr rfl fun K hK => ?_
  simp -dsimp
  refine hK _ _ ?_; clear hK K
  refine awp_sr rfl fun K hK => ?_
  simp -dsimp
  refine hK _ _ ?_; clear hK K
  exact awp_ret (by simp [exLit])
theorem c_Example : PureCall Tryz.prog 19 [] exPlan.av := by
  have e : wkN 2 6 exLit = exPlan.av := by rfl
  refine c_ExLit.res fun w S y h => ?_
  rw [← e]
  exact wkN_rep 2 6 _ _ h

theorem ex_len (a b : Spot) (k : Int) (hk : IsSq (sqd a b) k) : far a b = k := isq_of hk
theorem ex00 : segLen (exPlan.line 0) 0 = 1000 := by unfold segLen; exact ex_len _ _ 1000 (by unfold IsSq; decide +kernel)
theorem ex10 : segLen (exPlan.line 1) 0 = 1000 := by unfold segLen; exact ex_len _ _ 1000 (by unfold IsSq; decide +kernel)
theorem ex20 : segLen (exPlan.line 2) 0 = 600 := by unfold segLen; exact ex_len _ _ 600 (by unfold IsSq; decide +kernel)
theorem ex21 : segLen (exPlan.line 2) 1 = 640 := by unfold segLen; exact ex_len _ _ 640 (by unfold IsSq; decide +kernel)
theorem ex_r0 : railB exPlan (exPlan.rail 0) = true := by
  have h1 : railA exPlan (exPlan.rail 0) = true := by decide +kernel
  have h2 : (exPlan.rail 0).Shape = [] := by decide +kernel
  have e : lineOf exPlan (exPlan.rail 0) = exPlan.line 0 := rfl
  simp [railB, h1, h2, e, List.range_succ, segB, ex00, inr]
theorem ex_r1 : railB exPlan (exPlan.rail 1) = true := by
  have h1 : railA exPlan (exPlan.rail 1) = true := by decide +kernel
  have h2 : (exPlan.rail 1).Shape = [] := by decide +kernel
  have e : lineOf exPlan (exPlan.rail 1) = exPlan.line 1 := rfl
  simp [railB, h1, h2, e, List.range_succ, segB, ex10, inr]
theorem ex_r2 : railB exPlan (exPlan.rail 2) = true := by
  have h1 : railA exPlan (exPlan.rail 2) = true := by decide +kernel
  have h2 : (exPlan.rail 2).Shape = [⟨1600, 0⟩] := by decide +kernel
  have h3 : spotB ⟨1600, 0⟩ = true := by decide +kernel
  have e : lineOf exPlan (exPlan.rail 2) = exPlan.line 2 := rfl
  simp [railB, h1, h2, h3, e, List.range_succ, segB, ex20, ex21, inr]
theorem ex_valid : validB exPlan = true := by
  have h1 : exPlan.Nodes.all nodeB = true := by decide +kernel
  have h2 : validE exPlan = true := by decide +kernel
  have e : exPlan.Rails = [exPlan.rail 0, exPlan.rail 1, exPlan.rail 2] := by unfold Plan.rail; rfl
  have h3 : exPlan.Rails.all (railB exPlan) = true := by rw [e]; simp [ex_r0, ex_r1, ex_r2]
  have h4 : inr (exPlan.Nodes.length) 1 300 = true := by decide +kernel
  have h5 : inr (exPlan.Rails.length) 1 400 = true := by decide +kernel
  simp [validB, validA, h1, h2, h3, h4, h5]

theorem ex_s21 : (exPlan.strip ⟨2, 1⟩).From = 600 ∧ (exPlan.strip ⟨2, 1⟩).To = 1240 := by
  simp [Plan.strip, stripOf, sumTo, ex20, ex21]
theorem ex_gap : gap (exPlan.strip ⟨0, 0⟩).a (exPlan.strip ⟨0, 0⟩).b (exPlan.strip ⟨2, 1⟩).a (exPlan.strip ⟨2, 1⟩).b = 600 := by decide +kernel
theorem ex_foul : foulB (exPlan.strip ⟨0, 0⟩) ⟨275, 50⟩ (exPlan.strip ⟨2, 1⟩) ⟨275, 50⟩ = true := by decide +kernel
theorem ex_len0 : exPlan.len 0 = 1000 := by
  unfold Plan.len
  have h2 : (exPlan.rail 0).Shape = [] := by decide +kernel
  simp [h2, sumTo, ex00]
theorem ex_len2 : exPlan.len 2 = 1240 := by
  unfold Plan.len
  have h2 : (exPlan.rail 2).Shape = [⟨1600, 0⟩] := by decide +kernel
  simp [h2, sumTo, ex20, ex21]
theorem ex_strips0 : exPlan.strips 0 = [stripOf (exPlan.line 0) 0 0] := by
  have h2 : (exPlan.rail 0).Shape = [] := by decide +kernel
  simp [Plan.strips, stripsTo, h2, List.range_succ]
theorem ex_strips2 : exPlan.strips 2 = [stripOf (exPlan.line 2) 2 0, stripOf (exPlan.line 2) 2 1] := by
  have h2 : (exPlan.rail 2).Shape = [⟨1600, 0⟩] := by decide +kernel
  simp [Plan.strips, stripsTo, h2, List.range_succ]
theorem ex_in (r : Int) (h : 0 ≤ r) (h' : r ≤ 2) : inr r 0 (exPlan.Rails.length - 1) = true := by
  have : exPlan.Rails.length = 3 := by decide +kernel
  rw [this, inr_iff]; omega
theorem ex_c0 : coversB exPlan [⟨0, 0, 500⟩] = true := by
  simp [coversB, coverB, ex_in, ex_len0]
theorem ex_c1 : coversB exPlan [⟨2, 700, 1240⟩] = true := by
  simp [coversB, coverB, ex_in, ex_len2]
theorem ex_c2 : coversB exPlan [⟨2, 0, 100⟩] = true := by
  simp [coversB, coverB, ex_in, ex_len2]
theorem ex_t0 : touched exPlan [⟨0, 0, 500⟩] = [stripOf (exPlan.line 0) 0 0] := by
  simp [touched, touchedOne, ex_strips0, stripOf, sumTo, ex00]
theorem ex_t1 : touched exPlan [⟨2, 700, 1240⟩] = [stripOf (exPlan.line 2) 2 1] := by
  simp [touched, touchedOne, ex_strips2, stripOf, sumTo, ex20, ex21]
theorem ex_t2 : touched exPlan [⟨2, 0, 100⟩] = [stripOf (exPlan.line 2) 2 0] := by
  simp [touched, touchedOne, ex_strips2, stripOf, sumTo, ex20, ex21]
theorem ex_f1 : foulB (stripOf (exPlan.line 0) 0 0) ⟨100, 50⟩ (stripOf (exPlan.line 2) 2 1) ⟨100, 50⟩ = false := by decide +kernel
theorem ex_f2 : foulB (stripOf (exPlan.line 0) 0 0) ⟨100, 50⟩ (stripOf (exPlan.line 2) 2 0) ⟨100, 50⟩ = true := by decide +kernel
theorem ex_clear1 : clearB exPlan [⟨0, 0, 500⟩] ⟨100, 50⟩ [⟨2, 700, 1240⟩] ⟨100, 50⟩ = true := by
  simp [clearB, ex_t0, ex_t1, ex_f1]
theorem ex_clear2 : clearB exPlan [⟨0, 0, 500⟩] ⟨100, 50⟩ [⟨2, 0, 100⟩] ⟨100, 50⟩ = false := by
  simp [clearB, ex_t0, ex_t2, ex_f2]

theorem c_known : PureCall Tryz.prog 7 [] (Bo true) := by
  have s0 : stripB exPlan ⟨0, 0⟩ = true := by decide +kernel
  have s1 : stripB exPlan ⟨2, 1⟩ = true := by decide +kernel
  have p1 : profB ⟨275, 50⟩ = true := by decide +kernel
  have p2 : profB ⟨100, 50⟩ = true := by decide +kernel
  have h1 := c_Place exPlan ⟨2, 1⟩
  rw [ex_valid, s1, if_pos (by rfl), ex_s21.1, ex_s21.2] at h1
  have h2 := c_Gap exPlan ⟨0, 0⟩ ⟨2, 1⟩
  rw [ex_valid, s0, s1, if_pos (by rfl), ex_gap] at h2
  have h3 := c_Foul exPlan ⟨0, 0⟩ ⟨275, 50⟩ ⟨2, 1⟩ ⟨275, 50⟩
  rw [ex_valid, s0, s1, p1, if_pos (by rfl), ex_foul] at h3
  have h4 := c_Clear exPlan [⟨0, 0, 500⟩] ⟨100, 50⟩ [⟨2, 700, 1240⟩] ⟨100, 50⟩
  rw [show clearOk exPlan [⟨0, 0, 500⟩] ⟨100, 50⟩ [⟨2, 700, 1240⟩] ⟨100, 50⟩ = true by simp [clearOk, ex_valid, p2, ex_c0, ex_c1], if_pos rfl, ex_clear1] at h4
  have h5 := c_Clear exPlan [⟨0, 0, 500⟩] ⟨100, 50⟩ [⟨2, 0, 100⟩] ⟨100, 50⟩
  rw [show clearOk exPlan [⟨0, 0, 500⟩] ⟨100, 50⟩ [⟨2, 0, 100⟩] ⟨100, 50⟩ = true by simp [clearOk, ex_valid, p2, ex_c0, ex_c2], if_pos rfl, ex_clear2] at h5
  have h4' := h4.wk (args := [exPlan.av, .full 3 [[I 0, I 0, I 500]], .agg [I 100, I 50], .full 3 [[I 2, I 700, I 1240]], .agg [I 100, I 50]]) (by rfl)
  have h5' := h5.wk (args := [exPlan.av, .full 3 [[I 0, I 0, I 500]], .agg [I 100, I 50], .full 3 [[I 2, I 0, I 100]], .agg [I 100, I 50]]) (by rfl)
  have h0 := c_Example
  generalize exPlan = p at *
  refine PureCall.of_body Tryz.func7 rfl (by decide) (by simp [Tryz.ntmps7]) ?_
  simp only [Tryz.ntmps7, Tryz.results7]
  refine awp_sr rfl fun K hK => ?_
  simp -dsimp
  refine hK _ _ ?_; clear hK K
  refine awp_sr rfl fun K hK => ?_
  simp -dsimp
  refine callK_intro _ (h0) (by simp) ?_
  simp -dsimp
  refine hK _ _ ?_; clear hK K
  refine awp_sr rfl fun K hK => ?_
  simp -dsimp
  refine callK_intro _ (h1) (by simp) ?_
  simp -dsimp
  refine hK _ _ ?_; clear hK K
  refine awp_sr rfl fun K hK => ?_
  simp -dsimp
  refine callK_intro _ (h2) (by simp) ?_
  simp -dsimp
  refine hK _ _ ?_; clear hK K
  refine awp_sr rfl fun K hK => ?_
  simp -dsimp
  refine hK _ _ ?_; clear hK K
  refine awp_sr rfl fun K hK => ?_
  simp -dsimp
  refine callK_intro _ (h3) (by simp) ?_
  simp -dsimp
  refine hK _ _ ?_; clear hK K
  refine awp_sr rfl fun K hK => ?_
  simp -dsimp
  refine callK_intro _ (h4') (by simp) ?_
  simp -dsimp
  refine hK _ _ ?_; clear hK K
  refine awp_sr rfl fun K hK => ?_
  simp -dsimp
  refine callK_intro _ (h5') (by simp) ?_
  simp -dsimp
  refine hK _ _ ?_; clear hK K
  refine awp_seq_k fun K1 hK1 => ?_
  refine awp_sr rfl fun K hK => ?_
  simp -dsimp
  refine hK _ _ ?_; clear hK K
  refine awp_cond rfl (fun hc0 => ?_) (fun hc0 => ?_)
  · skip
    skip
    simp at hc0
  · skip
    skip
    refine awp_skip ?_
    simp only [thenA, inBlockA, reduceIte, Nat.reduceEqDiff, eq_self]
    refine hK1 _ _ ?_
    refine awp_prune [2, 3, 5, 9, 11, 13] ?_
    simp only [prune, List.map_cons, List.map_nil, Go.AM.look, Nat.reduceEqDiff, reduceIte]
    refine awp_sr rfl fun K hK => ?_
    simp -dsimp
    refine hK _ _ ?_; clear hK K
    exact awp_ret (by simp)
end Go.Tram
