/- Walks: what is small and fine; the law of the next moves, the law of opposite moves. -/
import Derived.Test.YtdabjdajemiagaaP3
namespace Go.Tram
open Go.AM Go.Proofs
set_option maxRecDepth 100000
set_option maxHeartbeats 4000000
set_option linter.unusedVariables false
set_option linter.unusedSimpArgs false

theorem eq_bool1 (t : TypeId) (x y : Operand) (a b : Bool) (w : World) (ht : (Try.prog).underlying t = some .bool) (hk : ktOf Try.prog t = some .b) : (eqGuard .eql t x y (.bool a) (.bool b)).run Try.prog w = .ok () w ∧ (binOp .eql t (.bool a) (.bool b)).run Try.prog w = .ok (.bool (a == b)) w := by
  constructor
  · simp [eqGuard, run_underlying ht]
  · have h := run_equalIn_kc (P := Try.prog) (w := w) hk (Op.maxDepth - 1) (a := .b a) (b := .b b) rfl rfl
    rw [show Op.maxDepth - 1 + 1 = Op.maxDepth from rfl] at h
    simp only [KC.val] at h
    have e : decide (KC.b a = KC.b b) = (a == b) := by cases a <;> cases b <;> rfl
    simp [binOp, Op.equal, h]
    cases a <;> cases b <;> rfl
theorem kt_bool1 : ktOf Try.prog 4 = some .b := by kernel_rfl
theorem und_bool1 : (Try.prog).underlying 4 = some .bool := by kernel_rfl
theorem ne_guard1 (t : TypeId) (x y : Operand) (a b : Bool) (w : World) (ht : (Try.prog).underlying t = some .bool) : (eqGuard .neq t x y (.bool a) (.bool b)).run Try.prog w = .ok () w := by
  simp [eqGuard, run_underlying ht]
theorem ne_bool1 (t : TypeId) (a b : Bool) (w : World) (hk : ktOf Try.prog t = some .b) : (binOp .neq t (.bool a) (.bool b)).run Try.prog w = .ok (.bool (a != b)) w := by
  have h := run_equalIn_kc (P := Try.prog) (w := w) hk (Op.maxDepth - 1) (a := .b a) (b := .b b) rfl rfl
  rw [show Op.maxDepth - 1 + 1 = Op.maxDepth from rfl] at h
  simp only [KC.val] at h
  simp [binOp, Op.equal, h]
  cases a <;> cases b <;> rfl

def smallB (p : Plan) : Bool := (p.Nodes.all (fun n => decide (n.Ends.length ≤ 8)) && p.Rails.all (fun r => decide (r.Shape.length ≤ 40))) &&
  !((decide (12 < p.Nodes.length) && decide (p.Nodes.length ≤ 300)) || ((decide (14 < p.Rails.length) && decide (p.Rails.length ≤ 400)) || (decide (400 < p.Nodes.length) || decide (500 < p.Rails.length))))
theorem c_small (p : Plan) (hf : p.Fit) : PureCall Try.prog 4 [p.av] (Bo (smallB p)) := by
  have hn := hf.n
  have hr := hf.r
  refine PureCall.of_body Try.func4 rfl (by decide) (by simp [Try.ntmps4]) ?_
  simp only [Try.ntmps4, Try.results4]
  refine awp_sr rfl fun K hK => ?_
  simp -dsimp
  refine hK _ _ ?_; clear hK K
  refine awp_seq_k fun K1 hK1 => ?_
  refine awp_sr rfl fun K hK => ?_
  simp -dsimp
  refine hK _ _ ?_; clear hK K
  refine awp_cond rfl (fun hc0 => ?_) (fun hc0 => ?_)
  · skip
    try simp at hc0
    have hv : smallB p = false := by simp only [smallB, Bool.and_eq_false_iff, Bool.not_eq_false']; right; simp; omega
    refine awp_sr rfl fun K hK => ?_
    simp -dsimp
    refine hK _ _ ?_; clear hK K
    exact awp_ret (by simp [hv])
  · skip
    try simp at hc0
    have hc9 : (!((decide (12 < p.Nodes.length) && decide (p.Nodes.length ≤ 300)) || ((decide (14 < p.Rails.length) && decide (p.Rails.length ≤ 400)) || (decide (400 < p.Nodes.length) || decide (500 < p.Rails.length))))) = true := by simp; omega
    refine awp_skip ?_
    simp only [thenA, inBlockA, reduceIte, Nat.reduceEqDiff, eq_self]
    refine hK1 _ _ ?_
    refine awp_prune [1] ?_
    simp only [prune, List.map_cons, List.map_nil, Go.AM.look, Nat.reduceEqDiff, reduceIte]
    refine awp_seq_k fun K2 hK2 => ?_
    refine awp_sr rfl fun K hK => ?_
    simp -dsimp
    refine hK _ _ ?_; clear hK K
    refine awp_block ?_
    refine awp_prune [1, 3] ?_
    simp only [prune, List.map_cons, List.map_nil, Go.AM.look, Nat.reduceEqDiff, reduceIte]
    refine awp_loop_l [1] (α := Nat) (fun k => [(3, I k)]) (fun _ => [some (.els 2 [p.cells])]) (fun k => k ≤ p.Nodes.length ∧ (p.Nodes.take k).all (fun n => decide (n.Ends.length ≤ 8)) = true) (fun k => p.Nodes.length - k) 0 ?_ ?_ ?_
    · simp
    · exact sub_same (by simp)
    rintro k ⟨k1, k2⟩
    simp only [List.cons_append, List.nil_append, prune, List.map_cons, List.map_nil, Go.AM.look, Nat.reduceEqDiff, reduceIte]
    refine awp_seq_k fun K3 hK3 => ?_
    refine awp_sr rfl fun K hK => ?_
    simp -dsimp
    refine hK _ _ ?_; clear hK K
    refine awp_cond rfl (fun hc1 => ?_) (fun hc1 => ?_)
    · skip
      try simp at hc1
      have g0 := p.node_get (i := (k : Int)) (by omega) (by omega)
      simp only [Int.toNat_natCast] at g0
      have wk : IntKind.i64.wrap ((k : Int) + 1) = (k : Int) + 1 := wrap_in (by omega) (by omega)
      refine awp_skip ?_
      simp only [thenA, inBlockA, reduceIte, Nat.reduceEqDiff, eq_self]
      refine hK3 _ _ ?_
      refine awp_prune [1, 3] ?_
      simp only [prune, List.map_cons, List.map_nil, Go.AM.look, Nat.reduceEqDiff, reduceIte]
      refine awp_seq_k fun K4 hK4 => ?_
      refine awp_block ?_
      refine awp_sr rfl fun K hK => ?_
      simp -dsimp [g0]
      refine hK _ _ ?_; clear hK K
      refine awp_cond rfl (fun hc2 => ?_) (fun hc2 => ?_)
      · skip
        try simp at hc2
        have hv : smallB p = false := by simp only [smallB]; rw [all_ff g0 (by simp; omega)]; simp
        refine awp_sr rfl fun K hK => ?_
        simp -dsimp
        refine hK _ _ ?_; clear hK K
        exact awp_ret (by simp [hv])
      · skip
        try simp at hc2
        refine awp_skip ?_
        simp only [thenA, inBlockA, reduceIte, Nat.reduceEqDiff, eq_self]
        refine hK4 _ _ ?_
        refine awp_prune [1, 3] ?_
        simp only [prune, List.map_cons, List.map_nil, Go.AM.look, Nat.reduceEqDiff, reduceIte]
        refine awp_r rfl fun K hK => ?_
        simp -dsimp [wk]
        refine hK _ _ ?_; clear hK K
        simp only [thenA, inBlockA, reduceIte, Nat.reduceEqDiff, eq_self]
        exact ⟨k + 1, ⟨by omega, by rw [take_all' g0, k2]; simp; omega⟩, by omega, sub_same (by simp)⟩
    · skip
      try simp at hc1
      have hN := all_of_take (by omega) k2
      refine awp_exit ?_
      simp only [thenA, inBlockA, reduceIte, Nat.reduceEqDiff, eq_self]
      refine hK2 _ _ ?_
      refine awp_prune [1] ?_
      simp only [prune, List.map_cons, List.map_nil, Go.AM.look, Nat.reduceEqDiff, reduceIte]
      refine awp_seq_k fun K5 hK5 => ?_
      refine awp_sr rfl fun K hK => ?_
      simp -dsimp
      refine hK _ _ ?_; clear hK K
      refine awp_block ?_
      refine awp_prune [1, 4] ?_
      simp only [prune, List.map_cons, List.map_nil, Go.AM.look, Nat.reduceEqDiff, reduceIte]
      refine awp_loop_l [1] (α := Nat) (fun k => [(4, I k)]) (fun _ => [some (.els 2 [p.cells])]) (fun k => k ≤ p.Rails.length ∧ (p.Rails.take k).all (fun r => decide (r.Shape.length ≤ 40)) = true) (fun k => p.Rails.length - k) 0 ?_ ?_ ?_
      · simp
      · exact sub_same (by simp)
      rintro j ⟨j1, j2⟩
      simp only [List.cons_append, List.nil_append, prune, List.map_cons, List.map_nil, Go.AM.look, Nat.reduceEqDiff, reduceIte]
      refine awp_seq_k fun K6 hK6 => ?_
      refine awp_sr rfl fun K hK => ?_
      simp -dsimp
      refine hK _ _ ?_; clear hK K
      refine awp_cond rfl (fun hc3 => ?_) (fun hc3 => ?_)
      · skip
        try simp at hc3
        have g0 := p.rail_get (i := (j : Int)) (by omega) (by omega)
        simp only [Int.toNat_natCast] at g0
        have wk : IntKind.i64.wrap ((j : Int) + 1) = (j : Int) + 1 := wrap_in (by omega) (by omega)
        refine awp_skip ?_
        simp only [thenA, inBlockA, reduceIte, Nat.reduceEqDiff, eq_self]
        refine hK6 _ _ ?_
        refine awp_prune [1, 4] ?_
        simp only [prune, List.map_cons, List.map_nil, Go.AM.look, Nat.reduceEqDiff, reduceIte]
        refine awp_seq_k fun K7 hK7 => ?_
        refine awp_block ?_
        refine awp_sr rfl fun K hK => ?_
        simp -dsimp [g0]
        refine hK _ _ ?_; clear hK K
        refine awp_cond rfl (fun hc4 => ?_) (fun hc4 => ?_)
        · skip
          try simp at hc4
          have hv : smallB p = false := by simp only [smallB]; rw [all_ff g0 (by simp; omega)]; simp
          refine awp_sr rfl fun K hK => ?_
          simp -dsimp
          refine hK _ _ ?_; clear hK K
          exact awp_ret (by simp [hv])
        · skip
          try simp at hc4
          refine awp_skip ?_
          simp only [thenA, inBlockA, reduceIte, Nat.reduceEqDiff, eq_self]
          refine hK7 _ _ ?_
          refine awp_prune [1, 4] ?_
          simp only [prune, List.map_cons, List.map_nil, Go.AM.look, Nat.reduceEqDiff, reduceIte]
          refine awp_r rfl fun K hK => ?_
          simp -dsimp [wk]
          refine hK _ _ ?_; clear hK K
          simp only [thenA, inBlockA, reduceIte, Nat.reduceEqDiff, eq_self]
          exact ⟨j + 1, ⟨by omega, by rw [take_all' g0, j2]; simp; omega⟩, by omega, sub_same (by simp)⟩
      · skip
        try simp at hc3
        have hR := all_of_take (by omega) j2
        have hv : smallB p = true := by simp only [smallB, hN, hR, hc9]; rfl
        refine awp_exit ?_
        simp only [thenA, inBlockA, reduceIte, Nat.reduceEqDiff, eq_self]
        refine hK5 _ _ ?_
        refine awp_prune [] ?_
        simp only [prune, List.map_cons, List.map_nil, Go.AM.look, Nat.reduceEqDiff, reduceIte]
        refine awp_sr rfl fun K hK => ?_
        simp -dsimp
        refine hK _ _ ?_; clear hK K
        exact awp_ret (by simp [hv])

def fineB (p : Plan) (m n : Move) : Bool := smallB p && (validB p && (movB p m && movB p n))
end Go.Tram
