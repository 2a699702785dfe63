/- Walks: a plan's validity in the specification. -/
import Derived.Test.YteodgilndjjgdaaGreatW1
namespace Go.Tram
open Go.AM Go.Proofs
set_option maxRecDepth 10000
set_option maxHeartbeats 4000000
set_option linter.unusedVariables false
set_option linter.unusedSimpArgs false

theorem c_Line (p : Plan) (i : Int) (h0 : 0 ≤ i) (h1 : i < p.Rails.length) (hf : 0 ≤ (p.rail i).From ∧ (p.rail i).From < p.Nodes.length) (ht : 0 ≤ (p.rail i).To ∧ (p.rail i).To < p.Nodes.length) (hs : (p.rail i).Shape.length ≤ 1000) :
    PureCall Tryz.prog 15 [p.av, I i] (.lst 2 ((p.line i).map Spot.cells)) := by
  have e1 : p.Rails[i.toNat]? = some (p.rail i) := Plan.rail_get h0 h1
  have e2 : p.Nodes[(p.rail i).From.toNat]? = some (p.node (p.rail i).From) := Plan.node_get hf.1 hf.2
  have e3 : p.Nodes[(p.rail i).To.toNat]? = some (p.node (p.rail i).To) := Plan.node_get ht.1 ht.2
  have b0 : Fits (1 + 1) 17 := fits_of (by omega) (by omega)
  have b1 : Fits ((p.rail i).Shape.length + 1) 17 := fits_of (by omega) (by omega)
  have b2 : Fits (1 + (p.rail i).Shape.length) 17 := fits_of (by omega) (by omega)
  have b3 : Fits (1 + (p.rail i).Shape.length + 1) 17 := fits_of (by omega) (by omega)
  have b4 : Fits (1 + (1 + (p.rail i).Shape.length)) 17 := fits_of (by omega) (by omega)
  have b5 : Fits 2 17 := fits_of (by omega) (by omega)
  by_cases hsh : (p.rail i).Shape = []
  · skip
    refine PureCall.of_body Tryz.func15 rfl (by decide) (by simp [Tryz.ntmps15]) ?_
    simp only [Tryz.ntmps15, Tryz.results15]
    refine awp_sr rfl fun K hK => ?_
    simp -dsimp
    refine hK _ _ ?_; clear hK K
    refine awp_sr rfl fun K hK => ?_
    simp -dsimp [e1, h0]
    refine hK _ _ ?_; clear hK K
    refine awp_sr rfl fun K hK => ?_
    simp -dsimp [e2, hf.1]
    refine hK _ _ ?_; clear hK K
    refine awp_sr rfl fun K hK => ?_
    simp -dsimp [hsh]
    refine hK _ _ ?_; clear hK K
    refine awp_sr rfl fun K hK => ?_
    simp -dsimp [e3, ht.1, b0, b5]
    refine hK _ _ ?_; clear hK K
    exact awp_ret (by simp [Plan.line, lineOf, hsh])
  · skip
    refine PureCall.of_body Tryz.func15 rfl (by decide) (by simp [Tryz.ntmps15]) ?_
    simp only [Tryz.ntmps15, Tryz.results15]
    refine awp_sr rfl fun K hK => ?_
    simp -dsimp
    refine hK _ _ ?_; clear hK K
    refine awp_sr rfl fun K hK => ?_
    simp -dsimp [e1, h0]
    refine hK _ _ ?_; clear hK K
    refine awp_sr rfl fun K hK => ?_
    simp -dsimp [e2, hf.1]
    refine hK _ _ ?_; clear hK K
    refine awp_sr rfl fun K hK => ?_
    simp -dsimp [hsh, b1, b2]
    refine hK _ _ ?_; clear hK K
    refine awp_sr rfl fun K hK => ?_
    simp -dsimp [e3, ht.1, b1, b2, b3, b4, Nat.add_comm, List.take_succ_cons, List.take_of_length_le]
    refine hK _ _ ?_; clear hK K
    exact awp_ret (by simp [Plan.line, lineOf, Nat.add_comm, List.take_of_length_le, Function.comp_def])

theorem c_at (p : Plan) (e : REnd) (h0 : 0 ≤ e.Rail) (h1 : e.Rail < p.Rails.length) : PureCall Tryz.prog 17 [p.av, e.av] (I (p.at e)) := by
  have e1 : p.Rails[e.Rail.toNat]? = some (p.rail e.Rail) := Plan.rail_get h0 h1
  refine PureCall.of_body Tryz.func17 rfl (by decide) (by simp [Tryz.ntmps17]) ?_
  simp only [Tryz.ntmps17, Tryz.results17]
  refine awp_sr rfl fun K hK => ?_
  simp -dsimp
  refine hK _ _ ?_; clear hK K
  refine awp_seq_k fun K1 hK1 => ?_
  refine awp_sr rfl fun K hK => ?_
  simp -dsimp
  refine hK _ _ ?_; clear hK K
  refine awp_cond rfl (fun hc0 => ?_) (fun hc0 => ?_)
  · skip
    try simp at hc0
    refine awp_sr rfl fun K hK => ?_
    simp -dsimp [e1, h0]
    refine hK _ _ ?_; clear hK K
    exact awp_ret (by simp [Plan.at, hc0])
  · skip
    try simp at hc0
    refine awp_skip ?_
    simp only [thenA, inBlockA, reduceIte, Nat.reduceEqDiff, eq_self]
    refine hK1 _ _ ?_
    refine awp_prune [2, 3] ?_
    simp only [prune, List.map_cons, List.map_nil, Go.AM.look, Nat.reduceEqDiff, reduceIte]
    refine awp_sr rfl fun K hK => ?_
    simp -dsimp [e1, h0]
    refine hK _ _ ?_; clear hK K
    exact awp_ret (by simp [Plan.at, hc0])

end Go.Tram
