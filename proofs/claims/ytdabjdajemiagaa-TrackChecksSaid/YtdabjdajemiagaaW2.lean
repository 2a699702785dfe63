/- Walks: a plan's validity in the specification. -/
import Derived.Test.YtdabjdajemiagaaW1
namespace Go.Tram
open Go.AM Go.Proofs
set_option maxRecDepth 10000
set_option maxHeartbeats 4000000
set_option linter.unusedVariables false
set_option linter.unusedSimpArgs false

theorem c_Line (p : Plan) (i : Int) (h0 : 0 ≤ i) (h1 : i < p.Rails.length) (hf : 0 ≤ (p.rail i).From ∧ (p.rail i).From < p.Nodes.length) (ht : 0 ≤ (p.rail i).To ∧ (p.rail i).To < p.Nodes.length) (hs : (p.rail i).Shape.length ≤ 1000) :
    PureCall Try.prog 12 [p.av, I i] (.lst 2 ((p.line i).map Spot.cells)) := by
  have e1 : p.Rails[i.toNat]? = some (p.rail i) := Plan.rail_get h0 h1
  have e2 : p.Nodes[(p.rail i).From.toNat]? = some (p.node (p.rail i).From) := Plan.node_get hf.1 hf.2
  have e3 : p.Nodes[(p.rail i).To.toNat]? = some (p.node (p.rail i).To) := Plan.node_get ht.1 ht.2
  have b0 : Fits (1 + 1) 17 := fits_of (by omega) (by omega)
  have b1 : Fits ((p.rail i).Shape.length + 1) 17 := fits_of (by omega) (by omega)
  have b2 : Fits (1 + (p.rail i).Shape.length) 17 := fits_of (by omega) (by omega)
  have b3 : Fits (1 + (p.rail i).Shape.length + 1) 17 := fits_of (by omega) (by omega)
  have b4 : Fits (1 + (1 + (p.rail i).Shape.length)) 17 := fits_of (by omega) (by omega)
  have b5 : Fits 2 17 := fits_of (by omega) (by omega)
  by_cases hsh : (p.rail i).Shape = []
  · skip
    refine PureCall.of_body Try.func12 rfl (by decide) (by simp [Try.ntmps12]) ?_
    simp only [Try.ntmps12, Try.results12]
    refine awp_sr rfl fun K hK => ?_
    simp -dsimp
    refine hK _ _ ?_; clear hK K
    refine awp_sr rfl fun K hK => ?_
    simp -dsimp [e1, h0]
    refine hK _ _ ?_; clear hK K
    refine awp_sr rfl fun K hK => ?_
    simp -dsimp [e2, hf.1]
    refine hK _ _ ?_; clear hK K
    refine awp_sr rfl fun K hK => ?_
    simp -dsimp [hsh]
    refine hK _ _ ?_; clear hK K
    refine awp_sr rfl fun K hK => ?_
    simp -dsimp [e3, ht.1, b0, b5]
    refine hK _ _ ?_; clear hK K
    exact awp_ret (by simp [Plan.line, lineOf, hsh])
  · skip
    refine PureCall.of_body Try.func12 rfl (by decide) (by simp [Try.ntmps12]) ?_
    simp only [Try.ntmps12, Try.results12]
    refine awp_sr rfl fun K hK => ?_
    simp -dsimp
    refine hK _ _ ?_; clear hK K
    refine awp_sr rfl fun K hK => ?_
    simp -dsimp [e1, h0]
    refine hK _ _ ?_; clear hK K
    refine awp_sr rfl fun K hK => ?_
    simp -dsimp [e2, hf.1]
    refine hK _ _ ?_; clear hK K
    refine awp_sr rfl fun K hK => ?_
    simp -dsimp [hsh, b1, b2]
    refine hK _ _ ?_; clear hK K
    refine awp_sr rfl fun K hK => ?_
    simp -dsimp [e3, ht.1, b1, b2, b3, b4, Nat.add_comm, List.take_succ_cons, List.take_of_length_le]
    refine hK _ _ ?_; clear hK K
    exact awp_ret (by simp [Plan.line, lineOf, Nat.add_comm, List.take_of_length_le, Function.comp_def])

theorem c_at (p : Plan) (e : REnd) (h0 : 0 ≤ e.Rail) (h1 : e.Rail < p.Rails.length) : PureCall Try.prog 25 [p.av, e.av] (I (p.at e)) := by
  have e1 : p.Rails[e.Rail.toNat]? = some (p.rail e.Rail) := Plan.rail_get h0 h1
  refine PureCall.of_body Try.func25 rfl (by decide) (by simp [Try.ntmps25]) ?_
  simp only [Try.ntmps25, Try.results25]
  refine awp_sr rfl fun K hK => ?_
  simp -dsimp
  refine hK _ _ ?_; clear hK K
  refine awp_seq_k fun K1 hK1 => ?_
  refine awp_sr rfl fun K hK => ?_
  simp -dsimp
  refine hK _ _ ?_; clear hK K
  refine awp_cond rfl (fun hc0 => ?_) (fun hc0 => ?_)
  · skip
    try simp at hc0
    refine awp_sr rfl fun K hK => ?_
    simp -dsimp [e1, h0]
    refine hK _ _ ?_; clear hK K
    exact awp_ret (by simp [Plan.at, hc0])
  · skip
    try simp at hc0
    refine awp_skip ?_
    simp only [thenA, inBlockA, reduceIte, Nat.reduceEqDiff, eq_self]
    refine hK1 _ _ ?_
    refine awp_prune [2, 3] ?_
    simp only [prune, List.map_cons, List.map_nil, Go.AM.look, Nat.reduceEqDiff, reduceIte]
    refine awp_sr rfl fun K hK => ?_
    simp -dsimp [e1, h0]
    refine hK _ _ ?_; clear hK K
    exact awp_ret (by simp [Plan.at, hc0])

theorem c_Length (p : Plan) (i : Int) (h0 : 0 ≤ i) (h1 : i < p.Rails.length) (hf : 0 ≤ (p.rail i).From ∧ (p.rail i).From < p.Nodes.length) (ht : 0 ≤ (p.rail i).To ∧ (p.rail i).To < p.Nodes.length) (hs : (p.rail i).Shape.length ≤ 1000)
    (hsp : (p.line i).all spotB = true) : PureCall Try.prog 10 [p.av, I i] (I (p.len i)) := by
  have hl := line_len p i
  have hb : ∀ k, k < (p.line i).length → spotB (nth (p.line i) k) = true := fun k hk => List.all_eq_true.1 hsp _ (List.mem_of_getElem? (nth_get hk))
  have hsum : ∀ k, k + 1 < (p.line i).length → 0 ≤ sumTo (p.line i) k ∧ sumTo (p.line i) k ≤ k * 30000000 := by
    intro k
    induction k with
    | zero => intro _; simp [sumTo]
    | succ k ih =>
      intro hk
      have := ih (by omega)
      have h2 := far_bd (hb k (by omega)) (hb (k + 1) (by omega))
      simp only [sumTo, segLen]
      omega
  refine PureCall.of_body Try.func10 rfl (by decide) (by simp [Try.ntmps10]) ?_
  simp only [Try.ntmps10, Try.results10]
  refine awp_sr rfl fun K hK => ?_
  simp -dsimp
  refine hK _ _ ?_; clear hK K
  refine awp_sr rfl fun K hK => ?_
  simp -dsimp
  refine callK_intro _ (c_Line p i h0 h1 hf ht hs) (by simp) ?_
  simp -dsimp
  refine hK _ _ ?_; clear hK K
  refine awp_sr rfl fun K hK => ?_
  simp -dsimp
  refine hK _ _ ?_; clear hK K
  refine awp_seq_k fun K1 hK1 => ?_
  refine awp_sr rfl fun K hK => ?_
  simp -dsimp
  refine hK _ _ ?_; clear hK K
  refine awp_block ?_
  refine awp_prune [5, 6, 7] ?_
  simp only [prune, List.map_cons, List.map_nil, Go.AM.look, Nat.reduceEqDiff, reduceIte]
  refine awp_loop_l [5] (α := Nat) (fun k => [(6, I (sumTo (p.line i) (k - 1))), (7, I k)]) (fun _ => [some (.els 2 [p.cells])]) (fun k => 1 ≤ k ∧ k ≤ (p.line i).length) (fun k => (p.line i).length - k) 1 ?_ ?_ ?_
  · simp [hl]
  · exact sub_same (by simp [sumTo])
  rintro k ⟨k1, k2⟩
  simp only [List.cons_append, List.nil_append, prune, List.map_cons, List.map_nil, Go.AM.look, Nat.reduceEqDiff, reduceIte]
  refine awp_seq_k fun K2 hK2 => ?_
  refine awp_sr rfl fun K hK => ?_
  simp -dsimp
  refine hK _ _ ?_; clear hK K
  refine awp_cond rfl (fun hc0 => ?_) (fun hc0 => ?_)
  · skip
    try simp at hc0
    have wk : IntKind.i64.wrap ((k : Int) - 1) = ((k - 1 : Nat) : Int) := by rw [wrap_in (by omega) (by omega)]; omega
    have g1 := nth_get (l := p.line i) (k := k - 1) (by omega)
    have g2 := nth_get (l := p.line i) (k := k) (by omega)
    have q1 := hsum (k - 1) (by omega)
    have q2 := far_bd (hb (k - 1) (by omega)) (hb k (by omega))
    have wa : IntKind.i64.wrap (sumTo (p.line i) (k - 1) + far (nth (p.line i) (k - 1)) (nth (p.line i) k)) = sumTo (p.line i) (k - 1) + far (nth (p.line i) (k - 1)) (nth (p.line i) k) := wrap_in (by omega) (by omega)
    have wi : IntKind.i64.wrap ((k : Int) + 1) = (k : Int) + 1 := wrap_in (by omega) (by omega)
    refine awp_skip ?_
    simp only [thenA, inBlockA, reduceIte, Nat.reduceEqDiff, eq_self]
    refine hK2 _ _ ?_
    refine awp_prune [5, 6, 7] ?_
    simp only [prune, List.map_cons, List.map_nil, Go.AM.look, Nat.reduceEqDiff, reduceIte]
    refine awp_seq_k fun K3 hK3 => ?_
    refine awp_block ?_
    refine awp_draw mixed rfl fun K hK => ?_
    simp -dsimp [wk, g1, g2, wa]
    refine callK_intro _ (c_Far (nth (p.line i) (k - 1)) (nth (p.line i) k) (hb _ (by omega)) (hb _ (by omega))) (by simp) ?_
    simp -dsimp [wk, g1, g2, wa]
    refine hK _ _ _ (by decide +kernel) ?_; clear hK K
    simp only [thenA, inBlockA, reduceIte, Nat.reduceEqDiff, eq_self]
    refine hK3 _ _ ?_
    refine awp_prune [5, 6, 7] ?_
    simp only [prune, List.map_cons, List.map_nil, Go.AM.look, Nat.reduceEqDiff, reduceIte]
    refine awp_r rfl fun K hK => ?_
    simp -dsimp [wi]
    refine hK _ _ ?_; clear hK K
    simp only [thenA, inBlockA, reduceIte, Nat.reduceEqDiff, eq_self]
    obtain ⟨j, rfl⟩ : ∃ j, k = j + 1 := ⟨k - 1, by omega⟩
    exact ⟨j + 2, ⟨by omega, by omega⟩, by omega, sub_same (by simp [sumTo, segLen] <;> omega)⟩
  · skip
    try simp at hc0
    refine awp_exit ?_
    simp only [thenA, inBlockA, reduceIte, Nat.reduceEqDiff, eq_self]
    refine hK1 _ _ ?_
    refine awp_prune [6] ?_
    simp only [prune, List.map_cons, List.map_nil, Go.AM.look, Nat.reduceEqDiff, reduceIte]
    refine awp_sr rfl fun K hK => ?_
    simp -dsimp
    refine hK _ _ ?_; clear hK K
    refine awp_ret ?_
    have : k = (p.rail i).Shape.length + 2 := by omega
    subst this
    simp [Plan.len]
end Go.Tram
