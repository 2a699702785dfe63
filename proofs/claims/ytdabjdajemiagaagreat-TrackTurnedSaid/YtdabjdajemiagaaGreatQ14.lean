/- Walks: a plan whose rails are turned around. -/
import Derived.Test.YtdabjdajemiagaaGreatD8
import Derived.Test.YtdabjdajemiagaaGreatP6
namespace Go.Tram
open Go.AM Go.Proofs
set_option maxRecDepth 100000
set_option maxHeartbeats 4000000
set_option linter.unusedVariables false
set_option linter.unusedSimpArgs false

theorem flat_nodes (l : List Node) : (l.map Node.cells).all (fun e => e.all flatC) = true := by simp [flatC]
theorem flat_rails (l : List Rail) : (l.map Rail.cells).all (fun e => e.all flatC) = true := by simp [flatC]
@[simp high] theorem flat_nodes_ren (l : List Node) (g : List (Option Nat)) (n : Nat) : (l.map Node.cells).map (fun e => e.map (renAV g n)) = l.map Node.cells := map_flatC (fun x h => flatC_ren h g n) (flat_nodes l)
@[simp high] theorem flat_nodes_renF (l : List Node) (H : Nat → Option ARow) (g : List (Option Nat)) (n : Nat) : (l.map Node.cells).map (fun e => e.map (renF H g n)) = l.map Node.cells := map_flatC (fun x h => flatC_renF h H g n) (flat_nodes l)
@[simp high] theorem flat_nodes_frzP (l : List Node) (H : Hp) (n : Nat) : (l.map Node.cells).map (fun e => e.map (frzP H n)) = l.map Node.cells := map_flatC (fun x h => flatC_frzP h H n) (flat_nodes l)
@[simp high] theorem flat_nodes_plain (l : List Node) : plainEls (l.map Node.cells) = true := plain_flat (flat_nodes l)
@[simp high] theorem flat_rails_ren (l : List Rail) (g : List (Option Nat)) (n : Nat) : (l.map Rail.cells).map (fun e => e.map (renAV g n)) = l.map Rail.cells := map_flatC (fun x h => flatC_ren h g n) (flat_rails l)
@[simp high] theorem flat_rails_renF (l : List Rail) (H : Nat → Option ARow) (g : List (Option Nat)) (n : Nat) : (l.map Rail.cells).map (fun e => e.map (renF H g n)) = l.map Rail.cells := map_flatC (fun x h => flatC_renF h H g n) (flat_rails l)
@[simp high] theorem flat_rails_frzP (l : List Rail) (H : Hp) (n : Nat) : (l.map Rail.cells).map (fun e => e.map (frzP H n)) = l.map Rail.cells := map_flatC (fun x h => flatC_frzP h H n) (flat_rails l)
@[simp high] theorem flat_rails_plain (l : List Rail) : plainEls (l.map Rail.cells) = true := plain_flat (flat_rails l)

def tNs (l : List Node) : List Node := l.map tN
def tRs (l : List Rail) : List Rail := l.map tR
@[simp] theorem tNs_len (l : List Node) : (tNs l).length = l.length := by simp [tNs]
@[simp] theorem tRs_len (l : List Rail) : (tRs l).length = l.length := by simp [tRs]
@[simp] theorem tNs_nil : tNs [] = [] := rfl
@[simp] theorem tRs_nil : tRs [] = [] := rfl
theorem tNs_snoc (l : List Node) (n : Node) : tNs (l ++ [n]) = tNs l ++ [tN n] := by simp [tNs]
theorem tRs_snoc (l : List Rail) (n : Rail) : tRs (l ++ [n]) = tRs l ++ [tR n] := by simp [tRs]
theorem c_turned (p : Plan) (hv : validB p = true) (hN : p.Nodes.length ≤ 400) : PureCall Tryz.prog 37 [p.av] (turnP p).av := by
  have hR := (valid_parts hv).2.1
  have hrl : ∀ r ∈ p.Rails, r.Shape.length ≤ 30 ∧ -120 ≤ r.Slope ∧ r.Slope ≤ 120 := by
    intro r hr
    have := List.all_eq_true.1 (valid_parts hv).2.2.2.1 r hr
    simp only [railB, railA, Bool.and_eq_true, decide_eq_true_eq, inr_iff] at this
    exact ⟨this.1.2.2.1, this.1.2.2.2.2⟩
  have hnl : ∀ n ∈ p.Nodes, n.Ends.length ≤ 4 := fun n hn => nodeB_len (List.all_eq_true.1 (valid_parts hv).2.2.1 n hn)
  refine PureCall.of_body Tryz.func37 rfl (by decide) (by simp [Tryz.ntmps37]) ?_
  simp only [Tryz.ntmps37, Tryz.results37]
  refine awp_sr rfl fun K hK => ?_
  simp -dsimp
  refine hK _ _ ?_; clear hK K
  refine awp_sr rfl fun K hK => ?_
  simp -dsimp
  refine hK _ _ ?_; clear hK K
  refine awp_seq_k fun K1 hK1 => ?_
  refine awp_sr rfl fun K hK => ?_
  simp -dsimp
  refine hK _ _ ?_; clear hK K
  refine awp_block ?_
  refine awp_prune [1, 2, 3, 4] ?_
  simp only [prune, List.map_cons, List.map_nil, Go.AM.look, Nat.reduceEqDiff, reduceIte]
  refine awp_loop_l [1, 2, 3] (α := Nat) (fun i => [(4, I i)]) (fun i => [some (.els 2 [p.cells]), some (.els 2 [[nilS, nilS]]), some (.els 2 [[.row 3 0 (p.Nodes.take i).length, nilS]]), some (.els 5 ((tNs (p.Nodes.take i)).map Node.cells))]) (fun i => i ≤ p.Nodes.length) (fun i => p.Nodes.length - i) 0 ?_ ?_ ?_
  · simp
  · exact (sub_nilc 2 0 0 5 (sz0 := 2) (by simp; rfl) (by simp; rfl) (by simp)).trans (sub_rb [some 0, some 1, some 2, some 3] rfl (by simp) (by simp))
  rintro i i1
  generalize hO : p.Nodes.take i = O
  have hol : O.length ≤ 400 := by rw [← hO, List.length_take]; omega
  have f3 : Fits (O.length + 1) 57 := fits_of (by omega) (by omega)
  have hot : ((tNs O).map Node.cells).take O.length = (tNs O).map Node.cells := List.take_of_length_le (by simp)
  simp only [List.cons_append, List.nil_append, prune, List.map_cons, List.map_nil, Go.AM.look, Nat.reduceEqDiff, reduceIte]
  refine awp_seq_k fun K2 hK2 => ?_
  refine awp_sr rfl fun K hK => ?_
  simp -dsimp
  refine hK _ _ ?_; clear hK K
  refine awp_cond rfl (fun hc0 => ?_) (fun hc0 => ?_)
  · skip
    try simp at hc0
    have wi : IntKind.i64.wrap ((i : Int) + 1) = (i : Int) + 1 := wrap_in (by omega) (by omega)
    obtain ⟨n, hn⟩ : ∃ n, p.Nodes[i]? = some n := ⟨_, List.getElem?_eq_getElem hc0⟩
    have htk : p.Nodes.take (i + 1) = O ++ [n] := by rw [List.take_add_one, hn, ← hO]; simp
    have hnE := hnl n (List.mem_of_getElem? hn)
    refine awp_skip ?_
    simp only [thenA, inBlockA, reduceIte, Nat.reduceEqDiff, eq_self]
    refine hK2 _ _ ?_
    refine awp_prune [1, 2, 3, 4] ?_
    simp only [prune, List.map_cons, List.map_nil, Go.AM.look, Nat.reduceEqDiff, reduceIte]
    refine awp_seq_k fun K3 hK3 => ?_
    refine awp_block ?_
    refine awp_sr rfl fun K hK => ?_
    simp -dsimp [hn]
    refine hK _ _ ?_; clear hK K
    refine awp_sr rfl fun K hK => ?_
    simp -dsimp
    refine hK _ _ ?_; clear hK K
    refine awp_seq_k fun K4 hK4 => ?_
    refine awp_sr rfl fun K hK => ?_
    simp -dsimp
    refine hK _ _ ?_; clear hK K
    refine awp_block ?_
    refine awp_prune [1, 2, 3, 4, 5, 6] ?_
    simp only [prune, List.map_cons, List.map_nil, Go.AM.look, Nat.reduceEqDiff, reduceIte]
    refine awp_loop_l [1, 2, 3, 4, 5] (α := Nat) (fun j => [(6, I j)]) (fun j => [some (.els 2 [p.cells]), some (.els 2 [[nilS, nilS]]), some (.els 2 [[.row 3 0 O.length, nilS]]), some (.els 5 ((tNs O).map Node.cells)), some (.els 5 [[I n.Spot.X, I n.Spot.Y, I n.Kind, .row 5 0 (n.Ends.take j).length, I n.Normal]]), some (.els 2 ((n.Ends.take j).map (REnd.cells ∘ tE)))]) (fun j => j ≤ n.Ends.length) (fun j => n.Ends.length - j) 0 ?_ ?_ ?_
    · simp
    · exact (sub_nilc 4 0 3 2 (sz0 := 5) (by simp; rfl) (by simp; rfl) (by simp)).trans (sub_rb [some 0, some 1, some 2, some 3, some 4, some 5] rfl (by simp) (by simp))
    rintro j j1
    generalize hU : n.Ends.take j = U
    have hul : U.length ≤ 4 := by rw [← hU, List.length_take]; omega
    have f4 : Fits (U.length + 1) 17 := fits_of (by omega) (by omega)
    have hut : (U.map (REnd.cells ∘ tE)).take U.length = U.map (REnd.cells ∘ tE) := List.take_of_length_le (by simp)
    simp only [List.cons_append, List.nil_append, prune, List.map_cons, List.map_nil, Go.AM.look, Nat.reduceEqDiff, reduceIte]
    refine awp_seq_k fun K5 hK5 => ?_
    refine awp_sr rfl fun K hK => ?_
    simp -dsimp [hn]
    refine hK _ _ ?_; clear hK K
    refine awp_cond rfl (fun hc1 => ?_) (fun hc1 => ?_)
    · skip
      try simp at hc1
      have wj : IntKind.i64.wrap ((j : Int) + 1) = (j : Int) + 1 := wrap_in (by omega) (by omega)
      obtain ⟨e, he⟩ : ∃ e, n.Ends[j]? = some e := ⟨_, List.getElem?_eq_getElem hc1⟩
      have htu : n.Ends.take (j + 1) = U ++ [e] := by rw [List.take_add_one, he, ← hU]; simp
      refine awp_skip ?_
      simp only [thenA, inBlockA, reduceIte, Nat.reduceEqDiff, eq_self]
      refine hK5 _ _ ?_
      refine awp_prune [1, 2, 3, 4, 5, 6] ?_
      simp only [prune, List.map_cons, List.map_nil, Go.AM.look, Nat.reduceEqDiff, reduceIte]
      refine awp_seq_k fun K6 hK6 => ?_
      refine awp_block ?_
      refine awp_sr rfl fun K hK => ?_
      simp -dsimp [hn, he]
      refine hK _ _ ?_; clear hK K
      refine awp_r rfl fun K hK => ?_
      simp -dsimp [f4, hut]
      refine hK _ _ ?_; clear hK K
      simp only [thenA, inBlockA, reduceIte, Nat.reduceEqDiff, eq_self]
      refine hK6 _ _ ?_
      refine awp_prune [1, 2, 3, 4, 5, 6] ?_
      simp only [prune, List.map_cons, List.map_nil, Go.AM.look, Nat.reduceEqDiff, reduceIte]
      refine awp_r rfl fun K hK => ?_
      simp -dsimp [wj]
      refine hK _ _ ?_; clear hK K
      simp only [thenA, inBlockA, reduceIte, Nat.reduceEqDiff, eq_self]
      exact ⟨j + 1, by omega, by omega, sub_rb [some 0, some 1, some 2, some 3, some 4, some 7] rfl (by simp) (by simp [htu, tE])⟩
    · skip
      try simp at hc1
      have hje : j = n.Ends.length := by omega
      have hUe : U = n.Ends := by rw [← hU, List.take_of_length_le (by omega)]
      subst hUe
      refine awp_weak (sub_rfM [some 0, some 1, some 2, some 3, some 4] rfl) ?_
      simp [hut]
      refine awp_exit ?_
      simp only [thenA, inBlockA, reduceIte, Nat.reduceEqDiff, eq_self]
      refine hK4 _ _ ?_
      refine awp_prune [1, 2, 3, 4, 5] ?_
      simp only [prune, List.map_cons, List.map_nil, Go.AM.look, Nat.reduceEqDiff, reduceIte]
      refine awp_r rfl fun K hK => ?_
      simp -dsimp [f3, hot]
      refine hK _ _ ?_; clear hK K
      simp only [thenA, inBlockA, reduceIte, Nat.reduceEqDiff, eq_self]
      refine hK3 _ _ ?_
      refine awp_prune [1, 2, 3, 4] ?_
      simp only [prune, List.map_cons, List.map_nil, Go.AM.look, Nat.reduceEqDiff, reduceIte]
      refine awp_r rfl fun K hK => ?_
      simp -dsimp [wi]
      refine hK _ _ ?_; clear hK K
      simp only [thenA, inBlockA, reduceIte, Nat.reduceEqDiff, eq_self]
      exact ⟨i + 1, by omega, by omega, sub_rb [some 0, some 1, some 2, some 5] rfl (by simp) (by simp [htk, tN, tNs_snoc])⟩
  · skip
    try simp at hc0
    have hie : i = p.Nodes.length := by omega
    have hOe : O = p.Nodes := by rw [← hO, List.take_of_length_le (by omega)]
    subst hOe
    refine awp_weak (sub_rfM [some 0, some 1, some 2] rfl) ?_
    simp [hot]
    refine awp_exit ?_
    simp only [thenA, inBlockA, reduceIte, Nat.reduceEqDiff, eq_self]
    refine hK1 _ _ ?_
    refine awp_prune [1, 2, 3] ?_
    simp only [prune, List.map_cons, List.map_nil, Go.AM.look, Nat.reduceEqDiff, reduceIte]
    refine awp_seq_k fun K7 hK7 => ?_
    refine awp_sr rfl fun K hK => ?_
    simp -dsimp
    refine hK _ _ ?_; clear hK K
    refine awp_block ?_
    refine awp_prune [1, 2, 3, 8] ?_
    simp only [prune, List.map_cons, List.map_nil, Go.AM.look, Nat.reduceEqDiff, reduceIte]
    refine awp_loop_l [1, 2, 3] (α := Nat) (fun i => [(8, I i)]) (fun i => [some (.els 2 [p.cells]), some (.els 2 [[nilS, nilS]]), some (.els 2 [[.lst 5 ((tNs p.Nodes).map Node.cells), .row 3 0 (p.Rails.take i).length]]), some (.els 5 ((tRs (p.Rails.take i)).map Rail.cells))]) (fun i => i ≤ p.Rails.length) (fun i => p.Rails.length - i) 0 ?_ ?_ ?_
    · simp
    · exact (sub_nilc 2 0 1 5 (sz0 := 2) (by simp; rfl) (by simp; rfl) (by simp)).trans (sub_rb [some 0, some 1, some 2, some 3] rfl (by simp) (by simp))
    rintro i i1
    generalize hQ : p.Rails.take i = Q
    have hql : Q.length ≤ 400 := by rw [← hQ, List.length_take]; omega
    have f5 : Fits (Q.length + 1) 57 := fits_of (by omega) (by omega)
    have hqt : ((tRs Q).map Rail.cells).take Q.length = (tRs Q).map Rail.cells := List.take_of_length_le (by simp)
    simp only [List.cons_append, List.nil_append, prune, List.map_cons, List.map_nil, Go.AM.look, Nat.reduceEqDiff, reduceIte]
    refine awp_seq_k fun K8 hK8 => ?_
    refine awp_sr rfl fun K hK => ?_
    simp -dsimp
    refine hK _ _ ?_; clear hK K
    refine awp_cond rfl (fun hc2 => ?_) (fun hc2 => ?_)
    · skip
      try simp at hc2
      have wi : IntKind.i64.wrap ((i : Int) + 1) = (i : Int) + 1 := wrap_in (by omega) (by omega)
      obtain ⟨r, hr⟩ : ∃ r, p.Rails[i]? = some r := ⟨_, List.getElem?_eq_getElem hc2⟩
      have htk : p.Rails.take (i + 1) = Q ++ [r] := by rw [List.take_add_one, hr, ← hQ]; simp
      obtain ⟨hrs, hr1, hr2⟩ := hrl r (List.mem_of_getElem? hr)
      have ws : IntKind.i64.wrap (-r.Slope) = -r.Slope := wrap_in (by omega) (by omega)
      have w1 : IntKind.i64.wrap ((r.Shape.length : Int) - 1) = (r.Shape.length : Int) - 1 := wrap_in (by omega) (by omega)
      refine awp_skip ?_
      simp only [thenA, inBlockA, reduceIte, Nat.reduceEqDiff, eq_self]
      refine hK8 _ _ ?_
      refine awp_prune [1, 2, 3, 8] ?_
      simp only [prune, List.map_cons, List.map_nil, Go.AM.look, Nat.reduceEqDiff, reduceIte]
      refine awp_seq_k fun K9 hK9 => ?_
      refine awp_block ?_
      refine awp_sr rfl fun K hK => ?_
      simp -dsimp [hr]
      refine hK _ _ ?_; clear hK K
      refine awp_sr rfl fun K hK => ?_
      simp -dsimp [ws]
      refine hK _ _ ?_; clear hK K
      refine awp_sr rfl fun K hK => ?_
      simp -dsimp
      refine hK _ _ ?_; clear hK K
      refine awp_seq_k fun K10 hK10 => ?_
      refine awp_sr rfl fun K hK => ?_
      simp -dsimp [hr, w1]
      refine hK _ _ ?_; clear hK K
      refine awp_block ?_
      refine awp_prune [1, 2, 3, 8, 9, 10] ?_
      simp only [prune, List.map_cons, List.map_nil, Go.AM.look, Nat.reduceEqDiff, reduceIte]
      refine awp_loop_l [1, 2, 3, 8, 9] (α := Nat) (fun j => [(10, I (r.Shape.length - 1 - j))]) (fun j => [some (.els 2 [p.cells]), some (.els 2 [[nilS, nilS]]), some (.els 2 [[.lst 5 ((tNs p.Nodes).map Node.cells), .row 3 0 Q.length]]), some (.els 5 ((tRs Q).map Rail.cells)), some (.els 5 [[I r.To, I r.From, .row 5 0 (r.Shape.reverse.take j).length, I r.Limit, I (-r.Slope)]]), some (.els 2 ((r.Shape.reverse.take j).map Spot.cells))]) (fun j => j ≤ r.Shape.length) (fun j => r.Shape.length - j) 0 ?_ ?_ ?_
      · simp
      · exact (sub_nilc 4 0 2 2 (sz0 := 5) (by simp; rfl) (by simp; rfl) (by simp)).trans (sub_rb [some 0, some 1, some 2, some 3, some 4, some 5] rfl (by simp) (by simp))
      rintro j j1
      generalize hU : r.Shape.reverse.take j = U
      have hul : U.length ≤ 30 := by rw [← hU, List.length_take, List.length_reverse]; omega
      have f6 : Fits (U.length + 1) 17 := fits_of (by omega) (by omega)
      have hut : (U.map Spot.cells).take U.length = U.map Spot.cells := List.take_of_length_le (by simp)
      simp only [List.cons_append, List.nil_append, prune, List.map_cons, List.map_nil, Go.AM.look, Nat.reduceEqDiff, reduceIte]
      refine awp_seq_k fun K11 hK11 => ?_
      refine awp_sr rfl fun K hK => ?_
      simp -dsimp
      refine hK _ _ ?_; clear hK K
      refine awp_cond rfl (fun hc3 => ?_) (fun hc3 => ?_)
      · skip
        skip
        have hj : j < r.Shape.length := by simp at hc3; omega
        have wj : IntKind.i64.wrap ((r.Shape.length : Int) - 1 - j - 1) = (r.Shape.length : Int) - 1 - (j + 1 : Nat) := by rw [wrap_in (by omega) (by omega)]; omega
        obtain ⟨s, hs⟩ : ∃ s, r.Shape[r.Shape.length - 1 - j]? = some s := ⟨_, List.getElem?_eq_getElem (by omega)⟩
        have hrj : r.Shape.reverse[j]? = some s := by rw [List.getElem?_reverse hj, hs]
        have htu : r.Shape.reverse.take (j + 1) = U ++ [s] := by rw [List.take_add_one, hrj, ← hU]; simp
        have hn0 : (0 : Int) ≤ (r.Shape.length : Int) - 1 - j := by omega
        have hn1 : (j : Int) ≤ (r.Shape.length : Int) - 1 := by omega
        have hnt : ((r.Shape.length : Int) - 1 - j).toNat = r.Shape.length - 1 - j := by omega
        refine awp_skip ?_
        simp only [thenA, inBlockA, reduceIte, Nat.reduceEqDiff, eq_self]
        refine hK11 _ _ ?_
        refine awp_prune [1, 2, 3, 8, 9, 10] ?_
        simp only [prune, List.map_cons, List.map_nil, Go.AM.look, Nat.reduceEqDiff, reduceIte]
        refine awp_seq_k fun K12 hK12 => ?_
        refine awp_block ?_
        refine awp_draw mixed rfl fun K hK => ?_
        simp -dsimp [hr, hn0, hn1, hnt, hs, f6, hut]
        refine hK _ _ _ (by decide +kernel) ?_; clear hK K
        simp only [thenA, inBlockA, reduceIte, Nat.reduceEqDiff, eq_self]
        refine hK12 _ _ ?_
        refine awp_prune [1, 2, 3, 8, 9, 10] ?_
        simp only [prune, List.map_cons, List.map_nil, Go.AM.look, Nat.reduceEqDiff, reduceIte]
        refine awp_r rfl fun K hK => ?_
        simp -dsimp [wj]
        refine hK _ _ ?_; clear hK K
        simp only [thenA, inBlockA, reduceIte, Nat.reduceEqDiff, eq_self]
        exact ⟨j + 1, by omega, by omega, sub_rb [some 0, some 1, some 2, some 3, some 4, some 6] rfl (by simp) (by simp [htu])⟩
      · skip
        skip
        have hje : j = r.Shape.length := by simp at hc3; omega
        have hUe : U = r.Shape.reverse := by rw [← hU, List.take_of_length_le (by simp; omega)]
        have hut2 : (r.Shape.map Spot.cells).reverse.take r.Shape.length = (r.Shape.map Spot.cells).reverse := List.take_of_length_le (by simp)
        subst hUe
        refine awp_weak (sub_rfM [some 0, some 1, some 2, some 3, some 4] rfl) ?_
        simp [hut]
        refine awp_exit ?_
        simp only [thenA, inBlockA, reduceIte, Nat.reduceEqDiff, eq_self]
        refine hK10 _ _ ?_
        refine awp_prune [1, 2, 3, 8, 9] ?_
        simp only [prune, List.map_cons, List.map_nil, Go.AM.look, Nat.reduceEqDiff, reduceIte]
        refine awp_r rfl fun K hK => ?_
        simp -dsimp [f5, hqt]
        refine hK _ _ ?_; clear hK K
        simp only [thenA, inBlockA, reduceIte, Nat.reduceEqDiff, eq_self]
        refine hK9 _ _ ?_
        refine awp_prune [1, 2, 3, 8] ?_
        simp only [prune, List.map_cons, List.map_nil, Go.AM.look, Nat.reduceEqDiff, reduceIte]
        refine awp_r rfl fun K hK => ?_
        simp -dsimp [wi]
        refine hK _ _ ?_; clear hK K
        simp only [thenA, inBlockA, reduceIte, Nat.reduceEqDiff, eq_self]
        exact ⟨i + 1, by omega, by omega, sub_rb [some 0, some 1, some 2, some 5] rfl (by simp) (by simp [htk, tR, tRs_snoc, hut2])⟩
    · skip
      try simp at hc2
      have hie : i = p.Rails.length := by omega
      have hQe : Q = p.Rails := by rw [← hQ, List.take_of_length_le (by omega)]
      subst hQe
      refine awp_weak (sub_rfM [some 0, some 1, some 2] rfl) ?_
      simp [hqt]
      refine awp_exit ?_
      simp only [thenA, inBlockA, reduceIte, Nat.reduceEqDiff, eq_self]
      refine hK7 _ _ ?_
      refine awp_prune [2, 3] ?_
      simp only [prune, List.map_cons, List.map_nil, Go.AM.look, Nat.reduceEqDiff, reduceIte]
      refine awp_sr rfl fun K hK => ?_
      simp -dsimp
      refine hK _ _ ?_; clear hK K
      exact awp_ret (by simp [turnP, tNs, tRs])
end Go.Tram
