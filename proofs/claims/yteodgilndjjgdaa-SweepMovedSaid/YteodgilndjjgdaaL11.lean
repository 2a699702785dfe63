/- Walks: the theorem of maps. -/
import Derived.Test.YteodgilndjjgdaaL9
namespace Go.Tram
open Go.AM Go.Proofs
set_option maxRecDepth 100000
set_option maxHeartbeats 4000000
set_option linter.unusedVariables false
set_option linter.unusedSimpArgs false

theorem c_moved (s y : Spot) (k : Int) (hs : spotB s = true) (hy : (-100000 ≤ y.X ∧ y.X ≤ 100000) ∧ -100000 ≤ y.Y ∧ y.Y ≤ 100000) : PureCall Try.prog 44 [s.av, y.av, I k] (.agg [I (moveS y k s).X, I (moveS y k s).Y]) := by
  rw [spotB_iff] at hs
  have w1 : IntKind.i64.wrap (s.X + y.X) = s.X + y.X := wrap_in (by omega) (by omega)
  have w2 : IntKind.i64.wrap (s.Y + y.Y) = s.Y + y.Y := wrap_in (by omega) (by omega)
  have w3 : IntKind.i64.wrap (s.Y + y.X) = s.Y + y.X := wrap_in (by omega) (by omega)
  have w4 : IntKind.i64.wrap (s.X + y.Y) = s.X + y.Y := wrap_in (by omega) (by omega)
  have w5 : IntKind.i64.wrap (-s.Y) = -s.Y := wrap_in (by omega) (by omega)
  have w6 : IntKind.i64.wrap (-s.Y + y.Y) = -s.Y + y.Y := wrap_in (by omega) (by omega)
  refine PureCall.of_body Try.func44 rfl (by decide) (by simp [Try.ntmps44]) ?_
  simp only [Try.ntmps44, Try.results44]
  refine awp_sr rfl fun K hK => ?_
  simp -dsimp
  refine hK _ _ ?_; clear hK K
  refine awp_seq_k fun K1 hK1 => ?_
  refine awp_sr rfl fun K hK => ?_
  simp -dsimp
  refine hK _ _ ?_; clear hK K
  refine awp_block ?_
  refine awp_sr rfl fun K hK => ?_
  simp -dsimp
  refine hK _ _ ?_; clear hK K
  refine awp_cond rfl (fun hc0 => ?_) (fun hc0 => ?_)
  · skip
    try simp at hc0
    refine awp_r rfl fun K hK => ?_
    simp -dsimp
    refine hK _ _ ?_; clear hK K
    simp only [thenA, inBlockA, reduceIte, Nat.reduceEqDiff, eq_self]
    refine hK1 _ _ ?_
    refine awp_prune [3, 4, 6] ?_
    simp only [prune, List.map_cons, List.map_nil, Go.AM.look, Nat.reduceEqDiff, reduceIte]
    refine awp_sr rfl fun K hK => ?_
    simp -dsimp [w1, w2, w3, w4, w5, w6]
    refine hK _ _ ?_; clear hK K
    exact awp_ret (by simp [moveS, hc0])
  · skip
    try simp at hc0
    refine awp_sr rfl fun K hK => ?_
    simp -dsimp
    refine hK _ _ ?_; clear hK K
    refine awp_cond rfl (fun hc1 => ?_) (fun hc1 => ?_)
    · skip
      try simp at hc1
      refine awp_r rfl fun K hK => ?_
      simp -dsimp [w5]
      refine hK _ _ ?_; clear hK K
      simp only [thenA, inBlockA, reduceIte, Nat.reduceEqDiff, eq_self]
      refine hK1 _ _ ?_
      refine awp_prune [3, 4, 6] ?_
      simp only [prune, List.map_cons, List.map_nil, Go.AM.look, Nat.reduceEqDiff, reduceIte]
      refine awp_sr rfl fun K hK => ?_
      simp -dsimp [w1, w2, w3, w4, w5, w6]
      refine hK _ _ ?_; clear hK K
      exact awp_ret (by simp [moveS, hc0, hc1])
    · skip
      try simp at hc1
      refine awp_skip ?_
      simp only [thenA, inBlockA, reduceIte, Nat.reduceEqDiff, eq_self]
      refine hK1 _ _ ?_
      refine awp_prune [3, 4, 6] ?_
      simp only [prune, List.map_cons, List.map_nil, Go.AM.look, Nat.reduceEqDiff, reduceIte]
      refine awp_sr rfl fun K hK => ?_
      simp -dsimp [w1, w2, w3, w4, w5, w6]
      refine hK _ _ ?_; clear hK K
      exact awp_ret (by simp [moveS, hc0, hc1])

theorem flat_nodes (l : List Node) : (l.map Node.cells).all (fun e => e.all flatC) = true := by simp [flatC]
theorem flat_rails (l : List Rail) : (l.map Rail.cells).all (fun e => e.all flatC) = true := by simp [flatC]
@[simp high] theorem flat_nodes_ren (l : List Node) (g : List (Option Nat)) (n : Nat) : (l.map Node.cells).map (fun e => e.map (renAV g n)) = l.map Node.cells := map_flatC (fun x h => flatC_ren h g n) (flat_nodes l)
@[simp high] theorem flat_nodes_renF (l : List Node) (H : Nat → Option ARow) (g : List (Option Nat)) (n : Nat) : (l.map Node.cells).map (fun e => e.map (renF H g n)) = l.map Node.cells := map_flatC (fun x h => flatC_renF h H g n) (flat_nodes l)
@[simp high] theorem flat_nodes_frzP (l : List Node) (H : Hp) (n : Nat) : (l.map Node.cells).map (fun e => e.map (frzP H n)) = l.map Node.cells := map_flatC (fun x h => flatC_frzP h H n) (flat_nodes l)
@[simp high] theorem flat_nodes_plain (l : List Node) : plainEls (l.map Node.cells) = true := plain_flat (flat_nodes l)
@[simp high] theorem flat_rails_ren (l : List Rail) (g : List (Option Nat)) (n : Nat) : (l.map Rail.cells).map (fun e => e.map (renAV g n)) = l.map Rail.cells := map_flatC (fun x h => flatC_ren h g n) (flat_rails l)
@[simp high] theorem flat_rails_renF (l : List Rail) (H : Nat → Option ARow) (g : List (Option Nat)) (n : Nat) : (l.map Rail.cells).map (fun e => e.map (renF H g n)) = l.map Rail.cells := map_flatC (fun x h => flatC_renF h H g n) (flat_rails l)
@[simp high] theorem flat_rails_frzP (l : List Rail) (H : Hp) (n : Nat) : (l.map Rail.cells).map (fun e => e.map (frzP H n)) = l.map Rail.cells := map_flatC (fun x h => flatC_frzP h H n) (flat_rails l)
@[simp high] theorem flat_rails_plain (l : List Rail) : plainEls (l.map Rail.cells) = true := plain_flat (flat_rails l)

def mvN (m : Spot → Spot) (n : Node) : Node := ⟨m n.Spot, n.Kind, n.Ends, n.Normal⟩
def mvR (m : Spot → Spot) (r : Rail) : Rail := ⟨r.From, r.To, r.Shape.map m, r.Limit, r.Slope⟩
def movTo {α : Type} (f : α → α) (l : List α) (i : Nat) : List α := (l.take i).map f ++ l.drop i
theorem movTo_zero {α : Type} (f : α → α) (l : List α) : movTo f l 0 = l := by simp [movTo]
theorem movTo_all {α : Type} (f : α → α) (l : List α) : movTo f l l.length = l.map f := by simp [movTo]
theorem movTo_len {α : Type} (f : α → α) (l : List α) {i : Nat} (h : i ≤ l.length) : (movTo f l i).length = l.length := by simp [movTo]; omega
theorem movTo_get {α : Type} {f : α → α} {l : List α} {i : Nat} {x : α} (h : l[i]? = some x) : (movTo f l i)[i]? = some x := by
  have hi := (List.getElem?_eq_some_iff.1 h).1
  unfold movTo
  rw [List.getElem?_append_right (by simp; omega)]
  simp [Nat.min_eq_left (Nat.le_of_lt hi), h]
theorem movTo_set {α : Type} {f : α → α} {l : List α} {i : Nat} {x : α} (h : l[i]? = some x) : (movTo f l i).set i (f x) = movTo f l (i + 1) := by
  obtain ⟨hi, hx⟩ := List.getElem?_eq_some_iff.1 h
  unfold movTo
  have hd : l.drop i = x :: l.drop (i + 1) := by rw [List.drop_eq_getElem_cons hi, hx]
  rw [List.set_append, if_neg (by simp; omega), hd, List.take_add_one, h]
  simp [Nat.min_eq_left (Nat.le_of_lt hi)]

theorem c_SweepMoved (p : Plan) (x : Profile) (a b : Strip) (y : Spot) (k : Int) (hf : p.Fit) : PureCall Try.prog 13 [p.av, x.av, a.av, b.av, y.av, I k] (Bo true) := by
  have hm := moveS_iso y k
  have hmov := fun s hs hy => c_moved s y k hs hy
  generalize hmm : moveS y k = m at hm hmov
  have tv := c_Valid (movedP m p)
  have tg := c_Gap (movedP m p) a b
  have tf := fun hv hN => fun (hx : profB x = true) => (c_Fouls_t (movedP m p) [x] hv (by simp [profsB, hx]) hN).wk (args := [(movedP m p).av, .full 2 [x.cells]]) (by simp [AM.wk])
  have hq : (movedP m p).av = .agg [.lst 5 (p.Nodes.map (Node.cells ∘ mvN m)), .lst 5 (p.Rails.map (Rail.cells ∘ mvR m))] := by rw [← List.map_map, ← List.map_map]; rfl
  have hk1 : List.take p.Nodes.length (List.map (Node.cells ∘ mvN m) p.Nodes) = List.map (Node.cells ∘ mvN m) p.Nodes := List.take_of_length_le (by simp)
  have hk2 : List.take p.Rails.length (List.map (Rail.cells ∘ mvR m) p.Rails) = List.map (Rail.cells ∘ mvR m) p.Rails := List.take_of_length_le (by simp)
  rw [hq] at tv tg
  simp only [hq] at tf
  rw [moved_rails] at tf
  clear hq
  refine PureCall.of_body Try.func13 rfl (by decide) (by simp [Try.ntmps13]) ?_
  simp only [Try.ntmps13, Try.results13]
  refine awp_sr rfl fun K hK => ?_
  simp -dsimp
  refine hK _ _ ?_; clear hK K
  refine awp_seq_k fun K1 hK1 => ?_
  refine awp_sr rfl fun K hK => ?_
  simp -dsimp
  refine callK_intro _ (c_few p hf) (by simp) ?_
  simp -dsimp
  refine callK_may _ (fun hm => c_Valid p) (by simp) ?_
  simp -dsimp
  refine callK_may _ (fun hm => c_rProfile x) (by simp) ?_
  simp -dsimp
  refine callK_may _ (fun hm => (c_rStrip p a (by simp at hm; simp [hm]))) (by simp) ?_
  simp -dsimp
  refine callK_may _ (fun hm => (c_rStrip p b (by simp at hm; simp [hm]))) (by simp) ?_
  simp -dsimp
  refine hK _ _ ?_; clear hK K
  refine awp_cond rfl (fun hc0 => ?_) (fun hc0 => ?_)
  · skip
    skip
    refine awp_sr rfl fun K hK => ?_
    simp -dsimp
    refine callK_intro _ (c_known) (by simp) ?_
    simp -dsimp
    refine hK _ _ ?_; clear hK K
    exact awp_ret (by simp)
  · skip
    skip
    have hall : fewB p = true ∧ p.Rails.length ≤ 8 ∧ validB p = true ∧ profB x = true ∧ stripB p a = true ∧ stripB p b = true ∧ (-100000 ≤ y.X ∧ y.X ≤ 100000) ∧ -100000 ≤ y.Y ∧ y.Y ≤ 100000 := by simp at hc0; simp [hc0]; omega
    obtain ⟨hfw, hN, hv, hx, hA, hB, hyy⟩ := hall
    have hNn : p.Nodes.length ≤ 16 := by simp [fewB] at hfw; omega
    have hnd : ∀ n ∈ p.Nodes, spotB n.Spot = true := by
      intro n hn
      have := List.all_eq_true.1 (valid_parts hv).2.2.1 n hn
      simp only [nodeB, Bool.and_eq_true] at this
      exact this.2.1
    have hrl : ∀ r ∈ p.Rails, r.Shape.length ≤ 30 ∧ ∀ s ∈ r.Shape, spotB s = true := by
      intro r hr
      have := List.all_eq_true.1 (valid_parts hv).2.2.2.1 r hr
      simp only [railB, railA, Bool.and_eq_true, decide_eq_true_eq, List.all_eq_true] at this
      exact ⟨this.1.2.2.1, fun s hs => this.2.1 s hs⟩
    have f1 : Fits p.Nodes.length 57 := fits_of (by omega) (by omega)
    have f2 : Fits p.Rails.length 57 := fits_of (by omega) (by omega)
    refine awp_skip ?_
    simp only [thenA, inBlockA, reduceIte, Nat.reduceEqDiff, eq_self]
    refine hK1 _ _ ?_
    refine awp_prune [5, 6, 7, 8, 9, 10] ?_
    simp only [prune, List.map_cons, List.map_nil, Go.AM.look, Nat.reduceEqDiff, reduceIte]
    refine awp_sd mixed rfl fun K hK => ?_
    simp -dsimp [f1, f2]
    refine hK _ _ _ (by decide +kernel) ?_; clear hK K
    refine awp_seq_k fun K2 hK2 => ?_
    refine awp_sr rfl fun K hK => ?_
    simp -dsimp
    refine hK _ _ ?_; clear hK K
    refine awp_block ?_
    refine awp_prune [5, 6, 7, 8, 9, 10, 13, 14] ?_
    simp only [prune, List.map_cons, List.map_nil, Go.AM.look, Nat.reduceEqDiff, reduceIte]
    refine awp_loop_l [5, 6, 7, 8, 9, 10, 13] (α := Nat) (fun i => [(14, I i)]) (fun i => [some (.els 2 [p.cells]), some (.els 2 [x.cells]), some (.els 2 [a.cells]), some (.els 2 [b.cells]), some (.els 2 [y.cells]), some (.els 5 ((movTo (mvN m) p.Nodes i).map Node.cells)), some (.els 5 ((p.Rails).map Rail.cells)), some (.els 2 [[.row 5 0 p.Nodes.length, .row 6 0 p.Rails.length]])]) (fun i => i ≤ p.Nodes.length) (fun i => p.Nodes.length - i) 0 ?_ ?_ ?_
    · simp
    · exact sub_rb [some 0, some 1, some 2, some 3, some 4, some 5, some 6, some 7] rfl (by simp) (by simp [movTo_zero])
    rintro i i1
    simp only [List.cons_append, List.nil_append, prune, List.map_cons, List.map_nil, Go.AM.look, Nat.reduceEqDiff, reduceIte]
    refine awp_seq_k fun K3 hK3 => ?_
    refine awp_sr rfl fun K hK => ?_
    simp -dsimp
    refine hK _ _ ?_; clear hK K
    refine awp_cond rfl (fun hc1 => ?_) (fun hc1 => ?_)
    · skip
      try simp at hc1
      have wi : IntKind.i64.wrap ((i : Int) + 1) = (i : Int) + 1 := wrap_in (by omega) (by omega)
      obtain ⟨n, hn⟩ : ∃ n, p.Nodes[i]? = some n := ⟨_, List.getElem?_eq_getElem hc1⟩
      have hgn := movTo_get (f := mvN m) hn
      have hsn : (((movTo (mvN m) p.Nodes i).map Node.cells).set i [I (m n.Spot).X, I (m n.Spot).Y, I n.Kind, .lst 2 (n.Ends.map REnd.cells), I n.Normal]) = (movTo (mvN m) p.Nodes (i + 1)).map Node.cells := by rw [← movTo_set hn, List.map_set]; rfl
      have hln := movTo_len (mvN m) p.Nodes i1
      refine awp_skip ?_
      simp only [thenA, inBlockA, reduceIte, Nat.reduceEqDiff, eq_self]
      refine hK3 _ _ ?_
      refine awp_prune [5, 6, 7, 8, 9, 10, 13, 14] ?_
      simp only [prune, List.map_cons, List.map_nil, Go.AM.look, Nat.reduceEqDiff, reduceIte]
      refine awp_seq_k fun K4 hK4 => ?_
      refine awp_block ?_
      refine awp_draw mixed rfl fun K hK => ?_
      simp -dsimp [hgn]
      refine ⟨hc1, ?_⟩
      try simp -dsimp [hgn]
      refine callK_intro _ (hmov n.Spot (hnd n (List.mem_of_getElem? hn)) hyy) (by simp) ?_
      simp -dsimp [hgn]
      refine ⟨hc1, ?_⟩
      try simp -dsimp [hgn]
      refine hK _ _ _ (by decide +kernel) ?_; clear hK K
      simp only [thenA, inBlockA, reduceIte, Nat.reduceEqDiff, eq_self]
      refine hK4 _ _ ?_
      refine awp_prune [5, 6, 7, 8, 9, 10, 13, 14] ?_
      simp only [prune, List.map_cons, List.map_nil, Go.AM.look, Nat.reduceEqDiff, reduceIte]
      refine awp_r rfl fun K hK => ?_
      simp -dsimp [wi]
      refine hK _ _ ?_; clear hK K
      simp only [thenA, inBlockA, reduceIte, Nat.reduceEqDiff, eq_self]
      exact ⟨i + 1, by omega, by omega, sub_rb [some 0, some 1, some 2, some 3, some 4, some 5, some 6, some 7] rfl (by simp) (by simp [hsn])⟩
    · skip
      try simp at hc1
      have hie : i = p.Nodes.length := by omega
      subst hie
      refine awp_exit ?_
      simp only [thenA, inBlockA, reduceIte, Nat.reduceEqDiff, eq_self]
      refine hK2 _ _ ?_
      refine awp_prune [5, 6, 7, 8, 9, 10, 13] ?_
      simp only [prune, List.map_cons, List.map_nil, Go.AM.look, Nat.reduceEqDiff, reduceIte]
      refine awp_seq_k fun K5 hK5 => ?_
      refine awp_sr rfl fun K hK => ?_
      simp -dsimp
      refine hK _ _ ?_; clear hK K
      refine awp_block ?_
      refine awp_prune [5, 6, 7, 8, 9, 10, 13, 15] ?_
      simp only [prune, List.map_cons, List.map_nil, Go.AM.look, Nat.reduceEqDiff, reduceIte]
      refine awp_loop_l [5, 6, 7, 8, 9, 10, 13] (α := Nat) (fun i => [(15, I i)]) (fun i => [some (.els 2 [p.cells]), some (.els 2 [x.cells]), some (.els 2 [a.cells]), some (.els 2 [b.cells]), some (.els 2 [y.cells]), some (.els 5 ((movTo (mvN m) p.Nodes p.Nodes.length).map Node.cells)), some (.els 5 ((movTo (mvR m) p.Rails i).map Rail.cells)), some (.els 2 [[.row 5 0 p.Nodes.length, .row 6 0 p.Rails.length]])]) (fun i => i ≤ p.Rails.length) (fun i => p.Rails.length - i) 0 ?_ ?_ ?_
      · simp
      · exact sub_rb [some 0, some 1, some 2, some 3, some 4, some 5, some 6, some 7] rfl (by simp) (by simp [movTo_zero])
      rintro i i1
      simp only [List.cons_append, List.nil_append, prune, List.map_cons, List.map_nil, Go.AM.look, Nat.reduceEqDiff, reduceIte]
      refine awp_seq_k fun K6 hK6 => ?_
      refine awp_sr rfl fun K hK => ?_
      simp -dsimp
      refine hK _ _ ?_; clear hK K
      refine awp_cond rfl (fun hc2 => ?_) (fun hc2 => ?_)
      · skip
        try simp at hc2
        have wi : IntKind.i64.wrap ((i : Int) + 1) = (i : Int) + 1 := wrap_in (by omega) (by omega)
        obtain ⟨r, hr⟩ : ∃ r, p.Rails[i]? = some r := ⟨_, List.getElem?_eq_getElem hc2⟩
        have hgr := movTo_get (f := mvR m) hr
        have hsr : (((movTo (mvR m) p.Rails i).map Rail.cells).set i [I r.From, I r.To, .lst 2 (r.Shape.map (Spot.cells ∘ m)), I r.Limit, I r.Slope]) = (movTo (mvR m) p.Rails (i + 1)).map Rail.cells := by rw [← movTo_set hr, List.map_set]; simp [mvR]
        have hln := movTo_len (mvR m) p.Rails i1
        obtain ⟨hrs, hrsp⟩ := hrl r (List.mem_of_getElem? hr)
        refine awp_skip ?_
        simp only [thenA, inBlockA, reduceIte, Nat.reduceEqDiff, eq_self]
        refine hK6 _ _ ?_
        refine awp_prune [5, 6, 7, 8, 9, 10, 13, 15] ?_
        simp only [prune, List.map_cons, List.map_nil, Go.AM.look, Nat.reduceEqDiff, reduceIte]
        refine awp_seq_k fun K7 hK7 => ?_
        refine awp_block ?_
        refine awp_sr rfl fun K hK => ?_
        simp -dsimp
        refine hK _ _ ?_; clear hK K
        refine awp_seq_k fun K8 hK8 => ?_
        refine awp_sr rfl fun K hK => ?_
        simp -dsimp
        refine hK _ _ ?_; clear hK K
        refine awp_block ?_
        refine awp_prune [5, 6, 7, 8, 9, 10, 13, 15, 16, 17] ?_
        simp only [prune, List.map_cons, List.map_nil, Go.AM.look, Nat.reduceEqDiff, reduceIte]
        refine awp_loop_l [5, 6, 7, 8, 9, 10, 13, 15] (α := Nat) (fun j => [(17, I j), (16, .row 8 0 ((r.Shape.take j).map m).length)]) (fun j => [some (.els 2 [p.cells]), some (.els 2 [x.cells]), some (.els 2 [a.cells]), some (.els 2 [b.cells]), some (.els 2 [y.cells]), some (.els 5 ((movTo (mvN m) p.Nodes p.Nodes.length).map Node.cells)), some (.els 5 ((movTo (mvR m) p.Rails i).map Rail.cells)), some (.els 2 [[.row 5 0 p.Nodes.length, .row 6 0 p.Rails.length]]), some (.els 2 (((r.Shape.take j).map m).map Spot.cells))]) (fun j => j ≤ r.Shape.length) (fun j => r.Shape.length - j) 0 ?_ ?_ ?_
        · simp
        · exact (sub_nil 16 2 (by simp)).trans (sub_rb [some 0, some 1, some 2, some 3, some 4, some 5, some 6, some 7, some 8] rfl (by simp) (by simp))
        rintro j j1
        generalize hO : (r.Shape.take j).map m = O
        have hol : O.length ≤ 30 := by rw [← hO, List.length_map, List.length_take]; omega
        have f3 : Fits (O.length + 1) 17 := fits_of (by omega) (by omega)
        have hot : (O.map Spot.cells).take O.length = O.map Spot.cells := List.take_of_length_le (by simp)
        simp only [List.cons_append, List.nil_append, prune, List.map_cons, List.map_nil, Go.AM.look, Nat.reduceEqDiff, reduceIte]
        refine awp_seq_k fun K9 hK9 => ?_
        refine awp_sr rfl fun K hK => ?_
        simp -dsimp [hr]
        refine hK _ _ ?_; clear hK K
        refine awp_cond rfl (fun hc3 => ?_) (fun hc3 => ?_)
        · skip
          try simp at hc3
          have wj : IntKind.i64.wrap ((j : Int) + 1) = (j : Int) + 1 := wrap_in (by omega) (by omega)
          obtain ⟨s, hs⟩ : ∃ s, r.Shape[j]? = some s := ⟨_, List.getElem?_eq_getElem hc3⟩
          have htk : (r.Shape.take (j + 1)).map m = O ++ [m s] := by rw [List.take_add_one, hs, ← hO]; simp
          refine awp_skip ?_
          simp only [thenA, inBlockA, reduceIte, Nat.reduceEqDiff, eq_self]
          refine hK9 _ _ ?_
          refine awp_prune [5, 6, 7, 8, 9, 10, 13, 15, 16, 17] ?_
          simp only [prune, List.map_cons, List.map_nil, Go.AM.look, Nat.reduceEqDiff, reduceIte]
          refine awp_seq_k fun K10 hK10 => ?_
          refine awp_block ?_
          refine awp_draw mixed rfl fun K hK => ?_
          simp -dsimp [hr, hs, f3]
          refine callK_intro _ (hmov s (hrsp s (List.mem_of_getElem? hs)) hyy) (by simp) ?_
          simp -dsimp [hr, hs, f3]
          refine hK _ _ _ (by decide +kernel) ?_; clear hK K
          simp only [thenA, inBlockA, reduceIte, Nat.reduceEqDiff, eq_self]
          refine hK10 _ _ ?_
          refine awp_prune [5, 6, 7, 8, 9, 10, 13, 15, 16, 17] ?_
          simp only [prune, List.map_cons, List.map_nil, Go.AM.look, Nat.reduceEqDiff, reduceIte]
          refine awp_r rfl fun K hK => ?_
          simp -dsimp [wj]
          refine hK _ _ ?_; clear hK K
          simp only [thenA, inBlockA, reduceIte, Nat.reduceEqDiff, eq_self]
          exact ⟨j + 1, by omega, by omega, sub_rb [some 0, some 1, some 2, some 3, some 4, some 5, some 6, some 7, some 9] rfl (by simp [htk]) (by simp [htk, hot])⟩
        · skip
          try simp at hc3
          have hje : j = r.Shape.length := by omega
          have hOe : O = r.Shape.map m := by rw [← hO, List.take_of_length_le (by omega)]
          subst hOe
          refine awp_weak (sub_rfM [some 0, some 1, some 2, some 3, some 4, some 5, some 6, some 7] rfl) ?_
          have htm : List.take r.Shape.length (List.map (Spot.cells ∘ m) r.Shape) = List.map (Spot.cells ∘ m) r.Shape := List.take_of_length_le (by simp)
          simp [htm]
          refine awp_exit ?_
          simp only [thenA, inBlockA, reduceIte, Nat.reduceEqDiff, eq_self]
          refine hK8 _ _ ?_
          refine awp_prune [5, 6, 7, 8, 9, 10, 13, 15, 16] ?_
          simp only [prune, List.map_cons, List.map_nil, Go.AM.look, Nat.reduceEqDiff, reduceIte]
          refine awp_r rfl fun K hK => ?_
          simp -dsimp [hgr]
          refine ⟨hc2, ?_⟩
          refine hK _ _ ?_; clear hK K
          simp only [thenA, inBlockA, reduceIte, Nat.reduceEqDiff, eq_self]
          refine hK7 _ _ ?_
          refine awp_prune [5, 6, 7, 8, 9, 10, 13, 15] ?_
          simp only [prune, List.map_cons, List.map_nil, Go.AM.look, Nat.reduceEqDiff, reduceIte]
          refine awp_r rfl fun K hK => ?_
          simp -dsimp [wi]
          refine hK _ _ ?_; clear hK K
          simp only [thenA, inBlockA, reduceIte, Nat.reduceEqDiff, eq_self]
          exact ⟨i + 1, by omega, by omega, sub_rb [some 0, some 1, some 2, some 3, some 4, some 5, some 6, some 7] rfl (by simp) (by simp [hsr])⟩
      · skip
        try simp at hc2
        have hie : i = p.Rails.length := by omega
        subst hie
        refine awp_weak (sub_rfM [some 0, some 1, some 2, some 3, some 4, some 7] rfl) ?_
        simp [movTo_all, hk1, hk2]
        refine awp_exit ?_
        simp only [thenA, inBlockA, reduceIte, Nat.reduceEqDiff, eq_self]
        refine hK5 _ _ ?_
        refine awp_prune [6, 7, 8, 9, 13] ?_
        simp only [prune, List.map_cons, List.map_nil, Go.AM.look, Nat.reduceEqDiff, reduceIte]
        refine awp_seq_k fun K11 hK11 => ?_
        refine awp_sr rfl fun K hK => ?_
        simp -dsimp
        refine callK_intro _ (tv) (by simp) ?_
        simp -dsimp
        refine hK _ _ ?_; clear hK K
        refine awp_cond rfl (fun hc4 => ?_) (fun hc4 => ?_)
        · skip
          try simp at hc4
          refine awp_sr rfl fun K hK => ?_
          simp -dsimp
          refine callK_intro _ (c_known) (by simp) ?_
          simp -dsimp
          refine hK _ _ ?_; clear hK K
          exact awp_ret (by simp)
        · skip
          try simp at hc4
          have h1 := c_Gap p a b
          rw [hv, hA, hB, if_pos (by rfl)] at h1
          rw [hc4, stripB_mv, stripB_mv, hA, hB, if_pos (by rfl), gap_mv hm hv hA hB] at tg
          have h3 := (c_Fouls_t p [x] hv (by simp [profsB, hx]) (by omega)).wk (args := [p.av, .full 2 [x.cells]]) (by simp [AM.wk])
          have h4 := tf hc4 (by omega) hx
          rw [foulsL_mv hm hv] at h4
          have h5 := c_rSame (foulsL p [x]) (foulsL_len (by omega) (by simp))
          generalize foulsL p [x] = F at h3 h4 h5
          generalize gap (p.strip a).a (p.strip a).b (p.strip b).a (p.strip b).b = gp at h1 tg
          refine awp_skip ?_
          simp only [thenA, inBlockA, reduceIte, Nat.reduceEqDiff, eq_self]
          refine hK11 _ _ ?_
          refine awp_prune [6, 7, 8, 9, 13] ?_
          simp only [prune, List.map_cons, List.map_nil, Go.AM.look, Nat.reduceEqDiff, reduceIte]
          refine awp_sr rfl fun K hK => ?_
          simp -dsimp
          refine callK_intro _ (h1) (by simp) ?_
          simp -dsimp
          refine hK _ _ ?_; clear hK K
          refine awp_sr rfl fun K hK => ?_
          simp -dsimp
          refine callK_intro _ (tg) (by simp) ?_
          simp -dsimp
          refine hK _ _ ?_; clear hK K
          refine awp_sr rfl fun K hK => ?_
          simp -dsimp
          refine callK_intro _ (h3) (by simp) ?_
          simp -dsimp
          refine hK _ _ ?_; clear hK K
          refine awp_sr rfl fun K hK => ?_
          simp -dsimp
          refine callK_intro _ (h4) (by simp) ?_
          simp -dsimp
          refine hK _ _ ?_; clear hK K
          refine awp_sr rfl fun K hK => ?_
          simp -dsimp
          refine callK_may _ (fun hm => h5) (by simp) ?_
          simp -dsimp
          refine callK_may _ (fun hm => c_known) (by simp) ?_
          simp -dsimp
          refine hK _ _ ?_; clear hK K
          exact awp_ret (by simp)
end Go.Tram
