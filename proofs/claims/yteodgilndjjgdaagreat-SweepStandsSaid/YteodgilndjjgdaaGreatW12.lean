/- Walks: the sheet of a plan. -/
import Derived.Test.YteodgilndjjgdaaGreatW10
import Derived.Test.YteodgilndjjgdaaGreatW11
namespace Go.Tram
open Go.AM Go.Proofs
set_option maxRecDepth 10000
set_option maxHeartbeats 4000000
set_option linter.unusedVariables false
set_option linter.unusedSimpArgs false

theorem sub_rfM {nt : Nat} {T : Tm} {H : Hp} (g : List (Option Nat)) (hn : nodupB g = true) : Go.AM.Sub nt T H (T.map fun p => (p.1, renF (hget H) g 3 (Go.AM.look T p.1))) (renHF H g) := by
  refine sub_rf g hn ?_ rfl
  have gen : ∀ l : Tm, subTF H g T (l.map fun p => (p.1, renF (hget H) g 3 (Go.AM.look T p.1))) := by
    intro l
    induction l with
    | nil => trivial
    | cons x l ih => exact ⟨Or.inr rfl, ih⟩
  exact gen T

/-- Cells that hold nothing but numbers and lists by content. -/
def flatC : AV → Bool
  | .v _ => true
  | .lst _ _ => true
  | .full _ _ => true
  | .iptr _ => true
  | _ => false
theorem flatC_ren {x : AV} (h : flatC x = true) (g : List (Option Nat)) (n : Nat) : renAV g n x = x := by cases x <;> first | (cases n <;> rfl) | cases h
theorem flatC_renF {x : AV} (h : flatC x = true) (H : Nat → Option ARow) (g : List (Option Nat)) (n : Nat) : renF H g n x = x := by cases x <;> first | (cases n <;> rfl) | cases h
theorem flatC_frzP {x : AV} (h : flatC x = true) (H : Hp) (n : Nat) : frzP H n x = x := by cases x <;> first | (cases n <;> rfl) | cases h
theorem flatC_frz {x : AV} (h : flatC x = true) (H : Nat → Option ARow) (n : Nat) : frz H n x = x := by cases x <;> first | (cases n <;> rfl) | cases h
theorem flatC_noRef {x : AV} (h : flatC x = true) (n : Nat) : x.noRef n = true := by cases x <;> first | (cases n <;> rfl) | cases h
theorem map_flatC {f : AV → AV} (hf : ∀ x, flatC x = true → f x = x) {es : List (List AV)} (h : es.all (fun e => e.all flatC) = true) : es.map (fun e => e.map f) = es := by
  have : es.map (fun e => e.map f) = es.map id := by
    refine List.map_congr_left fun e he => ?_
    have he' := List.all_eq_true.1 h e he
    have : e.map f = e.map id := List.map_congr_left fun x hx => hf x (List.all_eq_true.1 he' x hx)
    simpa using this
  simpa using this
theorem flat_spots (l : List Spot) : (l.map Spot.cells).all (fun e => e.all flatC) = true := by simp [flatC]
theorem flat_ss (l : List SS) : (l.map SS.cells).all (fun e => e.all flatC) = true := by simp [flatC]
theorem flat_sheet (p : Plan) (n : Nat) : (sheetRows p n).all (fun e => e.all flatC) = true := by simp [sheetRows, flatC]
theorem plain_flat {es : List (List AV)} (h : es.all (fun e => e.all flatC) = true) : plainEls es = true := by
  unfold plainEls
  rw [List.all_eq_true] at h ⊢
  intro e he
  have := h e he
  rw [List.all_eq_true] at this ⊢
  intro x hx
  exact flatC_noRef (this x hx) 2
@[simp high] theorem flat_spots_ren (l : List Spot) (g : List (Option Nat)) (n : Nat) : (l.map Spot.cells).map (fun e => e.map (renAV g n)) = l.map Spot.cells := map_flatC (fun x h => flatC_ren h g n) (flat_spots l)
@[simp high] theorem flat_spots_renF (l : List Spot) (H : Nat → Option ARow) (g : List (Option Nat)) (n : Nat) : (l.map Spot.cells).map (fun e => e.map (renF H g n)) = l.map Spot.cells := map_flatC (fun x h => flatC_renF h H g n) (flat_spots l)
@[simp high] theorem flat_spots_frzP (l : List Spot) (H : Hp) (n : Nat) : (l.map Spot.cells).map (fun e => e.map (frzP H n)) = l.map Spot.cells := map_flatC (fun x h => flatC_frzP h H n) (flat_spots l)
@[simp high] theorem flat_spots_plain (l : List Spot) : plainEls (l.map Spot.cells) = true := plain_flat (flat_spots l)
@[simp high] theorem flat_ss_ren (l : List SS) (g : List (Option Nat)) (n : Nat) : (l.map SS.cells).map (fun e => e.map (renAV g n)) = l.map SS.cells := map_flatC (fun x h => flatC_ren h g n) (flat_ss l)
@[simp high] theorem flat_ss_renF (l : List SS) (H : Nat → Option ARow) (g : List (Option Nat)) (n : Nat) : (l.map SS.cells).map (fun e => e.map (renF H g n)) = l.map SS.cells := map_flatC (fun x h => flatC_renF h H g n) (flat_ss l)
@[simp high] theorem flat_ss_frzP (l : List SS) (H : Hp) (n : Nat) : (l.map SS.cells).map (fun e => e.map (frzP H n)) = l.map SS.cells := map_flatC (fun x h => flatC_frzP h H n) (flat_ss l)
@[simp high] theorem flat_ss_plain (l : List SS) : plainEls (l.map SS.cells) = true := plain_flat (flat_ss l)
@[simp high] theorem sheet_ren (p : Plan) (k : Nat) (g : List (Option Nat)) (n : Nat) : (sheetRows p k).map (fun e => e.map (renAV g n)) = sheetRows p k := map_flatC (fun x h => flatC_ren h g n) (flat_sheet p k)
@[simp high] theorem sheet_renF (p : Plan) (k : Nat) (H : Nat → Option ARow) (g : List (Option Nat)) (n : Nat) : (sheetRows p k).map (fun e => e.map (renF H g n)) = sheetRows p k := map_flatC (fun x h => flatC_renF h H g n) (flat_sheet p k)
@[simp high] theorem sheet_frzP (p : Plan) (k : Nat) (H : Hp) (n : Nat) : (sheetRows p k).map (fun e => e.map (frzP H n)) = sheetRows p k := map_flatC (fun x h => flatC_frzP h H n) (flat_sheet p k)

theorem sheetRows_len (p : Plan) (n : Nat) : (sheetRows p n).length = n := by simp [sheetRows]
theorem sheetRows_succ (p : Plan) (n : Nat) : sheetRows p (n + 1) = sheetRows p n ++ [[.lst 9 ((p.strips (n : Int)).map SS.cells)]] := by simp [sheetRows, List.range_succ]
theorem sheetRows_get {p : Plan} {n k : Nat} (h : k < n) : (sheetRows p n)[k]? = some [.lst 9 ((p.strips (k : Int)).map SS.cells)] := by simp [sheetRows, h]
theorem stripsTo_len (l : List Spot) (r : Int) (n : Nat) : (stripsTo l r n).length = n := by simp [stripsTo]
theorem stripsTo_succ (l : List Spot) (r : Int) (n : Nat) : stripsTo l r (n + 1) = stripsTo l r n ++ [stripOf l r n] := by simp [stripsTo, List.range_succ]

def bendTo (l : List Spot) (j m : Nat) : List Spot := (List.range m).flatMap fun i => bendL l (j + i)
theorem bendTo_succ (l : List Spot) (j m : Nat) : bendTo l j (m + 1) = bendTo l j m ++ bendL l (j + m) := by simp [bendTo, List.range_succ]
theorem bendTo_len (l : List Spot) (j : Nat) : ∀ m, (bendTo l j m).length ≤ m
  | 0 => by simp [bendTo]
  | m + 1 => by
    have h1 := bendTo_len l j m
    have h2 := bendL_len l (j + m)
    rw [bendTo_succ, List.length_append]; omega
theorem bendTo_take (l : List Spot) (j m : Nat) : ((bendTo l j m).map Spot.cells).take (bendTo l j m).length = (bendTo l j m).map Spot.cells := List.take_of_length_le (by simp)
theorem stripsTo_take (l : List Spot) (r : Int) (n : Nat) : ((stripsTo l r n).map SS.cells).take n = (stripsTo l r n).map SS.cells := List.take_of_length_le (by simp [stripsTo])
theorem bendTo_two (l : List Spot) (j : Nat) : bendTo l j 2 = bendL l j ++ bendL l (j + 1) := by simp [bendTo, List.range_succ]

theorem c_bend (l : List Spot) (k : Nat) (hk : k < l.length) (hl : l.length ≤ 1000) (hs : l.all spotB = true) : PureCall Tryz.prog 42 [I k, .iptr [.lst 2 (l.map Spot.cells)]] (Bo (bendB l k)) := by
  have hb : ∀ i, i < l.length → spotB (nth l i) = true := fun i hi => List.all_eq_true.1 hs _ (List.mem_of_getElem? (nth_get hi))
  have w1 : IntKind.i64.wrap ((l.length : Int) - 1) = (l.length : Int) - 1 := wrap_in (by omega) (by omega)
  have w2 : 0 < k → IntKind.i64.wrap ((k : Int) - 1) = ((k - 1 : Nat) : Int) := fun h => by rw [wrap_in (by omega) (by omega)]; omega
  have w3 : IntKind.i64.wrap ((k : Int) + 1) = ((k + 1 : Nat) : Int) := by rw [wrap_in (by omega) (by omega)]; omega
  have g0 : (l.map Spot.cells)[k - 1]? = some (nth l (k - 1)).cells := by rw [List.getElem?_map, nth_get (by omega)]; rfl
  have g1 : (l.map Spot.cells)[k]? = some (nth l k).cells := by rw [List.getElem?_map, nth_get hk]; rfl
  have g2 : k + 1 < l.length → (l.map Spot.cells)[k + 1]? = some (nth l (k + 1)).cells := fun h => by rw [List.getElem?_map, nth_get h]; rfl
  refine PureCall.of_body Tryz.func42 rfl (by decide) (by simp [Tryz.ntmps42]) ?_
  simp only [Tryz.ntmps42, Tryz.results42]
  refine awp_sr rfl fun K hK => ?_
  simp -dsimp
  refine hK _ _ ?_; clear hK K
  refine awp_sd mixed rfl fun K hK => ?_
  simp -dsimp [w1, w3]
  refine ⟨by intros; rw [w2 (by omega)]; omega, idxK_intro (nth l (k - 1)).cells (fun hm => by simp at hm; rw [w2 hm.1]; exact g0) ?_⟩
  simp -dsimp [w3]
  refine idxK_intro (nth l k).cells (fun _ => g1) ?_
  simp -dsimp [w1, w3]
  refine callK_may _ (fun hm => c_from (nth l (k - 1)) (nth l k) (hb _ (by omega)) (hb _ (by omega))) (by simp) ?_
  simp -dsimp [w1, w3]
  refine idxK_intro (nth l k).cells (fun _ => g1) ?_
  simp -dsimp [w1, w3]
  refine ⟨by intros; omega, idxK_intro (nth l (k + 1)).cells (fun hm => by simp at hm; exact g2 (by omega)) ?_⟩
  simp -dsimp
  refine callK_may _ (fun hm => c_from (nth l k) (nth l (k + 1)) (hb _ (by omega)) (hb _ (by simp at hm; omega))) (by simp) ?_
  simp -dsimp [w1, w3]
  refine callK_may _ (fun hm => c_straight (nth l (k - 1)) (nth l k) (nth l k) (nth l (k + 1)) (hb _ (by omega)) (hb _ (by omega)) (hb _ (by omega)) (hb _ (by simp at hm; omega))) (by simp) ?_
  simp -dsimp [w1, w3]
  refine hK _ _ _ (by decide +kernel) ?_; clear hK K
  have hdec : decide ((k : Int) < (l.length : Int) - 1) = decide (k + 1 < l.length) := decide_eq_decide.2 (by omega)
  refine awp_ret ?_
  simp [bendB, straightB, hdec, Bool.and_assoc]

theorem c_begin_f (p : Plan) (h : validB p = false) : PureCall Tryz.prog 26 [p.av] (.tup [.v (.pointer none), Bo false]) := by
  have hc := c_Check p
  rw [h] at hc
  refine PureCall.of_body Tryz.func26 rfl (by decide) (by simp [Tryz.ntmps26]) ?_
  simp only [Tryz.ntmps26, Tryz.results26]
  refine awp_sr rfl fun K hK => ?_
  simp -dsimp
  refine hK _ _ ?_; clear hK K
  refine awp_seq_k fun K1 hK1 => ?_
  refine awp_sr rfl fun K hK => ?_
  simp -dsimp
  refine callK_intro _ (hc) (by simp) ?_
  simp -dsimp
  refine hK _ _ ?_; clear hK K
  refine awp_cond rfl (fun hc0 => ?_) (fun hc0 => ?_)
  · skip
    skip
    refine awp_sr rfl fun K hK => ?_
    simp -dsimp
    refine hK _ _ ?_; clear hK K
    exact awp_ret (by simp)
  · skip
    skip
    simp at hc0

theorem c_begin (p : Plan) (h : validB p = true) : PureCall Tryz.prog 26 [p.av] (.tup [.iptr (sheet p), Bo true]) := by
  have hck := c_Check p
  rw [h] at hck
  obtain ⟨hN, hR, hA, hB, _⟩ := valid_parts h
  refine PureCall.of_body Tryz.func26 rfl (by decide) (by simp [Tryz.ntmps26]) ?_
  simp only [Tryz.ntmps26, Tryz.results26]
  refine awp_sr rfl fun K hK => ?_
  simp -dsimp
  refine hK _ _ ?_; clear hK K
  refine awp_seq_k fun K1 hK1 => ?_
  refine awp_sr rfl fun K hK => ?_
  simp -dsimp
  refine callK_intro _ (hck) (by simp) ?_
  simp -dsimp
  refine hK _ _ ?_; clear hK K
  refine awp_cond rfl (fun hc0 => ?_) (fun hc0 => ?_)
  · skip
    skip
    simp at hc0
  · skip
    skip
    refine awp_skip ?_
    simp only [thenA, inBlockA, reduceIte, Nat.reduceEqDiff, eq_self]
    refine hK1 _ _ ?_
    refine awp_prune [1] ?_
    simp only [prune, List.map_cons, List.map_nil, Go.AM.look, Nat.reduceEqDiff, reduceIte]
    refine awp_sr rfl fun K hK => ?_
    simp -dsimp
    refine hK _ _ ?_; clear hK K
    refine awp_seq_k fun K2 hK2 => ?_
    refine awp_sr rfl fun K hK => ?_
    simp -dsimp
    refine hK _ _ ?_; clear hK K
    refine awp_block ?_
    refine awp_prune [1, 4, 24, 25] ?_
    simp only [prune, List.map_cons, List.map_nil, Go.AM.look, Nat.reduceEqDiff, reduceIte]
    refine awp_loop_l [1, 4, 24] (α := Nat) (fun k => [(25, I k)]) (fun k => [some (.els 2 [p.cells]), some (.els 3 [p.cells ++ [.row 2 0 (sheetRows p k).length]]), some (.els 1 (sheetRows p k))]) (fun k => k ≤ p.Rails.length) (fun k => p.Rails.length - k) 0 ?_ ?_ ?_
    · simp
    · exact (sub_nilc 1 0 2 1 (es := [p.cells ++ [.v (.slice none 0 0)]]) (e := p.cells ++ [.v (.slice none 0 0)]) (by simp) (by simp) (by simp)).trans (sub_same (by simp [sheetRows]))
    rintro k k1
    simp only [List.cons_append, List.nil_append, prune, List.map_cons, List.map_nil, Go.AM.look, Nat.reduceEqDiff, reduceIte]
    refine awp_sr rfl fun K hK => ?_
    simp -dsimp
    refine hK _ _ ?_; clear hK K
    refine awp_seq_k fun K3 hK3 => ?_
    refine awp_cond rfl (fun hc1 => ?_) (fun hc1 => ?_)
    · skip
      try simp at hc1
      have ro := rail_ok h (r := (k : Int)) (by omega) (by omega)
      have hl := ro.len
      have hs30 := ro.s
      have wk : IntKind.i64.wrap ((k : Int) + 1) = (k : Int) + 1 := wrap_in (by omega) (by omega)
      have f1 : Fits (k + 1) 25 := fits_of (by omega) (by omega)
      have hll := sheetRows_len p k
      have htk : (sheetRows p k).take k = sheetRows p k := List.take_of_length_le (by omega)
      refine awp_skip ?_
      simp only [thenA, inBlockA, reduceIte, Nat.reduceEqDiff, eq_self]
      refine hK3 _ _ ?_
      refine awp_prune [1, 4, 24, 25] ?_
      simp only [prune, List.map_cons, List.map_nil, Go.AM.look, Nat.reduceEqDiff, reduceIte]
      refine awp_seq_k fun K4 hK4 => ?_
      refine awp_block ?_
      refine awp_sr rfl fun K hK => ?_
      simp -dsimp
      refine hK _ _ ?_; clear hK K
      refine awp_sr rfl fun K hK => ?_
      simp -dsimp
      refine callK_intro _ (c_tLine p k h (by omega) (by omega)) (by simp) ?_
      simp -dsimp
      refine hK _ _ ?_; clear hK K
      refine awp_seq_k fun K5 hK5 => ?_
      refine awp_sr rfl fun K hK => ?_
      simp -dsimp
      refine hK _ _ ?_; clear hK K
      refine awp_cond rfl (fun hc2 => ?_) (fun hc2 => ?_)
      · skip
        skip
        simp at hc2
      · skip
        skip
        have wl : IntKind.i64.wrap (((p.line k).length : Int) - 1) = (((p.rail k).Shape.length + 1 : Nat) : Int) := by rw [wrap_in (by omega) (by omega)]; omega
        refine awp_skip ?_
        simp only [thenA, inBlockA, reduceIte, Nat.reduceEqDiff, eq_self]
        refine hK5 _ _ ?_
        refine awp_prune [1, 4, 5, 6, 24, 25] ?_
        simp only [prune, List.map_cons, List.map_nil, Go.AM.look, Nat.reduceEqDiff, reduceIte]
        refine awp_sr rfl fun K hK => ?_
        simp -dsimp
        refine hK _ _ ?_; clear hK K
        refine awp_sr rfl fun K hK => ?_
        simp -dsimp
        refine hK _ _ ?_; clear hK K
        refine awp_sr rfl fun K hK => ?_
        simp -dsimp
        refine hK _ _ ?_; clear hK K
        refine awp_seq_k fun K6 hK6 => ?_
        refine awp_sr rfl fun K hK => ?_
        simp -dsimp [wl]
        refine hK _ _ ?_; clear hK K
        refine awp_block ?_
        refine awp_prune [1, 4, 5, 6, 8, 9, 10, 24, 25, 39, 40] ?_
        simp only [prune, List.map_cons, List.map_nil, Go.AM.look, Nat.reduceEqDiff, reduceIte]
        refine awp_loop_l [1, 4, 5, 6, 8, 24, 25, 39] (α := Nat) (fun j => [(9, .row 4 0 j), (10, I (sumTo (p.line k) j)), (40, I j)]) (fun j => [some (.els 2 [p.cells]), some (.els 3 [p.cells ++ [.row 2 0 (sheetRows p k).length]]), some (.els 1 (sheetRows p k)), some (.els 1 [[.lst 2 ((p.line k).map Spot.cells)]]), some (.els 9 ((stripsTo (p.line k) k j).map SS.cells))]) (fun j => j ≤ (p.rail k).Shape.length + 1) (fun j => (p.rail k).Shape.length + 1 - j) 0 ?_ ?_ ?_
        · simp
        · exact (sub_nil 9 9 (by simp)).trans (sub_same (by simp [stripsTo, sumTo]))
        rintro j j1
        simp only [List.cons_append, List.nil_append, prune, List.map_cons, List.map_nil, Go.AM.look, Nat.reduceEqDiff, reduceIte]
        refine awp_sr rfl fun K hK => ?_
        simp -dsimp
        refine hK _ _ ?_; clear hK K
        refine awp_seq_k fun K7 hK7 => ?_
        refine awp_cond rfl (fun hc3 => ?_) (fun hc3 => ?_)
        · skip
          try simp at hc3
          have g1 := nth_get (l := p.line k) (k := j) (by omega)
          have g2 := nth_get (l := p.line k) (k := j + 1) (by omega)
          have wj : IntKind.i64.wrap ((j : Int) + 1) = (j : Int) + 1 := wrap_in (by omega) (by omega)
          have sa := ro.spot j (by omega)
          have sb := ro.spot (j + 1) (by omega)
          have hd := dotS_bd sa sb sa sb
          have hd0 := dotS_nn (nth (p.line k) j) (nth (p.line k) (j + 1))
          have hsb := sumTo_bd ro j (by omega)
          have hsb1 := sumTo_bd ro (j + 1) (by omega)
          have hseg : isq (dotS (nth (p.line k) j) (nth (p.line k) (j + 1)) (nth (p.line k) j) (nth (p.line k) (j + 1))) = segLen (p.line k) j := by rw [dotS_self]; unfold segLen far; rfl
          have wsum : IntKind.i64.wrap (sumTo (p.line k) j + isq (dotS (nth (p.line k) j) (nth (p.line k) (j + 1)) (nth (p.line k) j) (nth (p.line k) (j + 1)))) = sumTo (p.line k) (j + 1) := by rw [hseg]; exact wrap_in (by simp only [sumTo] at hsb1; omega) (by simp only [sumTo] at hsb1; omega)
          have f2 : Fits (j + 1) 89 := fits_of (by omega) (by omega)
          have hsl := stripsTo_len (p.line k) k j
          refine awp_skip ?_
          simp only [thenA, inBlockA, reduceIte, Nat.reduceEqDiff, eq_self]
          refine hK7 _ _ ?_
          refine awp_prune [1, 4, 5, 6, 8, 9, 10, 24, 25, 39, 40] ?_
          simp only [prune, List.map_cons, List.map_nil, Go.AM.look, Nat.reduceEqDiff, reduceIte]
          refine awp_seq_k fun K8 hK8 => ?_
          refine awp_block ?_
          refine awp_sr rfl fun K hK => ?_
          simp -dsimp
          refine hK _ _ ?_; clear hK K
          refine awp_sd mixed rfl fun K hK => ?_
          simp -dsimp [wj, g1, g2]
          refine ⟨by omega, ?_⟩
          refine hK _ _ _ (by decide +kernel) ?_; clear hK K
          refine awp_sr rfl fun K hK => ?_
          simp -dsimp
          refine callK_intro _ (c_from _ _ sa sb) (by simp) ?_
          simp -dsimp
          refine hK _ _ ?_; clear hK K
          refine awp_sr rfl fun K hK => ?_
          simp -dsimp [wsum]
          refine callK_intro _ (c_dot _ _ _ _ sa sb sa sb) (by simp) ?_
          simp -dsimp [wsum]
          refine callK_intro _ (c_sroot _ hd0 (by omega)) (by simp) ?_
          simp -dsimp [wsum]
          refine hK _ _ ?_; clear hK K
          refine awp_sr rfl fun K hK => ?_
          simp -dsimp
          refine hK _ _ ?_; clear hK K
          refine awp_seq_k fun K9 hK9 => ?_
          refine awp_sr rfl fun K hK => ?_
          simp -dsimp [wj]
          refine hK _ _ ?_; clear hK K
          refine awp_block ?_
          refine awp_prune [1, 4, 5, 6, 8, 9, 10, 12, 24, 25, 39, 40, 76, 77, 78] ?_
          simp only [prune, List.map_cons, List.map_nil, Go.AM.look, Nat.reduceEqDiff, reduceIte]
          refine awp_loop_l [1, 4, 5, 6, 8, 9, 10, 12, 24, 25, 39, 40, 76, 77] (α := Nat) (fun m => [(78, I m)]) (fun m => [some (.els 2 [p.cells]), some (.els 3 [p.cells ++ [.row 2 0 (sheetRows p k).length]]), some (.els 1 (sheetRows p k)), some (.els 1 [[.lst 2 ((p.line k).map Spot.cells)]]), some (.els 9 ((stripsTo (p.line k) k j).map SS.cells)), some (.els 9 [[I k, I j, I (nth (p.line k) j).X, I (nth (p.line k) j).Y, I (nth (p.line k) (j + 1)).X, I (nth (p.line k) (j + 1)).Y, .row 6 0 (bendTo (p.line k) j m).length, I (sumTo (p.line k) j), I (sumTo (p.line k) (j + 1))]]), some (.els 2 ((bendTo (p.line k) j m).map Spot.cells))]) (fun m => m ≤ 2) (fun m => 2 - m) 0 ?_ ?_ ?_
          · simp
          · refine (sub_nilc 5 0 6 2 (sz0 := 9) (by simp; rfl) (by simp; rfl) (by simp)).trans ?_
            exact sub_rb [some 0, some 1, some 2, some 3, some 4, some 5, some 7] rfl (by simp) (by simp [bendTo])
          rintro m m1
          simp only [List.cons_append, List.nil_append, prune, List.map_cons, List.map_nil, Go.AM.look, Nat.reduceEqDiff, reduceIte]
          refine awp_sr rfl fun K hK => ?_
          simp -dsimp
          refine hK _ _ ?_; clear hK K
          refine awp_seq_k fun K10 hK10 => ?_
          refine awp_cond rfl (fun hc4 => ?_) (fun hc4 => ?_)
          · skip
            try simp at hc4
            have hx : ([[I (j : Int)], [I ((j : Int) + 1)]] : List (List AV))[m]? = some [I ((j : Int) + (m : Int))] := by
              have : m = 0 ∨ m = 1 := by omega
              rcases this with rfl | rfl <;> simp
            have gm := nth_get (l := p.line k) (k := j + m) (by omega)
            have wm : IntKind.i64.wrap ((m : Int) + 1) = (m : Int) + 1 := wrap_in (by omega) (by omega)
            have hbl := bendL_len (p.line k) j
            have hbtl := bendTo_len (p.line k) j m
            have hbt := bendTo_take (p.line k) j m
            have f3 : Fits ((bendTo (p.line k) j m).length + 1) 17 := fits_of (by omega) (by omega)
            have hcb := c_bend (p.line k) (j + m) (by omega) (by omega) ro.spots
            rw [Int.natCast_add] at hcb
            have htn : ((j : Int) + (m : Int)).toNat = j + m := by omega
            refine awp_skip ?_
            simp only [thenA, inBlockA, reduceIte, Nat.reduceEqDiff, eq_self]
            refine hK10 _ _ ?_
            refine awp_prune [1, 4, 5, 6, 8, 9, 10, 12, 24, 25, 39, 40, 76, 77, 78] ?_
            simp only [prune, List.map_cons, List.map_nil, Go.AM.look, Nat.reduceEqDiff, reduceIte]
            refine awp_seq_k fun K11 hK11 => ?_
            refine awp_block ?_
            refine awp_sr rfl fun K hK => ?_
            simp -dsimp [hx]
            refine hK _ _ ?_; clear hK K
            refine awp_sr rfl fun K hK => ?_
            simp -dsimp
            refine callK_intro _ (hcb) (by simp) ?_
            simp -dsimp
            refine hK _ _ ?_; clear hK K
            refine awp_cond rfl (fun hc5 => ?_) (fun hc5 => ?_)
            · skip
              try simp at hc5
              refine awp_draw mixed rfl fun K hK => ?_
              simp -dsimp [gm, f3, htn]
              refine ⟨by omega, ?_⟩
              refine hK _ _ _ (by decide +kernel) ?_; clear hK K
              simp only [thenA, inBlockA, reduceIte, Nat.reduceEqDiff, eq_self]
              refine hK11 _ _ ?_
              refine awp_prune [1, 4, 5, 6, 8, 9, 10, 12, 24, 25, 39, 40, 76, 77, 78] ?_
              simp only [prune, List.map_cons, List.map_nil, Go.AM.look, Nat.reduceEqDiff, reduceIte]
              refine awp_r rfl fun K hK => ?_
              simp -dsimp [wm]
              refine hK _ _ ?_; clear hK K
              simp only [thenA, inBlockA, reduceIte, Nat.reduceEqDiff, eq_self]
              exact ⟨m + 1, by omega, by omega, sub_rb [some 0, some 1, some 2, some 3, some 4, some 5, some 7] rfl (by simp) (by simp [bendTo_succ, bendL, hc5, hbt])⟩
            · skip
              try simp at hc5
              refine awp_skip ?_
              simp only [thenA, inBlockA, reduceIte, Nat.reduceEqDiff, eq_self]
              refine hK11 _ _ ?_
              refine awp_prune [1, 4, 5, 6, 8, 9, 10, 12, 24, 25, 39, 40, 76, 77, 78] ?_
              simp only [prune, List.map_cons, List.map_nil, Go.AM.look, Nat.reduceEqDiff, reduceIte]
              refine awp_r rfl fun K hK => ?_
              simp -dsimp [wm]
              refine hK _ _ ?_; clear hK K
              simp only [thenA, inBlockA, reduceIte, Nat.reduceEqDiff, eq_self]
              exact ⟨m + 1, by omega, by omega, sub_rb [some 0, some 1, some 2, some 3, some 4, some 5, some 6] rfl (by simp) (by simp [bendTo_succ, bendL, hc5])⟩
          · skip
            try simp at hc4
            have hm2 : m = 2 := by omega
            subst hm2
            refine awp_weak (sub_rfM [some 0, some 1, some 2, some 3, some 4, some 5] rfl) ?_
            simp [bendTo_take]
            refine awp_exit ?_
            simp only [thenA, inBlockA, reduceIte, Nat.reduceEqDiff, eq_self]
            refine hK9 _ _ ?_
            refine awp_prune [1, 4, 5, 6, 8, 9, 10, 12, 24, 25, 39, 40] ?_
            simp only [prune, List.map_cons, List.map_nil, Go.AM.look, Nat.reduceEqDiff, reduceIte]
            refine awp_r rfl fun K hK => ?_
            simp -dsimp [hsl, f2]
            refine hK _ _ ?_; clear hK K
            simp only [thenA, inBlockA, reduceIte, Nat.reduceEqDiff, eq_self]
            refine hK8 _ _ ?_
            refine awp_prune [1, 4, 5, 6, 8, 9, 10, 24, 25, 39, 40] ?_
            simp only [prune, List.map_cons, List.map_nil, Go.AM.look, Nat.reduceEqDiff, reduceIte]
            refine awp_r rfl fun K hK => ?_
            simp -dsimp [wj]
            refine hK _ _ ?_; clear hK K
            simp only [thenA, inBlockA, reduceIte, Nat.reduceEqDiff, eq_self]
            have hso : stripOf (p.line k) k j = ⟨k, j, nth (p.line k) j, nth (p.line k) (j + 1), bendTo (p.line k) j 2, sumTo (p.line k) j, sumTo (p.line k) (j + 1)⟩ := by simp [stripOf, bendTo_two]
            exact ⟨j + 1, by omega, by omega, sub_rb [some 0, some 1, some 2, some 3, some 6] rfl (by simp) (by simp [stripsTo_succ, hso, stripsTo_take])⟩
        · skip
          try simp at hc3
          have hjj : j = (p.rail k).Shape.length + 1 := by omega
          subst hjj
          refine awp_weak (sub_rfM [some 0, some 1, some 2, some 3] rfl) ?_
          simp [stripsTo_take, stripsTo_len]
          refine awp_exit ?_
          simp only [thenA, inBlockA, reduceIte, Nat.reduceEqDiff, eq_self]
          refine hK6 _ _ ?_
          refine awp_prune [1, 4, 9, 24, 25] ?_
          simp only [prune, List.map_cons, List.map_nil, Go.AM.look, Nat.reduceEqDiff, reduceIte]
          refine awp_r rfl fun K hK => ?_
          simp -dsimp [hll, f1]
          refine hK _ _ ?_; clear hK K
          simp only [thenA, inBlockA, reduceIte, Nat.reduceEqDiff, eq_self]
          refine hK4 _ _ ?_
          refine awp_prune [1, 4, 24, 25] ?_
          simp only [prune, List.map_cons, List.map_nil, Go.AM.look, Nat.reduceEqDiff, reduceIte]
          refine awp_r rfl fun K hK => ?_
          simp -dsimp [wk]
          refine hK _ _ ?_; clear hK K
          simp only [thenA, inBlockA, reduceIte, Nat.reduceEqDiff, eq_self]
          exact ⟨k + 1, by omega, by omega, sub_rb [some 0, some 1, some 4] rfl (by simp) (by simp [sheetRows_succ, htk, hll, Plan.strips])⟩
    · skip
      try simp at hc1
      have hk : k = p.Rails.length := by omega
      subst hk
      have htk : (sheetRows p p.Rails.length).take (sheetRows p p.Rails.length).length = sheetRows p p.Rails.length := List.take_of_length_le (Nat.le_refl _)
      refine awp_exit ?_
      simp only [thenA, inBlockA, reduceIte, Nat.reduceEqDiff, eq_self]
      refine hK2 _ _ ?_
      refine awp_prune [4] ?_
      simp only [prune, List.map_cons, List.map_nil, Go.AM.look, Nat.reduceEqDiff, reduceIte]
      refine awp_sr rfl fun K hK => ?_
      simp -dsimp
      refine hK _ _ ?_; clear hK K
      exact awp_ret (by simp [sheet, htk])
end Go.Tram
