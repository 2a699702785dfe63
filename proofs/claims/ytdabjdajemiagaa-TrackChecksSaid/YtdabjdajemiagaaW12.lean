/- Walks: the sheet of a plan. -/
import Derived.Test.YtdabjdajemiagaaW10
import Derived.Test.YtdabjdajemiagaaW11
namespace Go.Tram
open Go.AM Go.Proofs
set_option maxRecDepth 10000
set_option maxHeartbeats 4000000
set_option linter.unusedVariables false
set_option linter.unusedSimpArgs false

theorem sub_rfM {nt : Nat} {T : Tm} {H : Hp} (g : List (Option Nat)) (hn : nodupB g = true) : Go.AM.Sub nt T H (T.map fun p => (p.1, renF (hget H) g 3 (Go.AM.look T p.1))) (renHF H g) := by
  refine sub_rf g hn ?_ rfl
  have gen : ∀ l : Tm, subTF H g T (l.map fun p => (p.1, renF (hget H) g 3 (Go.AM.look T p.1))) := by
    intro l
    induction l with
    | nil => trivial
    | cons x l ih => exact ⟨Or.inr rfl, ih⟩
  exact gen T

/-- Cells that hold nothing but numbers and lists by content. -/
def flatC : AV → Bool
  | .v _ => true
  | .lst _ _ => true
  | .full _ _ => true
  | .iptr _ => true
  | _ => false
theorem flatC_ren {x : AV} (h : flatC x = true) (g : List (Option Nat)) (n : Nat) : renAV g n x = x := by cases x <;> first | (cases n <;> rfl) | cases h
theorem flatC_renF {x : AV} (h : flatC x = true) (H : Nat → Option ARow) (g : List (Option Nat)) (n : Nat) : renF H g n x = x := by cases x <;> first | (cases n <;> rfl) | cases h
theorem flatC_frzP {x : AV} (h : flatC x = true) (H : Hp) (n : Nat) : frzP H n x = x := by cases x <;> first | (cases n <;> rfl) | cases h
theorem flatC_frz {x : AV} (h : flatC x = true) (H : Nat → Option ARow) (n : Nat) : frz H n x = x := by cases x <;> first | (cases n <;> rfl) | cases h
theorem flatC_noRef {x : AV} (h : flatC x = true) (n : Nat) : x.noRef n = true := by cases x <;> first | (cases n <;> rfl) | cases h
theorem map_flatC {f : AV → AV} (hf : ∀ x, flatC x = true → f x = x) {es : List (List AV)} (h : es.all (fun e => e.all flatC) = true) : es.map (fun e => e.map f) = es := by
  have : es.map (fun e => e.map f) = es.map id := by
    refine List.map_congr_left fun e he => ?_
    have he' := List.all_eq_true.1 h e he
    have : e.map f = e.map id := List.map_congr_left fun x hx => hf x (List.all_eq_true.1 he' x hx)
    simpa using this
  simpa using this
theorem flat_spots (l : List Spot) : (l.map Spot.cells).all (fun e => e.all flatC) = true := by simp [flatC]
theorem flat_ss (l : List SS) : (l.map SS.cells).all (fun e => e.all flatC) = true := by simp [flatC]
theorem flat_sheet (p : Plan) (n : Nat) : (sheetRows p n).all (fun e => e.all flatC) = true := by simp [sheetRows, flatC]
theorem plain_flat {es : List (List AV)} (h : es.all (fun e => e.all flatC) = true) : plainEls es = true := by
  unfold plainEls
  rw [List.all_eq_true] at h ⊢
  intro e he
  have := h e he
  rw [List.all_eq_true] at this ⊢
  intro x hx
  exact flatC_noRef (this x hx) 2
@[simp high] theorem flat_spots_ren (l : List Spot) (g : List (Option Nat)) (n : Nat) : (l.map Spot.cells).map (fun e => e.map (renAV g n)) = l.map Spot.cells := map_flatC (fun x h => flatC_ren h g n) (flat_spots l)
@[simp high] theorem flat_spots_renF (l : List Spot) (H : Nat → Option ARow) (g : List (Option Nat)) (n : Nat) : (l.map Spot.cells).map (fun e => e.map (renF H g n)) = l.map Spot.cells := map_flatC (fun x h => flatC_renF h H g n) (flat_spots l)
@[simp high] theorem flat_spots_frzP (l : List Spot) (H : Hp) (n : Nat) : (l.map Spot.cells).map (fun e => e.map (frzP H n)) = l.map Spot.cells := map_flatC (fun x h => flatC_frzP h H n) (flat_spots l)
@[simp high] theorem flat_spots_plain (l : List Spot) : plainEls (l.map Spot.cells) = true := plain_flat (flat_spots l)
@[simp high] theorem flat_ss_ren (l : List SS) (g : List (Option Nat)) (n : Nat) : (l.map SS.cells).map (fun e => e.map (renAV g n)) = l.map SS.cells := map_flatC (fun x h => flatC_ren h g n) (flat_ss l)
@[simp high] theorem flat_ss_renF (l : List SS) (H : Nat → Option ARow) (g : List (Option Nat)) (n : Nat) : (l.map SS.cells).map (fun e => e.map (renF H g n)) = l.map SS.cells := map_flatC (fun x h => flatC_renF h H g n) (flat_ss l)
@[simp high] theorem flat_ss_frzP (l : List SS) (H : Hp) (n : Nat) : (l.map SS.cells).map (fun e => e.map (frzP H n)) = l.map SS.cells := map_flatC (fun x h => flatC_frzP h H n) (flat_ss l)
@[simp high] theorem flat_ss_plain (l : List SS) : plainEls (l.map SS.cells) = true := plain_flat (flat_ss l)
@[simp high] theorem sheet_ren (p : Plan) (k : Nat) (g : List (Option Nat)) (n : Nat) : (sheetRows p k).map (fun e => e.map (renAV g n)) = sheetRows p k := map_flatC (fun x h => flatC_ren h g n) (flat_sheet p k)
@[simp high] theorem sheet_renF (p : Plan) (k : Nat) (H : Nat → Option ARow) (g : List (Option Nat)) (n : Nat) : (sheetRows p k).map (fun e => e.map (renF H g n)) = sheetRows p k := map_flatC (fun x h => flatC_renF h H g n) (flat_sheet p k)
@[simp high] theorem sheet_frzP (p : Plan) (k : Nat) (H : Hp) (n : Nat) : (sheetRows p k).map (fun e => e.map (frzP H n)) = sheetRows p k := map_flatC (fun x h => flatC_frzP h H n) (flat_sheet p k)

theorem sheetRows_len (p : Plan) (n : Nat) : (sheetRows p n).length = n := by simp [sheetRows]
theorem sheetRows_succ (p : Plan) (n : Nat) : sheetRows p (n + 1) = sheetRows p n ++ [[.lst 9 ((p.strips (n : Int)).map SS.cells)]] := by simp [sheetRows, List.range_succ]
theorem sheetRows_get {p : Plan} {n k : Nat} (h : k < n) : (sheetRows p n)[k]? = some [.lst 9 ((p.strips (k : Int)).map SS.cells)] := by simp [sheetRows, h]
theorem stripsTo_len (l : List Spot) (r : Int) (n : Nat) : (stripsTo l r n).length = n := by simp [stripsTo]
theorem stripsTo_succ (l : List Spot) (r : Int) (n : Nat) : stripsTo l r (n + 1) = stripsTo l r n ++ [stripOf l r n] := by simp [stripsTo, List.range_succ]

def bendTo (l : List Spot) (j m : Nat) : List Spot := (List.range m).flatMap fun i => bendL l (j + i)
theorem bendTo_succ (l : List Spot) (j m : Nat) : bendTo l j (m + 1) = bendTo l j m ++ bendL l (j + m) := by simp [bendTo, List.range_succ]
theorem bendTo_len (l : List Spot) (j : Nat) : ∀ m, (bendTo l j m).length ≤ m
  | 0 => by simp [bendTo]
  | m + 1 => by
    have h1 := bendTo_len l j m
    have h2 := bendL_len l (j + m)
    rw [bendTo_succ, List.length_append]; omega
theorem bendTo_take (l : List Spot) (j m : Nat) : ((bendTo l j m).map Spot.cells).take (bendTo l j m).length = (bendTo l j m).map Spot.cells := List.take_of_length_le (by simp)
theorem stripsTo_take (l : List Spot) (r : Int) (n : Nat) : ((stripsTo l r n).map SS.cells).take n = (stripsTo l r n).map SS.cells := List.take_of_length_le (by simp [stripsTo])
theorem bendTo_two (l : List Spot) (j : Nat) : bendTo l j 2 = bendL l j ++ bendL l (j + 1) := by simp [bendTo, List.range_succ]

end Go.Tram
