/- The data of the signals as the abstract machine holds them, and small lemmas. No condition. -/
import Derived.Test.YtmenlmioccciiaaTds
import Derived.Test.YtmenlmioccciiaaGD
namespace Go.Street
open Go.AM
set_option linter.unusedVariables false
set_option linter.unusedSimpArgs false

structure Strm where
  Kind : Int
  Least : Int
  deriving DecidableEq, Inhabited
structure Mv where
  Rail : Int
  Back : Bool
  deriving DecidableEq, Inhabited
structure Gt where
  M : Mv
  Stream : Int
  deriving DecidableEq, Inhabited
structure Jn where
  Streams : List Strm
  Clears : List (List Int)
  Phases : List (List Int)
  Longest : List Int
  Skips : Int
  Gates : List Gt
  deriving Inhabited
structure Pg where
  Cycle : Int
  Begins : List Int
  Lasts : List Int
  deriving Inhabited
structure Lt where
  Green : Bool
  Since : Int
  deriving DecidableEq, Inhabited

@[simp] def nCell (n : Int) : List AV := [I n]
abbrev iL (l : List Int) : AV := .lst 1 (l.map nCell)
@[simp] def rCell (l : List Int) : List AV := [iL l]
@[simp] def Strm.cells (s : Strm) : List AV := [I s.Kind, I s.Least]
@[simp] def Mv.cells (s : Mv) : List AV := [I s.Rail, Bo s.Back]
@[simp] def Gt.cells (s : Gt) : List AV := [I s.M.Rail, Bo s.M.Back, I s.Stream]
@[simp] def Jn.cells (j : Jn) : List AV := [.lst 2 (j.Streams.map Strm.cells), .lst 1 (j.Clears.map rCell), .lst 1 (j.Phases.map rCell), iL j.Longest, I j.Skips, .lst 3 (j.Gates.map Gt.cells)]
@[simp] def Pg.cells (p : Pg) : List AV := [I p.Cycle, iL p.Begins, iL p.Lasts]
@[simp] def Lt.cells (l : Lt) : List AV := [Bo l.Green, I l.Since]
abbrev Jn.av (j : Jn) : AV := .agg j.cells
abbrev Pg.av (p : Pg) : AV := .agg p.cells

/-- An int's number stays where it fits. -/
theorem wrap_in {n : Int} (h1 : -9223372036854775808 ≤ n) (h2 : n ≤ 9223372036854775807) : IntKind.i64.wrap n = n := IntWalk.i64_in n ⟨h1, h2⟩

/-- Within a range. -/
def inr (x lo hi : Int) : Bool := decide (lo ≤ x) && decide (x ≤ hi)
theorem inr_iff {x lo hi : Int} : inr x lo hi = true ↔ lo ≤ x ∧ x ≤ hi := by simp [inr]

/-- Numbers of a list, by a number. -/
def at0 (l : List Int) (i : Int) : Int := (l[i.toNat]?).getD 0
theorem at0_get {l : List Int} {i : Int} (h0 : 0 ≤ i) (h : i < l.length) : l[i.toNat]? = some (at0 l i) := by
  unfold at0
  rw [List.getElem?_eq_getElem (by omega)]; rfl
theorem at0_nat {l : List Int} {k : Nat} (h : k < l.length) : l[k]? = some (at0 l k) := by
  have := at0_get (l := l) (i := k) (by omega) (by omega)
  simpa using this
theorem at0_of {l : List Int} {k : Nat} {x : Int} (h : l[k]? = some x) : at0 l k = x := by simp [at0, h]
def rowAt (m : List (List Int)) (i : Int) : List Int := (m[i.toNat]?).getD []
theorem rowAt_get {m : List (List Int)} {i : Int} (h0 : 0 ≤ i) (h : i < m.length) : m[i.toNat]? = some (rowAt m i) := by
  unfold rowAt
  rw [List.getElem?_eq_getElem (by omega)]; rfl
theorem rowAt_nat {m : List (List Int)} {k : Nat} (h : k < m.length) : m[k]? = some (rowAt m k) := by
  have := rowAt_get (m := m) (i := k) (by omega) (by omega)
  simpa using this
theorem rowAt_of {m : List (List Int)} {k : Nat} {x : List Int} (h : m[k]? = some x) : rowAt m k = x := by simp [rowAt, h]

theorem take_all' {α : Type} {l : List α} {f : α → Bool} {k : Nat} {x : α} (h : l[k]? = some x) : (l.take (k + 1)).all f = ((l.take k).all f && f x) := by
  rw [List.take_add_one, List.all_append, h]
  simp
theorem all_of_take {α : Type} {l : List α} {f : α → Bool} {k : Nat} (hk : l.length ≤ k) (h : (l.take k).all f = true) : l.all f = true := by rwa [List.take_of_length_le hk] at h
theorem all_ff {α : Type} {l : List α} {f : α → Bool} {k : Nat} {x : α} (h : l[k]? = some x) (hf : f x = false) : l.all f = false := by
  rw [List.all_eq_false]
  exact ⟨x, List.mem_of_getElem? h, by simp [hf]⟩
theorem any_take {α : Type} {l : List α} {q : α → Bool} {k : Nat} {x : α} (h : l[k]? = some x) : (l.take (k + 1)).any q = ((l.take k).any q || q x) := by
  rw [List.take_add_one, List.any_append, h]; simp
theorem any_of_take {α : Type} {l : List α} {q : α → Bool} {k : Nat} (hk : l.length ≤ k) (h : (l.take k).any q = false) : l.any q = false := by rwa [List.take_of_length_le hk] at h

@[simp] theorem take_map_len {α β : Type} (f : α → β) (l : List α) : List.take l.length (l.map f) = l.map f := List.take_of_length_le (by simp)
@[simp] theorem take_take_self {α : Type} (k : Nat) (l : List α) : List.take k (List.take k l) = List.take k l := by rw [List.take_take, Nat.min_self]

/-- Boxes that a closure has captured. -/
def ipts : List (List AV) → List AV
  | [] => []
  | c :: cs => .iptr c :: ipts cs
@[simp] theorem ipts_frz (H : Nat → Option ARow) (n : Nat) : ∀ cl : List (List AV), (ipts cl).map (frz H n) = ipts cl
  | [] => rfl
  | c :: cs => by simp only [ipts, List.map_cons, ipts_frz H n cs, List.cons.injEq, and_true]; cases n <;> rfl
@[simp] theorem ipts_noRef (n : Nat) : ∀ cl : List (List AV), (ipts cl).all (AV.noRef n) = true
  | [] => rfl
  | c :: cs => by simp only [ipts, List.all_cons, ipts_noRef n cs, Bool.and_true]; cases n <;> rfl
@[simp] theorem ipts_rd (H : Nat → Option ARow) (n : Nat) : ∀ cl : List (List AV), (ipts cl).flatMap (frzRd H n) = []
  | [] => rfl
  | c :: cs => by simp only [ipts, List.flatMap_cons, ipts_rd H n cs, List.append_nil]; cases n <;> rfl
@[simp] theorem ipts_flat (H : Hp) (n : Nat) : ∀ cl : List (List AV), (ipts cl).map (frzP H n) = ipts cl
  | [] => rfl
  | c :: cs => by simp only [ipts, List.map_cons, ipts_flat H n cs, List.cons.injEq, and_true]; cases n <;> rfl
@[simp] theorem ipts_ren (g : List (Option Nat)) (n : Nat) : ∀ cl : List (List AV), (ipts cl).map (renAV g n) = ipts cl
  | [] => rfl
  | c :: cs => by simp only [ipts, List.map_cons, ipts_ren g n cs, List.cons.injEq, and_true]; cases n <;> rfl

/-- Cells that hold nothing but numbers and lists by content. -/
def flatC : AV → Bool
  | .v _ => true
  | .lst _ _ => true
  | .full _ _ => true
  | .iptr _ => true
  | .mpc _ _ _ => true
  | _ => false
theorem flatC_ren {x : AV} (h : flatC x = true) (g : List (Option Nat)) (n : Nat) : renAV g n x = x := by cases x <;> first | (cases n <;> rfl) | cases h
theorem flatC_renF {x : AV} (h : flatC x = true) (H : Nat → Option ARow) (g : List (Option Nat)) (n : Nat) : renF H g n x = x := by cases x <;> first | (cases n <;> rfl) | cases h
theorem flatC_renC {x : AV} (h : flatC x = true) (H : Nat → Option ARow) (g : List Nat) (n : Nat) : renC H g n x = x := by cases x <;> first | (cases n <;> rfl) | cases h
theorem flatC_bare {x : AV} (h : flatC x = true) (n : Nat) : bareV n x = x := by cases x <;> first | (cases n <;> rfl) | cases h
theorem flatC_frzP {x : AV} (h : flatC x = true) (H : Hp) (n : Nat) : frzP H n x = x := by cases x <;> first | (cases n <;> rfl) | cases h
theorem flatC_frz {x : AV} (h : flatC x = true) (H : Nat → Option ARow) (n : Nat) : frz H n x = x := by cases x <;> first | (cases n <;> rfl) | cases h
theorem flatC_noRef {x : AV} (h : flatC x = true) (n : Nat) : x.noRef n = true := by cases x <;> first | (cases n <;> rfl) | cases h
theorem map_flatC {f : AV → AV} (hf : ∀ x, flatC x = true → f x = x) {es : List (List AV)} (h : es.all (fun e => e.all flatC) = true) : es.map (fun e => e.map f) = es := by
  have : es.map (fun e => e.map f) = es.map id := by
    refine List.map_congr_left fun e he => ?_
    have he' := List.all_eq_true.1 h e he
    have : e.map f = e.map id := List.map_congr_left fun x hx => hf x (List.all_eq_true.1 he' x hx)
    simpa using this
  simpa using this
theorem plain_flat {es : List (List AV)} (h : es.all (fun e => e.all flatC) = true) : plainEls es = true := by
  unfold plainEls
  rw [List.all_eq_true] at h ⊢
  intro e he
  have := h e he
  rw [List.all_eq_true] at this ⊢
  intro x hx
  exact flatC_noRef (this x hx) 2
/-- Cells that hold nothing but numbers. -/
def numC : AV → Bool
  | .v _ => true
  | _ => false
theorem numC_flatV {x : AV} (h : numC x = true) (n : Nat) : x.flatV n = true := by cases x <;> first | (cases n <;> rfl) | cases h
theorem flatV_rows {es : List (List AV)} (h : es.all (fun e => e.all numC) = true) (n : Nat) : (es.all fun e => e.all (AV.flatV n)) = true := by
  rw [List.all_eq_true] at h ⊢
  intro e he
  have := h e he
  rw [List.all_eq_true] at this ⊢
  intro x hx
  exact numC_flatV (this x hx) n
theorem flat_nCell (l : List Int) : (l.map nCell).all (fun e => e.all flatC) = true := by simp [flatC]
@[simp high] theorem flat_nCell_ren (l : List Int) (g : List (Option Nat)) (n : Nat) : (l.map nCell).map (fun e => e.map (renAV g n)) = l.map nCell := map_flatC (fun x h => flatC_ren h g n) (flat_nCell l)
@[simp high] theorem flat_nCell_renF (l : List Int) (H : Nat → Option ARow) (g : List (Option Nat)) (n : Nat) : (l.map nCell).map (fun e => e.map (renF H g n)) = l.map nCell := map_flatC (fun x h => flatC_renF h H g n) (flat_nCell l)
@[simp high] theorem flat_nCell_frzP (l : List Int) (H : Hp) (n : Nat) : (l.map nCell).map (fun e => e.map (frzP H n)) = l.map nCell := map_flatC (fun x h => flatC_frzP h H n) (flat_nCell l)
@[simp high] theorem flat_nCell_frz (l : List Int) (H : Nat → Option ARow) (n : Nat) : (l.map nCell).map (fun e => e.map (frz H n)) = l.map nCell := map_flatC (fun x h => flatC_frz h H n) (flat_nCell l)
@[simp high] theorem flat_nCell_plain (l : List Int) : plainEls (l.map nCell) = true := plain_flat (flat_nCell l)
theorem flat_rCell (l : List (List Int)) : (l.map rCell).all (fun e => e.all flatC) = true := by simp [flatC]
@[simp high] theorem flat_rCell_ren (l : List (List Int)) (g : List (Option Nat)) (n : Nat) : (l.map rCell).map (fun e => e.map (renAV g n)) = l.map rCell := map_flatC (fun x h => flatC_ren h g n) (flat_rCell l)
@[simp high] theorem flat_rCell_renF (l : List (List Int)) (H : Nat → Option ARow) (g : List (Option Nat)) (n : Nat) : (l.map rCell).map (fun e => e.map (renF H g n)) = l.map rCell := map_flatC (fun x h => flatC_renF h H g n) (flat_rCell l)
@[simp high] theorem flat_rCell_frzP (l : List (List Int)) (H : Hp) (n : Nat) : (l.map rCell).map (fun e => e.map (frzP H n)) = l.map rCell := map_flatC (fun x h => flatC_frzP h H n) (flat_rCell l)
@[simp high] theorem flat_rCell_frz (l : List (List Int)) (H : Nat → Option ARow) (n : Nat) : (l.map rCell).map (fun e => e.map (frz H n)) = l.map rCell := map_flatC (fun x h => flatC_frz h H n) (flat_rCell l)
@[simp high] theorem flat_rCell_plain (l : List (List Int)) : plainEls (l.map rCell) = true := plain_flat (flat_rCell l)
theorem flat_Strm.cells (l : List Strm) : (l.map Strm.cells).all (fun e => e.all flatC) = true := by simp [flatC]
@[simp high] theorem flat_Strm.cells_ren (l : List Strm) (g : List (Option Nat)) (n : Nat) : (l.map Strm.cells).map (fun e => e.map (renAV g n)) = l.map Strm.cells := map_flatC (fun x h => flatC_ren h g n) (flat_Strm.cells l)
@[simp high] theorem flat_Strm.cells_renF (l : List Strm) (H : Nat → Option ARow) (g : List (Option Nat)) (n : Nat) : (l.map Strm.cells).map (fun e => e.map (renF H g n)) = l.map Strm.cells := map_flatC (fun x h => flatC_renF h H g n) (flat_Strm.cells l)
@[simp high] theorem flat_Strm.cells_frzP (l : List Strm) (H : Hp) (n : Nat) : (l.map Strm.cells).map (fun e => e.map (frzP H n)) = l.map Strm.cells := map_flatC (fun x h => flatC_frzP h H n) (flat_Strm.cells l)
@[simp high] theorem flat_Strm.cells_frz (l : List Strm) (H : Nat → Option ARow) (n : Nat) : (l.map Strm.cells).map (fun e => e.map (frz H n)) = l.map Strm.cells := map_flatC (fun x h => flatC_frz h H n) (flat_Strm.cells l)
@[simp high] theorem flat_Strm.cells_plain (l : List Strm) : plainEls (l.map Strm.cells) = true := plain_flat (flat_Strm.cells l)
theorem flat_Gt.cells (l : List Gt) : (l.map Gt.cells).all (fun e => e.all flatC) = true := by simp [flatC]
@[simp high] theorem flat_Gt.cells_ren (l : List Gt) (g : List (Option Nat)) (n : Nat) : (l.map Gt.cells).map (fun e => e.map (renAV g n)) = l.map Gt.cells := map_flatC (fun x h => flatC_ren h g n) (flat_Gt.cells l)
@[simp high] theorem flat_Gt.cells_renF (l : List Gt) (H : Nat → Option ARow) (g : List (Option Nat)) (n : Nat) : (l.map Gt.cells).map (fun e => e.map (renF H g n)) = l.map Gt.cells := map_flatC (fun x h => flatC_renF h H g n) (flat_Gt.cells l)
@[simp high] theorem flat_Gt.cells_frzP (l : List Gt) (H : Hp) (n : Nat) : (l.map Gt.cells).map (fun e => e.map (frzP H n)) = l.map Gt.cells := map_flatC (fun x h => flatC_frzP h H n) (flat_Gt.cells l)
@[simp high] theorem flat_Gt.cells_frz (l : List Gt) (H : Nat → Option ARow) (n : Nat) : (l.map Gt.cells).map (fun e => e.map (frz H n)) = l.map Gt.cells := map_flatC (fun x h => flatC_frz h H n) (flat_Gt.cells l)
@[simp high] theorem flat_Gt.cells_plain (l : List Gt) : plainEls (l.map Gt.cells) = true := plain_flat (flat_Gt.cells l)
theorem flat_Lt.cells (l : List Lt) : (l.map Lt.cells).all (fun e => e.all flatC) = true := by simp [flatC]
@[simp high] theorem flat_Lt.cells_ren (l : List Lt) (g : List (Option Nat)) (n : Nat) : (l.map Lt.cells).map (fun e => e.map (renAV g n)) = l.map Lt.cells := map_flatC (fun x h => flatC_ren h g n) (flat_Lt.cells l)
@[simp high] theorem flat_Lt.cells_renF (l : List Lt) (H : Nat → Option ARow) (g : List (Option Nat)) (n : Nat) : (l.map Lt.cells).map (fun e => e.map (renF H g n)) = l.map Lt.cells := map_flatC (fun x h => flatC_renF h H g n) (flat_Lt.cells l)
@[simp high] theorem flat_Lt.cells_frzP (l : List Lt) (H : Hp) (n : Nat) : (l.map Lt.cells).map (fun e => e.map (frzP H n)) = l.map Lt.cells := map_flatC (fun x h => flatC_frzP h H n) (flat_Lt.cells l)
@[simp high] theorem flat_Lt.cells_frz (l : List Lt) (H : Nat → Option ARow) (n : Nat) : (l.map Lt.cells).map (fun e => e.map (frz H n)) = l.map Lt.cells := map_flatC (fun x h => flatC_frz h H n) (flat_Lt.cells l)
@[simp high] theorem flat_Lt.cells_plain (l : List Lt) : plainEls (l.map Lt.cells) = true := plain_flat (flat_Lt.cells l)
@[simp high] theorem num_nCell (l : List Int) (n : Nat) : ((l.map nCell).all fun e => e.all (AV.flatV n)) = true := flatV_rows (by simp [numC]) n
@[simp high] theorem num_Strm.cells (l : List Strm) (n : Nat) : ((l.map Strm.cells).all fun e => e.all (AV.flatV n)) = true := flatV_rows (by simp [numC]) n
@[simp high] theorem num_Gt.cells (l : List Gt) (n : Nat) : ((l.map Gt.cells).all fun e => e.all (AV.flatV n)) = true := flatV_rows (by simp [numC]) n
@[simp high] theorem num_Lt.cells (l : List Lt) (n : Nat) : ((l.map Lt.cells).all fun e => e.all (AV.flatV n)) = true := flatV_rows (by simp [numC]) n

/-- The first place at which it holds; -1: none. -/
def firstI {α : Type} (l : List α) (q : α → Bool) : Int := match l.findIdx? q with | some i => i | none => -1
theorem firstI_none {α : Type} {l : List α} {q : α → Bool} (h : l.any q = false) : firstI l q = -1 := by
  have : l.findIdx? q = none := by
    rw [List.findIdx?_eq_none_iff]
    intro x hx
    rw [List.any_eq_false] at h
    simpa using h x hx
  unfold firstI; rw [this]
theorem firstI_hit {α : Type} {l : List α} {q : α → Bool} {k : Nat} {x : α} (hx : l[k]? = some x) (hq : q x = true) (hn : (l.take k).any q = false) : firstI l q = k := by
  obtain ⟨hk, he⟩ := List.getElem?_eq_some_iff.1 hx
  have : l.findIdx? q = some k := by
    rw [List.findIdx?_eq_some_iff_getElem]
    refine ⟨hk, by rw [he]; exact hq, fun j hj => ?_⟩
    rw [List.any_eq_false] at hn
    have := hn l[j] (by rw [List.mem_take_iff_getElem]; exact ⟨j, by omega, rfl⟩)
    simpa using this
  unfold firstI; rw [this]
theorem firstI_nn {α : Type} (l : List α) (q : α → Bool) : decide (0 ≤ firstI l q) = l.any q := by
  cases h : l.any q with
  | false => rw [firstI_none h]; rfl
  | true =>
    rw [List.any_eq_true] at h
    obtain ⟨x, hx, hq⟩ := h
    unfold firstI
    cases hi : l.findIdx? q with
    | none => rw [List.findIdx?_eq_none_iff] at hi; exact absurd hq (by simp [hi x hx])
    | some i => simp

/-- The numbers of a list, each once, in the order in which they come first. -/
def dd (l : List Int) : List Int := l.foldl (fun s x => if x ∈ s then s else s ++ [x]) []
def metK (l : List Int) : List (List KC × Value) := (dd l).map fun x => ([.i .i64 x], .bool true)
theorem dd_snoc (l : List Int) (x : Int) : dd (l ++ [x]) = if x ∈ dd l then dd l else dd l ++ [x] := by unfold dd; rw [List.foldl_append]; rfl
theorem dd_mem (l : List Int) (x : Int) : x ∈ dd l ↔ x ∈ l := by
  have gen : ∀ (l s : List Int), x ∈ l.foldl (fun s x => if x ∈ s then s else s ++ [x]) s ↔ x ∈ s ∨ x ∈ l := by
    intro l
    induction l with
    | nil => simp
    | cons y l ih =>
      intro s
      rw [List.foldl_cons, ih]
      split
      · rename_i h
        constructor
        · rintro (h | h) <;> simp [h]
        · rintro (h1 | h1)
          · exact Or.inl h1
          · rcases List.mem_cons.1 h1 with rfl | h1
            · exact Or.inl h
            · exact Or.inr h1
      · simp only [List.mem_append, List.mem_cons, List.not_mem_nil, or_false, or_assoc]
  have := gen l []
  simpa [dd] using this
theorem dd_nodup (l : List Int) : (dd l).Nodup := by
  have gen : ∀ (l s : List Int), s.Nodup → (l.foldl (fun s x => if x ∈ s then s else s ++ [x]) s).Nodup := by
    intro l
    induction l with
    | nil => intro s h; exact h
    | cons y l ih =>
      intro s h
      rw [List.foldl_cons]
      refine ih _ ?_
      split
      · exact h
      · rename_i hy
        rw [List.nodup_append]
        exact ⟨h, by simp, fun a ha b hb => by simp at hb; subst hb; rintro rfl; exact hy ha⟩
  exact gen l [] List.nodup_nil
theorem kvSet_in (s : List Int) (x : Int) (h : x ∈ s) : kvSet (s.map fun x => ([KC.i .i64 x], Value.bool true)) [.i .i64 x] (.bool true) = s.map fun x => ([KC.i .i64 x], Value.bool true) := by
  induction s with
  | nil => cases h
  | cons y s ih =>
    simp only [List.map_cons, kvSet, List.cons.injEq, KC.i.injEq, true_and, and_true]
    split
    · rename_i e; subst e; rfl
    · rename_i e
      rw [ih ((List.mem_cons.1 h).resolve_left e)]
theorem kvSet_out (s : List Int) (x : Int) (h : x ∉ s) : kvSet (s.map fun x => ([KC.i .i64 x], Value.bool true)) [.i .i64 x] (.bool true) = (s ++ [x]).map fun x => ([KC.i .i64 x], Value.bool true) := by
  induction s with
  | nil => rfl
  | cons y s ih =>
    simp only [List.map_cons, kvSet, List.cons.injEq, KC.i.injEq, true_and, and_true]
    rw [if_neg (fun e => h (by simp [e])), ih (fun k => h (by simp [k]))]
    rfl
theorem metK_snoc (l : List Int) (x : Int) : kvSet (metK l) [.i .i64 x] (.bool true) = metK (l ++ [x]) := by
  unfold metK
  rw [dd_snoc]
  split
  · rename_i h; exact kvSet_in _ _ h
  · rename_i h; exact kvSet_out _ _ h
theorem metK_get (l : List Int) (x : Int) : kvGet (metK l) [.i .i64 x] = if x ∈ l then some (.bool true) else none := by
  have gen : ∀ s : List Int, kvGet (s.map fun x => ([KC.i .i64 x], Value.bool true)) [.i .i64 x] = if x ∈ s then some (.bool true) else none := by
    intro s
    induction s with
    | nil => rfl
    | cons y s ih =>
      simp only [List.map_cons, kvGet, List.cons.injEq, KC.i.injEq, true_and, and_true, List.mem_cons]
      by_cases e : x = y
      · simp [e]
      · simp [e, ih]
  unfold metK
  rw [gen]
  simp only [dd_mem]
theorem metK_look (l : List Int) (x : Int) : ((kvGet (metK l) [.i .i64 x]).getD (.bool false)) = .bool (decide (x ∈ l)) := by
  rw [metK_get]
  split <;> simp [*]
theorem metK_len (l : List Int) : (metK l).length = (dd l).length := by simp [metK]
@[simp] theorem metK_nil : metK [] = [] := rfl

theorem sub_len : ∀ (u t : List Nat), u.Nodup → (∀ x ∈ u, x ∈ t) → u.length ≤ t.length
  | [], t, _, _ => Nat.zero_le _
  | x :: u, t, hn, hs => by
    rw [List.nodup_cons] at hn
    have hx := hs x (by simp)
    have := sub_len u (t.erase x) hn.2 (fun y hy => (List.mem_erase_of_ne (by rintro rfl; exact hn.1 hy)).2 (hs y (by simp [hy])))
    rw [List.length_erase_of_mem hx] at this
    have := List.length_pos_of_mem hx
    simp only [List.length_cons]; omega

/-- Numbers below n, each once, are n of them if and only if they are all. -/
theorem full_iff {s : List Int} {n : Nat} (hn : s.Nodup) (hb : ∀ x ∈ s, 0 ≤ x ∧ x < n) : s.length = n ↔ ∀ a : Nat, a < n → (a : Int) ∈ s := by
  have e : (s.map Int.toNat).Nodup := by
    refine (List.pairwise_map.2 ?_ : List.Pairwise (· ≠ ·) (s.map Int.toNat))
    refine hn.imp_of_mem fun {a b} ha hb' hab h => hab ?_
    have := hb a ha; have := hb b hb'; omega
  have hlt : ∀ x ∈ s.map Int.toNat, x < n := fun x hx => by
    obtain ⟨y, hy, rfl⟩ := List.mem_map.1 hx
    have := hb y hy; omega
  have hle : ∀ t : List Nat, t.Nodup → (∀ x ∈ t, x < n) → t.length ≤ n := by
    intro t ht hx
    have := sub_len t (List.range n) ht (fun x hx' => List.mem_range.2 (hx x hx'))
    simpa using this
  constructor
  · intro hl a ha
    by_cases hm : a ∈ s.map Int.toNat
    · obtain ⟨y, hy, rfl⟩ := List.mem_map.1 hm
      have := hb y hy
      rwa [Int.toNat_of_nonneg this.1]
    · have := hle (a :: s.map Int.toNat) (List.nodup_cons.2 ⟨hm, e⟩) (fun x hx => by
        rcases List.mem_cons.1 hx with rfl | hx
        · exact ha
        · exact hlt x hx)
      simp at this; omega
  · intro hall
    refine Nat.le_antisymm ?_ ?_
    · have := hle (s.map Int.toNat) e hlt
      simpa using this
    · have := sub_len (List.range n) (s.map Int.toNat) List.nodup_range (fun a ha => List.mem_map.2 ⟨(a : Int), hall a (List.mem_range.1 ha), by simp⟩)
      simpa using this
theorem beq_d (x y : Int) : (x == y) = decide (x = y) := by by_cases h : x = y <;> simp [h]
theorem len_beq0 (n : Nat) : (((n : Int)) == 0) = (n == 0) := by
  rw [beq_d]
  cases n with
  | zero => rfl
  | succ n => exact decide_eq_false (by omega)
theorem bif_to_or (a b : Bool) : (bif a then true else b) = (a || b) := by cases a <;> rfl
open Go.Proofs
theorem und_bool : (Try.prog).underlying 4 = some .bool := by kernel_rfl
theorem kt_bool : ktOf Try.prog 4 = some .b := by kernel_rfl
theorem eq_bool (t : TypeId) (x y : Operand) (a b : Bool) (w : World) (ht : (Try.prog).underlying t = some .bool) (hk : ktOf Try.prog t = some .b) : (eqGuard .eql t x y (.bool a) (.bool b)).run Try.prog w = .ok () w ∧ (binOp .eql t (.bool a) (.bool b)).run Try.prog w = .ok (.bool (a == b)) w := by
  constructor
  · simp [eqGuard, run_underlying ht]
  · have h := run_equalIn_kc (P := Try.prog) (w := w) hk (Op.maxDepth - 1) (a := .b a) (b := .b b) rfl rfl
    rw [show Op.maxDepth - 1 + 1 = Op.maxDepth from rfl] at h
    simp only [KC.val] at h
    have e : decide (KC.b a = KC.b b) = (a == b) := by cases a <;> cases b <;> rfl
    rw [e] at h
    simp [binOp, Op.equal, h]
theorem ne_guard (t : TypeId) (x y : Operand) (a b : Bool) (w : World) (ht : (Try.prog).underlying t = some .bool) : (eqGuard .neq t x y (.bool a) (.bool b)).run Try.prog w = .ok () w := by
  simp [eqGuard, run_underlying ht]
theorem ne_bool (t : TypeId) (a b : Bool) (w : World) (hk : ktOf Try.prog t = some .b) : (binOp .neq t (.bool a) (.bool b)).run Try.prog w = .ok (.bool (a != b)) w := by
  have h := run_equalIn_kc (P := Try.prog) (w := w) hk (Op.maxDepth - 1) (a := .b a) (b := .b b) rfl rfl
  rw [show Op.maxDepth - 1 + 1 = Op.maxDepth from rfl] at h
  simp only [KC.val] at h
  simp [binOp, Op.equal, h]
  cases a <;> cases b <;> rfl
end Go.Street
