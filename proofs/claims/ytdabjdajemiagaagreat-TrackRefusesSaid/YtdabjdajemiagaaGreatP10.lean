/- Laws: what can be reached. -/
import Derived.Test.YtdabjdajemiagaaGreatP4
namespace Go.Tram
open Go.AM Go.Proofs
set_option linter.unusedVariables false
set_option linter.unusedSimpArgs false

/-- The numbers of the moves that follow. -/
def nxI (p : Plan) (k : Int) : List Int := srt (nxTo p (moveM k) (nodeAt p (moveM k)).Ends.length)
theorem nxI_next (p : Plan) (k : Int) : nextL p (moveM k) = (nxI p k).map moveM := rfl
theorem nxI_len (p : Plan) (k : Int) : (nxI p k).length = (nextL p (moveM k)).length := by rw [nxI_next, List.length_map]
theorem mov_of {p : Plan} {k : Int} (h0 : 0 ≤ k) (h1 : k < 2 * p.Rails.length) : movB p (moveM k) = true := by
  rw [movB_iff]; simp only [moveM]; omega
theorem nxI_bd {p : Plan} (hv : validB p = true) {k : Int} (h0 : 0 ≤ k) (h1 : k < 2 * p.Rails.length) {y : Int} (hy : y ∈ nxI p k) : 0 ≤ y ∧ y < 2 * p.Rails.length := by
  have := (nx_mem hv (mov_of h0 h1)).1 (ins_mem'.1 hy)
  exact ⟨this.1, this.2.1⟩

inductive Reach (p : Plan) (f : Int) : Int → Prop where
  | one {k : Int} (h : k ∈ nxI p f) : Reach p f k
  | more {j k : Int} (h : Reach p f j) (hk : k ∈ nxI p j) : Reach p f k
theorem reach_bd {p : Plan} (hv : validB p = true) {f : Int} (h0 : 0 ≤ f) (h1 : f < 2 * p.Rails.length) {k : Int} (h : Reach p f k) : 0 ≤ k ∧ k < 2 * p.Rails.length := by
  induction h with
  | one h => exact nxI_bd hv h0 h1 h
  | more _ hk ih => exact nxI_bd hv ih.1 ih.2 hk
theorem reach_trans {p : Plan} {a b c : Int} (h : Reach p a b) (k : Reach p b c) : Reach p a c := by
  induction k with
  | one k => exact .more h k
  | more _ k ih => exact .more ih k

noncomputable def rB (p : Plan) (f k : Int) : Bool := @decide (Reach p f k) (Classical.propDecidable _)
theorem rB_iff {p : Plan} {f k : Int} : rB p f k = true ↔ Reach p f k := by unfold rB; exact @decide_eq_true_iff _ (Classical.propDecidable _)
noncomputable def reachL (p : Plan) (f : Int) : List Bool := (List.range (2 * p.Rails.length)).map fun (k : Nat) => rB p f k
theorem reachL_len (p : Plan) (f : Int) : (reachL p f).length = 2 * p.Rails.length := by simp [reachL]
theorem reachL_get {p : Plan} {f : Int} {k : Nat} (h : k < 2 * p.Rails.length) : (reachL p f)[k]? = some (rB p f k) := by simp [reachL, h]

def unm (l : List Bool) : Nat := l.countP fun b => !b
theorem gd_set {l : List Bool} {i k : Nat} (hi : i < l.length) : gd (l.set i true) k = (decide (i = k) || gd l k) := by
  unfold gd
  rw [List.getD_eq_getElem?_getD, List.getD_eq_getElem?_getD, List.getElem?_set]
  by_cases e : i = k
  · subst e; simp [hi]
  · simp [e]
theorem unm_set {l : List Bool} {i : Nat} (hi : i < l.length) (h : gd l i = false) : unm (l.set i true) + 1 = unm l := by
  have ei : gd l i = l[i] := by unfold gd; rw [List.getD_eq_getElem?_getD, List.getElem?_eq_getElem hi]; rfl
  rw [ei] at h
  have h1 : 1 ≤ unm l := List.countP_pos_iff.2 ⟨_, List.getElem_mem hi, by simp [h]⟩
  have h2 : unm (l.set i true) = unm l - 1 := by
    unfold unm
    rw [List.countP_set hi]
    simp [h]
  omega
theorem gd_lt {l : List Bool} {k : Nat} (h : gd l k = true) : k < l.length := by
  by_cases hk : k < l.length
  · exact hk
  · unfold gd at h
    rw [List.getD_eq_getElem?_getD, List.getElem?_eq_none (by omega)] at h
    exact absurd h (by decide)

def bStep (s : List Bool × List Int) (k : Int) : List Bool × List Int := if gd s.1 k.toNat = true then s else (s.1.set k.toNat true, s.2 ++ [k])
def bFold (s : List Bool × List Int) (L : List Int) : List Bool × List Int := L.foldl bStep s
theorem bFold_snoc (s : List Bool × List Int) (L : List Int) (k : Int) : bFold s (L ++ [k]) = bStep (bFold s L) k := by simp [bFold]

structure BF (n : Nat) (out : List Bool) (q : List Int) (L : List Int) (out' : List Bool) (q' : List Int) : Prop where
  len : out'.length = n
  mono : ∀ k, gd out k = true → gd out' k = true
  all : ∀ y ∈ L, gd out' y.toNat = true
  only : ∀ k : Nat, gd out' k = true → gd out k = true ∨ (k : Int) ∈ L
  old : ∀ x ∈ q, x ∈ q'
  new : ∀ x ∈ q', x ∈ q ∨ x ∈ L
  mem : ∀ x : Int, 0 ≤ x → gd out' x.toNat = true → gd out x.toNat = true ∨ x ∈ q'
  sz : q'.length + unm out' = q.length + unm out
theorem bFold_ok {n : Nat} : ∀ (L : List Int) (out : List Bool) (q : List Int), out.length = n → (∀ y ∈ L, 0 ≤ y ∧ y < n) → BF n out q L (bFold (out, q) L).1 (bFold (out, q) L).2
  | [], out, q, h, _ => ⟨h, fun _ h => h, by simp, fun k h => Or.inl h, fun x h => h, fun x h => Or.inl h, fun x _ h => Or.inl h, rfl⟩
  | k :: L, out, q, h, hL => by
    have hk := hL k (by simp)
    have hL' : ∀ y ∈ L, 0 ≤ y ∧ y < n := fun y hy => hL y (by simp [hy])
    have e : bFold (out, q) (k :: L) = bFold (bStep (out, q) k) L := rfl
    rw [e]
    by_cases hm : gd out k.toNat = true
    · have e2 : bStep (out, q) k = (out, q) := by unfold bStep; rw [if_pos hm]
      rw [e2]
      have ih := bFold_ok L out q h hL'
      refine ⟨ih.len, ih.mono, fun y hy => ?_, fun j hj => ?_, ih.old, fun x hx => ?_, ih.mem, ih.sz⟩
      · rcases List.mem_cons.1 hy with rfl | hy
        · exact ih.mono _ hm
        · exact ih.all y hy
      · rcases ih.only j hj with h | h
        · exact Or.inl h
        · exact Or.inr (by simp [h])
      · rcases ih.new x hx with h | h
        · exact Or.inl h
        · exact Or.inr (by simp [h])
    · have e2 : bStep (out, q) k = (out.set k.toNat true, q ++ [k]) := by unfold bStep; rw [if_neg hm]
      rw [e2]
      have hkl : k.toNat < out.length := by omega
      have ih := bFold_ok L (out.set k.toNat true) (q ++ [k]) (by simpa using h) hL'
      have hf : gd out k.toNat = false := by cases h : gd out k.toNat; rfl; exact absurd h hm
      have hu := unm_set hkl hf
      refine ⟨ih.len, fun j hj => ih.mono j (by rw [gd_set hkl, hj]; simp), fun y hy => ?_, fun j hj => ?_, fun x hx => ih.old x (by simp [hx]), fun x hx => ?_, fun x h0 hx => ?_, by have := ih.sz; simp at this ⊢; omega⟩
      · rcases List.mem_cons.1 hy with rfl | hy
        · exact ih.mono _ (by rw [gd_set hkl]; simp)
        · exact ih.all y hy
      · rcases ih.only j hj with h | h
        · rw [gd_set hkl, Bool.or_eq_true, decide_eq_true_eq] at h
          rcases h with h | h
          · right; simp; left; omega
          · exact Or.inl h
        · exact Or.inr (by simp [h])
      · rcases ih.new x hx with h | h
        · rcases List.mem_append.1 h with h | h
          · exact Or.inl h
          · right; simp at h; simp [h]
        · exact Or.inr (by simp [h])
      · rcases ih.mem x h0 hx with h | h
        · rw [gd_set hkl, Bool.or_eq_true, decide_eq_true_eq] at h
          rcases h with h | h
          · right
            have : x = k := by omega
            subst this
            exact ih.old x (by simp)
          · exact Or.inl h
        · exact Or.inr h

/-- The program's search for what can be reached. -/
structure BInv (p : Plan) (f : Int) (out : List Bool) (q : List Int) : Prop where
  len : out.length = 2 * p.Rails.length
  qi : ∀ x ∈ q, (0 ≤ x ∧ x < 2 * p.Rails.length) ∧ (x = f ∨ Reach p f x)
  snd : ∀ k : Nat, gd out k = true → Reach p f k
  cls : ∀ x : Int, 0 ≤ x → (x = f ∨ gd out x.toNat = true) → x ∈ q ∨ ∀ y ∈ nxI p x, gd out y.toNat = true
  sz : q.length + unm out ≤ 2 * p.Rails.length + 1
theorem binv_init {p : Plan} {f : Int} (h0 : 0 ≤ f) (h1 : f < 2 * p.Rails.length) : BInv p f (List.replicate (2 * p.Rails.length) false) [f] := by
  have hg : ∀ k, gd (List.replicate (2 * p.Rails.length) false) k = false := by
    intro k
    unfold gd
    rw [List.getD_eq_getElem?_getD, List.getElem?_replicate]
    split <;> rfl
  refine ⟨by simp, fun x hx => ?_, fun k hk => ?_, fun x hx h => ?_, ?_⟩
  · simp only [List.mem_singleton] at hx; subst hx; exact ⟨⟨h0, h1⟩, Or.inl rfl⟩
  · rw [hg] at hk; cases hk
  · rcases h with rfl | h
    · simp
    · rw [hg] at h; cases h
  · unfold unm
    rw [List.countP_replicate]
    simp; omega
theorem binv_step {p : Plan} (hv : validB p = true) {f : Int} (h0 : 0 ≤ f) (h1 : f < 2 * p.Rails.length) {out : List Bool} {x : Int} {q : List Int} (h : BInv p f out (x :: q)) :
    BInv p f (bFold (out, q) (nxI p x)).1 (bFold (out, q) (nxI p x)).2 ∧ (bFold (out, q) (nxI p x)).2.length + unm (bFold (out, q) (nxI p x)).1 + 1 = (x :: q).length + unm out := by
  obtain ⟨⟨hx0, hx1⟩, hxr⟩ := h.qi x (by simp)
  have hb : ∀ y ∈ nxI p x, 0 ≤ y ∧ y < ((2 * p.Rails.length : Nat) : Int) := fun y hy => by have := nxI_bd hv hx0 hx1 hy; omega
  have hr : ∀ y ∈ nxI p x, Reach p f y := fun y hy => by
    rcases hxr with rfl | hxr
    · exact .one hy
    · exact .more hxr hy
  have F := bFold_ok (nxI p x) out q h.len hb
  generalize (bFold (out, q) (nxI p x)).1 = out' at *
  generalize (bFold (out, q) (nxI p x)).2 = q' at *
  have hs := F.sz
  refine ⟨⟨F.len, fun y hy => ?_, fun k hk => ?_, fun y hy0 hy => ?_, ?_⟩, ?_⟩
  · rcases F.new y hy with h2 | h2
    · exact h.qi y (by simp [h2])
    · have := hb y h2
      exact ⟨by omega, Or.inr (hr y h2)⟩
  · rcases F.only k hk with h2 | h2
    · exact h.snd k h2
    · exact hr _ h2
  · have key : y ∈ q' ∨ (y = f ∨ gd out y.toNat = true) := by
      rcases hy with rfl | hy
      · exact Or.inr (Or.inl rfl)
      · rcases F.mem y hy0 hy with h2 | h2
        · exact Or.inr (Or.inr h2)
        · exact Or.inl h2
    rcases key with h2 | h2
    · exact Or.inl h2
    · rcases h.cls y hy0 h2 with h3 | h3
      · rcases List.mem_cons.1 h3 with rfl | h3
        · exact Or.inr fun z hz => F.all z hz
        · exact Or.inl (F.old y h3)
      · exact Or.inr fun z hz => F.mono _ (h3 z hz)
  · have := h.sz; simp only [List.length_cons] at this; omega
  · simp only [List.length_cons]; omega
theorem binv_end {p : Plan} (hv : validB p = true) {f : Int} (h0 : 0 ≤ f) (h1 : f < 2 * p.Rails.length) {out : List Bool} (h : BInv p f out []) : out = reachL p f := by
  have hall : ∀ k : Int, Reach p f k → gd out k.toNat = true := by
    intro k hk
    induction hk with
    | one hk =>
      rcases h.cls f h0 (Or.inl rfl) with h2 | h2
      · cases h2
      · exact h2 _ hk
    | more hj hk ih =>
      have hb := reach_bd hv h0 h1 hj
      rcases h.cls _ hb.1 (Or.inr ih) with h2 | h2
      · cases h2
      · exact h2 _ hk
  apply List.ext_getElem?
  intro k
  by_cases hk : k < 2 * p.Rails.length
  · rw [reachL_get hk]
    have hg : out[k]? = some (gd out k) := getD_at (by rw [h.len]; exact hk)
    rw [hg]
    congr 1
    rw [Bool.eq_iff_iff, rB_iff]
    exact ⟨h.snd k, fun hr => by have := hall _ hr; simpa using this⟩
  · rw [List.getElem?_eq_none (by rw [h.len]; omega), List.getElem?_eq_none (by rw [reachL_len]; omega)]

/-- The document's search. -/
structure RInv (p : Plan) (f : Int) (out : List Bool) (q : List Int) : Prop where
  len : out.length = 2 * p.Rails.length
  qi : ∀ x ∈ q, Reach p f x
  snd : ∀ k : Nat, gd out k = true → Reach p f k
  fst : ∀ y ∈ nxI p f, gd out y.toNat = true ∨ y ∈ q
  cls : ∀ x : Int, 0 ≤ x → gd out x.toNat = true → ∀ y ∈ nxI p x, gd out y.toNat = true ∨ y ∈ q
  sz : q.length + 4 * unm out ≤ 8 * p.Rails.length + 4
theorem rinv_init {p : Plan} (hv : validB p = true) {f : Int} (h0 : 0 ≤ f) (h1 : f < 2 * p.Rails.length) : RInv p f (List.replicate (2 * p.Rails.length) false) (nxI p f) := by
  have hg : ∀ k, gd (List.replicate (2 * p.Rails.length) false) k = false := by
    intro k
    unfold gd
    rw [List.getD_eq_getElem?_getD, List.getElem?_replicate]
    split <;> rfl
  have hl := nextL_len p _ hv (mov_of h0 h1)
  rw [← nxI_len] at hl
  refine ⟨by simp, fun x hx => .one hx, fun k hk => ?_, fun y hy => Or.inr hy, fun x hx h => ?_, ?_⟩
  · rw [hg] at hk; cases hk
  · rw [hg] at h; cases h
  · unfold unm
    rw [List.countP_replicate]
    simp; omega
theorem rinv_skip {p : Plan} {f : Int} {out : List Bool} {x : Int} {q : List Int} (h : RInv p f out (x :: q)) (hx : gd out x.toNat = true) : RInv p f out q := by
  refine ⟨h.len, fun y hy => h.qi y (by simp [hy]), h.snd, fun y hy => ?_, fun z hz0 hz y hy => ?_, by have := h.sz; simp only [List.length_cons] at this; omega⟩
  · rcases h.fst y hy with h2 | h2
    · exact Or.inl h2
    · rcases List.mem_cons.1 h2 with rfl | h2
      · exact Or.inl hx
      · exact Or.inr h2
  · rcases h.cls z hz0 hz y hy with h2 | h2
    · exact Or.inl h2
    · rcases List.mem_cons.1 h2 with rfl | h2
      · exact Or.inl hx
      · exact Or.inr h2
theorem rinv_mark {p : Plan} (hv : validB p = true) {f : Int} (h0 : 0 ≤ f) (h1 : f < 2 * p.Rails.length) {out : List Bool} {x : Int} {q : List Int} (h : RInv p f out (x :: q)) (hx : gd out x.toNat = false) :
    RInv p f (out.set x.toNat true) (q ++ nxI p x) ∧ (q ++ nxI p x).length + 4 * unm (out.set x.toNat true) + 1 ≤ (x :: q).length + 4 * unm out := by
  have hxr := h.qi x (by simp)
  have hb := reach_bd hv h0 h1 hxr
  have hxl : x.toNat < out.length := by rw [h.len]; omega
  have hu := unm_set hxl hx
  have hl := nextL_len p _ hv (mov_of hb.1 hb.2)
  rw [← nxI_len] at hl
  have hstep : ∀ y, (gd out y.toNat = true ∨ y ∈ x :: q) → 0 ≤ y → gd (out.set x.toNat true) y.toNat = true ∨ y ∈ q ++ nxI p x := by
    intro y hy hy0
    rw [gd_set hxl]
    rcases hy with hy | hy
    · exact Or.inl (by rw [hy]; simp)
    · rcases List.mem_cons.1 hy with rfl | hy
      · exact Or.inl (by simp)
      · exact Or.inr (by simp [hy])
  refine ⟨⟨by simpa using h.len, fun y hy => ?_, fun k hk => ?_, fun y hy => hstep y (h.fst y hy) (nxI_bd hv h0 h1 hy).1, fun z hz0 hz y hy => ?_, ?_⟩, ?_⟩
  · rcases List.mem_append.1 hy with hy | hy
    · exact h.qi y (by simp [hy])
    · exact .more hxr hy
  · rw [gd_set hxl, Bool.or_eq_true, decide_eq_true_eq] at hk
    rcases hk with hk | hk
    · have : (k : Int) = x := by omega
      rw [this]; exact hxr
    · exact h.snd k hk
  · rw [gd_set hxl, Bool.or_eq_true, decide_eq_true_eq] at hz
    by_cases e : z = x
    · subst e; exact Or.inr (by simp [hy])
    · rcases hz with hz | hz
      · omega
      · have hzb := reach_bd hv h0 h1 (h.snd z.toNat hz)
        exact hstep y (h.cls z hz0 hz y hy) (nxI_bd hv hz0 (by omega) hy).1
  · have := h.sz; simp only [List.length_cons, List.length_append] at this ⊢; omega
  · simp only [List.length_cons, List.length_append]; omega
theorem rinv_end {p : Plan} (hv : validB p = true) {f : Int} (h0 : 0 ≤ f) (h1 : f < 2 * p.Rails.length) {out : List Bool} (h : RInv p f out []) : out = reachL p f := by
  have hall : ∀ k : Int, Reach p f k → gd out k.toNat = true := by
    intro k hk
    induction hk with
    | one hk => exact (h.fst _ hk).resolve_right (by simp)
    | more hj hk ih =>
      have hb := reach_bd hv h0 h1 hj
      exact (h.cls _ hb.1 ih _ hk).resolve_right (by simp)
  apply List.ext_getElem?
  intro k
  by_cases hk : k < 2 * p.Rails.length
  · rw [reachL_get hk]
    have hg : out[k]? = some (gd out k) := getD_at (by rw [h.len]; exact hk)
    rw [hg]
    congr 1
    rw [Bool.eq_iff_iff, rB_iff]
    exact ⟨h.snd k, fun hr => by have := hall _ hr; simpa using this⟩
  · rw [List.getElem?_eq_none (by rw [h.len]; omega), List.getElem?_eq_none (by rw [reachL_len]; omega)]

/-- Whether a move is endless. -/
noncomputable def endTo (p : Plan) (i : Int) (n : Nat) : Bool := rB p i i || (List.range n).any fun (j : Nat) => rB p i j && rB p j j
theorem endTo_succ (p : Plan) (i : Int) (n : Nat) : endTo p i (n + 1) = (endTo p i n || (rB p i n && rB p n n)) := by
  unfold endTo
  rw [List.range_succ, List.any_append]
  simp [Bool.or_assoc]
noncomputable def endL (p : Plan) : List Bool := (List.range (2 * p.Rails.length)).map fun (i : Nat) => endTo p i (2 * p.Rails.length)
end Go.Tram
