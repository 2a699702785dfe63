/- Laws: what has been found, as a list; the search for distances, step by step. -/
import Derived.Test.YtdabjdajemiagaaD3
import Derived.Test.YtdabjdajemiagaaY4
namespace Go.Tram
open Go.AM Go.Proofs
set_option linter.unusedVariables false
set_option linter.unusedSimpArgs false

section
variable {α : Type} [Inhabited α] (lt : α → α → Bool)
theorem kidL_lt {l : List α} {i n : Nat} (h : 2 * i + 1 < n) : kidL lt l i n < n ∧ i < kidL lt l i n := by
  unfold kidL
  split <;> omega
theorem pushL_len (l : List α) (x : α) : (pushL lt l x).length = l.length + 1 := by unfold pushL; rw [upL_len]; simp
end
section
variable {α : Type} [Inhabited α] [DecidableEq α] (lt : α → α → Bool)
theorem swpG_perm {l : List α} {i j : Nat} (hi : i < l.length) (hj : j < l.length) : (swpG l i j).Perm l := by
  rw [List.perm_iff_count]
  intro b
  have ei : gd l i = l[i] := by unfold gd; rw [List.getD_eq_getElem?_getD, List.getElem?_eq_getElem hi]; rfl
  have ej : gd l j = l[j] := by unfold gd; rw [List.getD_eq_getElem?_getD, List.getElem?_eq_getElem hj]; rfl
  have ci : l[i] = b → 1 ≤ l.count b := fun h => List.count_pos_iff.2 (h ▸ List.getElem_mem hi)
  have cj : l[j] = b → 1 ≤ l.count b := fun h => List.count_pos_iff.2 (h ▸ List.getElem_mem hj)
  unfold swpG
  rw [List.count_set (by simpa using hj), List.count_set hi, ei, ej, List.getElem_set]
  simp only [beq_iff_eq]
  by_cases e : i = j
  · subst e
    simp only [if_true]
    split <;> rename_i h
    · have := ci h; omega
    · omega
  · simp only [if_neg e]
    split <;> rename_i h1 <;> split <;> rename_i h2 <;> (try have := ci h1) <;> (try have := cj h2) <;> (try have := cj h1) <;> (try have := ci h2) <;> omega
theorem upL_perm : ∀ (k : Nat) (l : List α) (j : Nat), j < l.length → (upL lt k l j).Perm l
  | 0, l, j, _ => List.Perm.refl _
  | k + 1, l, j, h => by
    simp only [upL]
    split
    · exact List.Perm.refl _
    · exact (upL_perm k _ _ (by rw [swpG_len]; omega)).trans (swpG_perm (by omega) h)
theorem downL_perm : ∀ (k : Nat) (l : List α) (i n : Nat), n ≤ l.length → i < l.length → (downL lt k l i n).Perm l
  | 0, l, i, n, _, _ => List.Perm.refl _
  | k + 1, l, i, n, hn, hi => by
    simp only [downL]
    split
    · exact List.Perm.refl _
    · rename_i h
      have hk := kidL_lt lt (l := l) (i := i) (n := n) (by omega)
      exact (downL_perm k _ _ n (by rw [swpG_len]; omega) (by rw [swpG_len]; omega)).trans (swpG_perm hi (by omega))
theorem pushL_perm (l : List α) (x : α) : (pushL lt l x).Perm (l ++ [x]) := upL_perm lt _ _ _ (by simp)
end

theorem popE_perm {l : List Fnd} {n : Nat} (h1 : 1 ≤ n) (hn : n ≤ l.length) : (popE l n).Perm l := by
  unfold popE
  exact (downL_perm ltF _ _ _ _ (by rw [swpG_len]; omega) (by rw [swpG_len]; omega)).trans (swpG_perm (by omega) (by omega))
/-- The one that is taken out, and what is left. -/
def popX (q : List Fnd) : Fnd := gd (popE q q.length) (q.length - 1)
def popQ (q : List Fnd) : List Fnd := (popE q q.length).take (q.length - 1)
theorem popQ_len {q : List Fnd} : (popQ q).length = q.length - 1 := by unfold popQ; rw [List.length_take, popE_len]; omega
theorem pop_perm {q : List Fnd} (h : q ≠ []) : (popQ q ++ [popX q]).Perm q := by
  have h1 : 1 ≤ q.length := List.length_pos_iff.2 h
  have hp := popE_perm h1 (Nat.le_refl q.length)
  have hl := popE_len q q.length
  have e : popQ q ++ [popX q] = popE q q.length := by
    unfold popQ popX
    have hg := getD_at (l := popE q q.length) (i := q.length - 1) (by omega)
    have := List.take_add_one (i := q.length - 1) (l := popE q q.length)
    rw [hg, show q.length - 1 + 1 = q.length by omega, List.take_of_length_le (by omega)] at this
    exact this.symm
  rw [e]; exact hp
theorem popX_mem {q : List Fnd} (h : q ≠ []) : popX q ∈ q := (pop_perm h).subset (by simp)
theorem popQ_mem {q : List Fnd} (h : q ≠ []) {f : Fnd} (hf : f ∈ popQ q) : f ∈ q := (pop_perm h).subset (by simp [hf])

structure DSt where
  ln : List Int
  mv : List Int
  q : List Fnd

def nxF (p : Plan) (x : Fnd) (k : Nat) : Fnd := ⟨k, x.Len + p.len (x.Move / 2), x.Mv + 1⟩
def pushTo (p : Plan) (x : Fnd) (q : List Fnd) (l : List Nat) : List Fnd := l.foldl (fun q k => pushL ltF q (nxF p x k)) q
def dStep (p : Plan) (s : DSt) : DSt :=
  if 0 ≤ gd s.ln (popX s.q).Move.toNat then ⟨s.ln, s.mv, popQ s.q⟩
  else ⟨s.ln.set (popX s.q).Move.toNat (popX s.q).Len, s.mv.set (popX s.q).Move.toNat (popX s.q).Mv, pushTo p (popX s.q) (popQ s.q) (befL p (popX s.q).Move)⟩
def dRun (p : Plan) : Nat → DSt → DSt
  | 0, s => s
  | k + 1, s => if s.q = [] then s else dRun p k (dStep p s)
def negs (l : List Int) : Nat := l.countP fun x => decide (x < 0)
def dMu (p : Plan) (s : DSt) : Nat := negs s.ln * (2 * p.Rails.length + 1) + s.q.length

structure DOk (p : Plan) (s : DSt) : Prop where
  ln : s.ln.length = 2 * p.Rails.length
  mv : s.mv.length = 2 * p.Rails.length
  ng : negs s.ln ≤ 2 * p.Rails.length
  q : ∀ f ∈ s.q, (0 ≤ f.Move ∧ f.Move < 2 * p.Rails.length) ∧ (0 ≤ f.Len ∧ f.Len ≤ (2 * p.Rails.length - negs s.ln : Nat) * 31000000) ∧ 0 ≤ f.Mv ∧ f.Mv ≤ (2 * p.Rails.length - negs s.ln : Nat)
  size : s.q.length + negs s.ln * (2 * p.Rails.length) ≤ 2 * p.Rails.length * (2 * p.Rails.length) + 1

theorem pushTo_len (p : Plan) (x : Fnd) : ∀ (l : List Nat) (q : List Fnd), (pushTo p x q l).length = q.length + l.length
  | [], q => rfl
  | k :: l, q => by
    have := pushTo_len p x l (pushL ltF q (nxF p x k))
    unfold pushTo at this ⊢
    rw [List.foldl_cons, this, pushL_len, List.length_cons]; omega
theorem pushTo_mem (p : Plan) (x : Fnd) : ∀ (l : List Nat) (q : List Fnd) (f : Fnd), f ∈ pushTo p x q l ↔ f ∈ q ∨ ∃ k ∈ l, f = nxF p x k
  | [], q, f => by simp [pushTo]
  | k :: l, q, f => by
    have := pushTo_mem p x l (pushL ltF q (nxF p x k)) f
    unfold pushTo at this ⊢
    rw [List.foldl_cons, this, (pushL_perm ltF q (nxF p x k)).mem_iff]
    simp only [List.mem_append, List.mem_cons, List.not_mem_nil, or_false]
    constructor
    · rintro ((h | h) | ⟨k', h1, h2⟩)
      · exact Or.inl h
      · exact Or.inr ⟨k, Or.inl rfl, h⟩
      · exact Or.inr ⟨k', Or.inr h1, h2⟩
    · rintro (h | ⟨k', rfl | h1, h2⟩)
      · exact Or.inl (Or.inl h)
      · exact Or.inl (Or.inr h2)
      · exact Or.inr ⟨k', h1, h2⟩

theorem negs_set {l : List Int} {i : Nat} {x : Int} (hi : i < l.length) (h : gd l i < 0) (hx : 0 ≤ x) : negs (l.set i x) + 1 = negs l := by
  have ei : gd l i = l[i] := by unfold gd; rw [List.getD_eq_getElem?_getD, List.getElem?_eq_getElem hi]; rfl
  rw [ei] at h
  have h1 : 1 ≤ negs l := List.countP_pos_iff.2 ⟨_, List.getElem_mem hi, by simpa using h⟩
  have h3 : ¬ x < 0 := by omega
  have h2 : negs (l.set i x) = negs l - 1 := by
    unfold negs
    rw [List.countP_set hi]
    simp [h, h3]
  omega
theorem bef_mem {p : Plan} {x : Int} {k : Nat} (h : k ∈ befL p x) : k < 2 * p.Rails.length ∧ befB p x k = true := by
  unfold befL befN at h
  rw [List.mem_filter, List.mem_range] at h
  exact h

theorem dStep_ok {p : Plan} (hv : validB p = true) {s : DSt} (h : DOk p s) (hq : s.q ≠ []) : DOk p (dStep p s) ∧ dMu p (dStep p s) < dMu p s := by
  have h1 : 1 ≤ s.q.length := List.length_pos_iff.2 hq
  have hx := h.q _ (popX_mem hq)
  obtain ⟨hx1, hx2, hx3⟩ := hx
  have hmem := fun f => popQ_mem hq (f := f)
  have hlen := popQ_len (q := s.q)
  have hng := h.ng
  have hsz := h.size
  unfold dStep
  generalize popX s.q = x at hx1 hx2 hx3 ⊢
  generalize popQ s.q = q' at hmem hlen ⊢
  split
  · refine ⟨⟨h.ln, h.mv, h.ng, fun f hf => h.q f (hmem f hf), by show q'.length + negs s.ln * (2 * p.Rails.length) ≤ 2 * p.Rails.length * (2 * p.Rails.length) + 1; omega⟩, by show negs s.ln * (2 * p.Rails.length + 1) + q'.length < negs s.ln * (2 * p.Rails.length + 1) + s.q.length; omega⟩
  · rename_i hneg
    have hm : x.Move.toNat < s.ln.length := by rw [h.ln]; omega
    have hn := negs_set hm (x := x.Len) (by omega) hx2.1
    have hl := len_bd hv (r := x.Move / 2) (by omega) (by omega)
    have hpl := pushTo_len p x (befL p x.Move) q'
    have hbl := befN_len p x.Move (2 * p.Rails.length)
    have hbl' : (befL p x.Move).length ≤ 2 * p.Rails.length := hbl
    have hnm : (negs (s.ln.set x.Move.toNat x.Len)) * (2 * p.Rails.length) + 2 * p.Rails.length = negs s.ln * (2 * p.Rails.length) := by rw [← hn, Nat.add_mul, Nat.one_mul]
    have hnm1 : (negs (s.ln.set x.Move.toNat x.Len)) * (2 * p.Rails.length + 1) + (2 * p.Rails.length + 1) = negs s.ln * (2 * p.Rails.length + 1) := by rw [← hn, Nat.add_mul, Nat.one_mul]
    refine ⟨⟨by simpa using h.ln, by simpa using h.mv, by show negs (s.ln.set x.Move.toNat x.Len) ≤ 2 * p.Rails.length; omega, fun f hf => ?_, by show (pushTo p x q' (befL p x.Move)).length + negs (s.ln.set x.Move.toNat x.Len) * (2 * p.Rails.length) ≤ 2 * p.Rails.length * (2 * p.Rails.length) + 1; rw [hpl]; omega⟩, ?_⟩
    · rcases (pushTo_mem p x _ _ f).1 hf with hf | ⟨k, hk, rfl⟩
      · have := h.q f (hmem f hf)
        show _ ∧ (_ ∧ f.Len ≤ (2 * p.Rails.length - negs (s.ln.set x.Move.toNat x.Len) : Nat) * 31000000) ∧ _ ∧ f.Mv ≤ (2 * p.Rails.length - negs (s.ln.set x.Move.toNat x.Len) : Nat)
        omega
      · have hkb := bef_mem hk
        show ((0 : Int) ≤ k ∧ (k : Int) < 2 * p.Rails.length) ∧ (0 ≤ x.Len + p.len (x.Move / 2) ∧ x.Len + p.len (x.Move / 2) ≤ (2 * p.Rails.length - negs (s.ln.set x.Move.toNat x.Len) : Nat) * 31000000) ∧ 0 ≤ x.Mv + 1 ∧ x.Mv + 1 ≤ (2 * p.Rails.length - negs (s.ln.set x.Move.toNat x.Len) : Nat)
        omega
    · show negs (s.ln.set x.Move.toNat x.Len) * (2 * p.Rails.length + 1) + (pushTo p x q' (befL p x.Move)).length < negs s.ln * (2 * p.Rails.length + 1) + s.q.length
      rw [hpl]
      omega
def dInit (p : Plan) (to : Int) : DSt := ⟨List.replicate (2 * p.Rails.length) (-1), List.replicate (2 * p.Rails.length) 0, [⟨to, 0, 0⟩]⟩
theorem negs_init (n : Nat) : negs (List.replicate n (-1)) = n := by unfold negs; rw [List.countP_replicate]; simp
theorem dInit_ok {p : Plan} {to : Int} (h0 : 0 ≤ to) (h1 : to < 2 * p.Rails.length) : DOk p (dInit p to) := by
  have hn := negs_init (2 * p.Rails.length)
  refine ⟨by simp [dInit], by simp [dInit], by show negs (List.replicate (2 * p.Rails.length) (-1)) ≤ 2 * p.Rails.length; omega, fun f hf => ?_, by show 1 + negs (List.replicate (2 * p.Rails.length) (-1)) * (2 * p.Rails.length) ≤ 2 * p.Rails.length * (2 * p.Rails.length) + 1; rw [hn]; omega⟩
  simp only [dInit, List.mem_singleton] at hf
  subst hf
  simp only [dInit, hn]
  omega
/-- The search's end. -/
def dEnd (p : Plan) (to : Int) : DSt := dRun p (dMu p (dInit p to)) (dInit p to)
theorem dRun_nil {p : Plan} {k : Nat} {s : DSt} (h : s.q = []) : dRun p k s = s := by cases k <;> simp [dRun, h]
end Go.Tram
