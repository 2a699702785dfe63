/- Laws: a heap's least element; the search finds the distances. -/
import Derived.Test.YtdabjdajemiagaaGreatD5
import Derived.Test.YtdabjdajemiagaaGreatP1
namespace Go.Tram
open Go.AM Go.Proofs
set_option linter.unusedVariables false
set_option linter.unusedSimpArgs false

section
variable {α : Type} [Inhabited α] (lt : α → α → Bool)
structure LOrd : Prop where
  tr : ∀ a b c, lt b a = false → lt c b = false → lt c a = false
  asy : ∀ a b, lt a b = true → lt b a = false
def HpB (l : List α) (n : Nat) : Prop := ∀ i, 0 < i → i < n → lt (gd l i) (gd l ((i - 1) / 2)) = false
variable {lt}
theorem gd_swp {l : List α} {i j k : Nat} (hi : i < l.length) (hj : j < l.length) : gd (swpG l i j) k = if k = j then gd l i else if k = i then gd l j else gd l k := by
  have e1 : gd (swpG l i j) k = ((swpG l i j)[k]?).getD default := by unfold gd; rw [List.getD_eq_getElem?_getD]
  have e2 : ∀ k, gd l k = (l[k]?).getD default := by intro k; unfold gd; rw [List.getD_eq_getElem?_getD]
  rw [e1]
  unfold swpG
  rw [List.getElem?_set, List.getElem?_set]
  by_cases h1 : k = j
  · subst h1; simp [hj]
  · rw [if_neg (fun h => h1 h.symm), if_neg h1]
    by_cases h2 : k = i
    · subst h2; simp [hi]
    · rw [if_neg (fun h => h2 h.symm), if_neg h2, e2 k]
theorem up_hp (O : LOrd lt) : ∀ (k : Nat) (l : List α) (j n : Nat), j < n → n ≤ l.length → j < k →
    (∀ i, 0 < i → i < n → i ≠ j → lt (gd l i) (gd l ((i - 1) / 2)) = false) →
    (∀ i, 0 < i → i < n → (i - 1) / 2 = j → 0 < j → lt (gd l i) (gd l ((j - 1) / 2)) = false) → HpB lt (upL lt k l j) n
  | 0, l, j, n, _, _, h, _, _ => absurd h (by omega)
  | k + 1, l, j, n, hj, hn, hk, h1, h2 => by
    simp only [upL]
    split
    · rename_i hc
      intro i hi hin
      by_cases e : i = j
      · subst e
        rcases hc with hc | hc
        · omega
        · exact hc
      · exact h1 i hi hin e
    · rename_i hc
      have hc1 : ¬ (j - 1) / 2 = j := fun h => hc (Or.inl h)
      have hc2 : lt (gd l j) (gd l ((j - 1) / 2)) = true := by cases h : lt (gd l j) (gd l ((j - 1) / 2)); exact absurd (Or.inr h) hc; rfl
      have hj0 : 0 < j := by omega
      have hsw := fun x => gd_swp (l := l) (i := (j - 1) / 2) (j := j) (k := x) (by omega) (by omega)
      have hlen := swpG_len l ((j - 1) / 2) j
      generalize swpG l ((j - 1) / 2) j = l' at hsw hlen ⊢
      have has := O.asy _ _ hc2
      refine up_hp O k l' ((j - 1) / 2) n (by omega) (by omega) (by omega) (fun i hi hin hne => ?_) (fun i hi hin hp h0 => ?_)
      · rw [hsw i, hsw ((i - 1) / 2)]
        by_cases e : i = j
        · subst e
          rw [if_pos rfl, if_neg (by omega), if_pos rfl]; exact has
        · rw [if_neg e, if_neg hne]
          by_cases e2 : (i - 1) / 2 = j
          · rw [if_pos e2]; exact h2 i hi hin e2 hj0
          · rw [if_neg e2]
            have := h1 i hi hin e
            by_cases e3 : (i - 1) / 2 = (j - 1) / 2
            · rw [if_pos e3]; rw [e3] at this; exact O.tr _ _ _ has this
            · rw [if_neg e3]; exact this
      · rw [hsw i, hsw (((j - 1) / 2 - 1) / 2), if_neg (show ¬ ((j - 1) / 2 - 1) / 2 = j by omega), if_neg (show ¬ ((j - 1) / 2 - 1) / 2 = (j - 1) / 2 by omega)]
        have hpp := h1 ((j - 1) / 2) h0 (by omega) (by omega)
        by_cases e : i = j
        · rw [if_pos e]; exact hpp
        · rw [if_neg e, if_neg (by omega)]
          have := h1 i hi hin e
          rw [hp] at this
          exact O.tr _ _ _ hpp this
theorem down_hp (O : LOrd lt) : ∀ (k : Nat) (l : List α) (i n : Nat), n ≤ l.length → n < i + k →
    (∀ m, 0 < m → m < n → (m - 1) / 2 ≠ i → lt (gd l m) (gd l ((m - 1) / 2)) = false) →
    (∀ m, 0 < m → m < n → (m - 1) / 2 = i → 0 < i → lt (gd l m) (gd l ((i - 1) / 2)) = false) →
    HpB lt (downL lt k l i n) n ∧ ∀ m, n ≤ m → gd (downL lt k l i n) m = gd l m
  | 0, l, i, n, hn, hk, h1, h2 => ⟨fun m h0 hm => h1 m h0 hm (by omega), fun m _ => rfl⟩
  | k + 1, l, i, n, hn, hk, h1, h2 => by
    simp only [downL]
    have hkid : ∀ m, 0 < m → m < n → (m - 1) / 2 = i → 2 * i + 1 < n → lt (gd l m) (gd l (kidL lt l i n)) = false := by
      intro m h0 hm hp hin
      have hrefl : ∀ a, lt a a = false := fun a => by cases h : lt a a; rfl; have := O.asy _ _ h; rw [h] at this; cases this
      unfold kidL
      split
      · rename_i hc
        by_cases e : m = 2 * i + 2
        · subst e; exact hrefl _
        · obtain rfl : m = 2 * i + 1 := by omega
          exact O.asy _ _ hc.2
      · rename_i hc
        by_cases e : m = 2 * i + 2
        · subst e
          cases h : lt (gd l (2 * i + 2)) (gd l (2 * i + 1))
          · rfl
          · exact absurd ⟨hm, h⟩ hc
        · obtain rfl : m = 2 * i + 1 := by omega
          exact hrefl _
    have hkl : 2 * i + 1 < n → kidL lt l i n < n ∧ i < kidL lt l i n ∧ (kidL lt l i n - 1) / 2 = i := by
      intro h
      unfold kidL
      split <;> omega
    generalize kidL lt l i n = c at hkid hkl ⊢
    split
    · rename_i hc
      refine ⟨fun m h0 hm => ?_, fun m _ => rfl⟩
      by_cases e : (m - 1) / 2 = i
      · rcases hc with hc | hc
        · omega
        · rw [e]; exact O.tr _ _ _ hc (hkid m h0 hm e (by omega))
      · exact h1 m h0 hm e
    · rename_i hc
      have hc1 : 2 * i + 1 < n := by by_cases h : n ≤ 2 * i + 1; exact absurd (Or.inl h) hc; omega
      have hc2 : lt (gd l c) (gd l i) = true := by cases h : lt (gd l c) (gd l i); exact absurd (Or.inr h) hc; rfl
      obtain ⟨k1, k2, k3⟩ := hkl hc1
      have hsw := fun x => gd_swp (l := l) (i := i) (j := c) (k := x) (by omega) (by omega)
      have hlen := swpG_len l i c
      generalize swpG l i c = l' at hsw hlen ⊢
      have has := O.asy _ _ hc2
      have ih := down_hp O k l' c n (by omega) (by omega) (fun m h0 hm hne => ?_) (fun m h0 hm hp hc0 => ?_)
      · exact ⟨ih.1, fun m hm => by rw [ih.2 m hm, hsw m, if_neg (by omega), if_neg (by omega)]⟩
      · rw [hsw m, hsw ((m - 1) / 2), if_neg hne]
        by_cases e : m = c
        · subst e; rw [if_pos rfl, k3, if_pos rfl]; exact has
        · rw [if_neg e]
          by_cases e2 : m = i
          · subst e2
            rw [if_pos rfl, if_neg (by omega)]
            exact h2 c (by omega) k1 k3 h0
          · rw [if_neg e2]
            by_cases e3 : (m - 1) / 2 = i
            · rw [if_pos e3]; exact hkid m h0 hm e3 hc1
            · rw [if_neg e3]; exact h1 m h0 hm e3
      · rw [hsw m, hsw ((c - 1) / 2), k3, if_neg (by omega), if_neg (by omega), if_neg (by omega), if_pos rfl]
        have := h1 m h0 hm (by omega)
        rw [hp] at this; exact this
theorem hp_min (O : LOrd lt) {l : List α} {n : Nat} (h : HpB lt l n) : ∀ i, i < n → lt (gd l i) (gd l 0) = false := by
  have hrefl : ∀ a, lt a a = false := fun a => by cases h : lt a a; rfl; have := O.asy _ _ h; rw [h] at this; cases this
  intro i
  induction i using Nat.strongRecOn with
  | _ i ih =>
    intro hi
    by_cases e : i = 0
    · subst e; exact hrefl _
    · exact O.tr _ _ _ (ih ((i - 1) / 2) (by omega) (by omega)) (h i (by omega) hi)
theorem gd_append {l : List α} {x : α} {i : Nat} (h : i < l.length) : gd (l ++ [x]) i = gd l i := by
  unfold gd; rw [List.getD_eq_getElem?_getD, List.getD_eq_getElem?_getD, List.getElem?_append_left h]
theorem gd_takeL {l : List α} {n i : Nat} (h : i < n) : gd (l.take n) i = gd l i := by
  unfold gd; rw [List.getD_eq_getElem?_getD, List.getD_eq_getElem?_getD, List.getElem?_take, if_pos h]
theorem push_hp (O : LOrd lt) {l : List α} (x : α) (h : HpB lt l l.length) : HpB lt (pushL lt l x) (pushL lt l x).length := by
  rw [pushL_len]
  unfold pushL
  refine up_hp O _ _ _ _ (by omega) (by simp) (by omega) (fun i h0 hi hne => ?_) (fun i h0 hi hp => ?_)
  · rw [gd_append (by omega), gd_append (by omega)]; exact h i h0 (by omega)
  · omega
end

theorem ordF : LOrd ltF := by
  refine ⟨fun a b c h1 h2 => ?_, fun a b h => ?_⟩
  · simp only [ltF, Bool.or_eq_false_iff, Bool.and_eq_false_iff, decide_eq_false_iff_not] at h1 h2 ⊢; omega
  · simp only [ltF, Bool.or_eq_false_iff, Bool.or_eq_true, Bool.and_eq_true, Bool.and_eq_false_iff, decide_eq_false_iff_not, decide_eq_true_eq] at h ⊢; omega
theorem ltF_false {a b : Fnd} : ltF a b = false ↔ b.Len < a.Len ∨ (b.Len = a.Len ∧ b.Mv ≤ a.Mv) := by
  simp only [ltF, Bool.or_eq_false_iff, Bool.and_eq_false_iff, decide_eq_false_iff_not]; omega

theorem pop_hp {q : List Fnd} (h : HpB ltF q q.length) (hq : q ≠ []) : HpB ltF (popQ q) (popQ q).length ∧ popX q = gd q 0 := by
  have h1 : 1 ≤ q.length := List.length_pos_iff.2 hq
  have hsw := fun x => gd_swp (l := q) (i := 0) (j := q.length - 1) (k := x) (by omega) (by omega)
  have hl := swpG_len q 0 (q.length - 1)
  have hd := down_hp ordF q.length (swpG q 0 (q.length - 1)) 0 (q.length - 1) (by omega) (by omega) (fun m h0 hm hne => ?_) (fun m h0 hm hp h00 => absurd h00 (by omega))
  · constructor
    · rw [popQ_len]
      intro i h0 hi
      unfold popQ
      rw [gd_takeL hi, gd_takeL (by omega)]
      exact hd.1 i h0 hi
    · show gd (downL ltF q.length (swpG q 0 (q.length - 1)) 0 (q.length - 1)) (q.length - 1) = gd q 0
      rw [hd.2 _ (Nat.le_refl _), hsw, if_pos rfl]
  · rw [hsw m, hsw ((m - 1) / 2), if_neg (by omega), if_neg (by omega), if_neg (by omega), if_neg (by omega)]
    exact h m h0 (by omega)
theorem popX_min {q : List Fnd} (h : HpB ltF q q.length) (hq : q ≠ []) {f : Fnd} (hf : f ∈ q) : ltF f (popX q) = false := by
  rw [(pop_hp h hq).2]
  obtain ⟨i, hi⟩ := List.getElem?_of_mem hf
  have hl := (List.getElem?_eq_some_iff.1 hi).1
  have : f = gd q i := by have := getD_at hl; rw [hi] at this; exact Option.some.inj this
  rw [this]
  exact hp_min ordF h i hl
theorem pop_cases {q : List Fnd} (hq : q ≠ []) {f : Fnd} (hf : f ∈ q) : f = popX q ∨ f ∈ popQ q := by
  have := (pop_perm hq).symm.subset hf
  simp only [List.mem_append, List.mem_singleton] at this
  exact this.symm
theorem pushTo_hp (p : Plan) (x : Fnd) : ∀ (l : List Nat) (q : List Fnd), HpB ltF q q.length → HpB ltF (pushTo p x q l) (pushTo p x q l).length
  | [], q, h => h
  | k :: l, q, h => by
    have := pushTo_hp p x l (pushL ltF q (nxF p x k)) (push_hp ordF _ h)
    unfold pushTo at this ⊢
    rw [List.foldl_cons]; exact this

/-- A way to a move, by numbers: its length and how many moves, without the first one. -/
inductive Pth (p : Plan) (to : Int) : Int → Int → Int → Prop where
  | nil : Pth p to to 0 0
  | cons {k j L n : Int} (h0 : 0 ≤ k) (h1 : k < 2 * p.Rails.length) (hf : follB p (moveM k) (moveM j) = true) (h : Pth p to j L n) : Pth p to k (L + p.len (j / 2)) (n + 1)
theorem Pth.bd {p : Plan} {to k L n : Int} (hv : validB p = true) (h0 : 0 ≤ to) (h1 : to < 2 * p.Rails.length) (h : Pth p to k L n) : (0 ≤ k ∧ k < 2 * p.Rails.length) ∧ 0 ≤ L ∧ 0 ≤ n := by
  induction h with
  | nil => omega
  | cons g0 g1 hf h ih =>
    have := len_bd hv (r := _ / 2) (show 0 ≤ _ / 2 from Int.ediv_nonneg ih.1.1 (by omega)) (by omega)
    omega

structure DInv (p : Plan) (to : Int) (s : DSt) : Prop where
  hp : HpB ltF s.q s.q.length
  qp : ∀ f ∈ s.q, Pth p to f.Move f.Len f.Mv
  neg : ∀ k : Nat, k < 2 * p.Rails.length → gd s.ln k = -1 ∨ 0 ≤ gd s.ln k
  sp : ∀ k : Nat, k < 2 * p.Rails.length → 0 ≤ gd s.ln k → Pth p to k (gd s.ln k) (gd s.mv k)
  mn : ∀ k : Nat, k < 2 * p.Rails.length → 0 ≤ gd s.ln k → ∀ f ∈ s.q, gd s.ln k < f.Len ∨ (gd s.ln k = f.Len ∧ gd s.mv k ≤ f.Mv)
  cl : ∀ k : Nat, k < 2 * p.Rails.length → 0 ≤ gd s.ln k → ∀ j : Nat, j < 2 * p.Rails.length → follB p (moveM j) (moveM k) = true →
    (0 ≤ gd s.ln j ∧ (gd s.ln j < gd s.ln k + p.len (k / 2) ∨ (gd s.ln j = gd s.ln k + p.len (k / 2) ∧ gd s.mv j ≤ gd s.mv k + 1))) ∨
    ∃ f ∈ s.q, f.Move = j ∧ (f.Len < gd s.ln k + p.len (k / 2) ∨ (f.Len = gd s.ln k + p.len (k / 2) ∧ f.Mv ≤ gd s.mv k + 1))
  to : (0 ≤ gd s.ln to.toNat ∧ gd s.ln to.toNat ≤ 0 ∧ gd s.mv to.toNat ≤ 0) ∨ (⟨to, 0, 0⟩ : Fnd) ∈ s.q

theorem gd_setI {l : List Int} {i k : Nat} {x : Int} (hi : i < l.length) : gd (l.set i x) k = if k = i then x else gd l k := by
  unfold gd
  rw [List.getD_eq_getElem?_getD, List.getD_eq_getElem?_getD, List.getElem?_set]
  by_cases e : i = k
  · subst e; simp [hi]
  · rw [if_neg e, if_neg (fun h => e h.symm)]

theorem gd_rep {n k : Nat} {x : Int} (h : k < n) : gd (List.replicate n x) k = x := by
  unfold gd; rw [List.getD_eq_getElem?_getD, List.getElem?_replicate, if_pos h]; rfl
theorem dinv_init {p : Plan} {to : Int} (h0 : 0 ≤ to) (h1 : to < 2 * p.Rails.length) : DInv p to (dInit p to) := by
  have hg : ∀ k : Nat, k < 2 * p.Rails.length → gd (dInit p to).ln k = -1 := fun k hk => gd_rep hk
  refine ⟨fun i h0 hi => ?_, fun f hf => ?_, fun k hk => Or.inl (hg k hk), fun k hk h => ?_, fun k hk h => ?_, fun k hk h => ?_, Or.inr (by simp [dInit])⟩
  · simp only [dInit, List.length_singleton] at hi; omega
  · simp only [dInit, List.mem_singleton] at hf; subst hf; exact .nil
  · rw [hg k hk] at h; omega
  · rw [hg k hk] at h; omega
  · rw [hg k hk] at h; omega

theorem dinv_step {p : Plan} {to : Int} (hv : validB p = true) (h0 : 0 ≤ to) (h1 : to < 2 * p.Rails.length) {s : DSt} (ok : DOk p s) (h : DInv p to s) (hq : s.q ≠ []) : DInv p to (dStep p s) := by
  have hx := popX_mem hq
  have hxp := h.qp _ hx
  obtain ⟨⟨hx0, hx1⟩, hxl, hxm⟩ := hxp.bd hv h0 h1
  have hmin := fun f hf => ltF_false.1 (popX_min h.hp hq (f := f) hf)
  have hcs := fun f hf => pop_cases hq (f := f) hf
  have hqm := fun f hf => popQ_mem hq (f := f) hf
  have hhp := (pop_hp h.hp hq).1
  have hto := h.to
  unfold dStep
  generalize popX s.q = x at *
  generalize popQ s.q = q' at *
  obtain ⟨i, hi⟩ : ∃ i : Nat, x.Move = i := ⟨x.Move.toNat, by omega⟩
  have hit : x.Move.toNat = i := by omega
  rw [hit]
  by_cases hs : 0 ≤ gd s.ln i
  · rw [if_pos hs]
    have hmx := h.mn i (by omega) hs x hx
    refine ⟨hhp, fun f hf => h.qp f (hqm f hf), h.neg, h.sp, fun k hk hk0 f hf => h.mn k hk hk0 f (hqm f hf), fun k hk hk0 j hj hf => ?_, ?_⟩
    · rcases h.cl k hk hk0 j hj hf with g | ⟨f, hf1, hf2, hf3⟩
      · exact Or.inl g
      · rcases hcs f hf1 with rfl | hf1
        · left
          obtain rfl : i = j := by omega
          exact ⟨hs, by dsimp only; omega⟩
        · exact Or.inr ⟨f, hf1, hf2, hf3⟩
    · rcases hto with g | g
      · exact Or.inl g
      · rcases hcs _ g with e | g
        · left
          rw [← e] at hi hmx
          simp only at hi hmx
          rw [show to.toNat = i by omega]
          dsimp only
          omega
        · exact Or.inr g
  · rw [if_neg hs]
    have hil : i < s.ln.length := by rw [ok.ln]; omega
    have him : i < s.mv.length := by rw [ok.mv]; omega
    have hgl := fun k => gd_setI (l := s.ln) (i := i) (k := k) (x := x.Len) hil
    have hgm := fun k => gd_setI (l := s.mv) (i := i) (k := k) (x := x.Mv) him
    have hnew : ∀ f, f ∈ pushTo p x q' (befL p x.Move) ↔ f ∈ q' ∨ ∃ k ∈ befL p x.Move, f = nxF p x k := pushTo_mem p x _ q'
    have hnhp := pushTo_hp p x (befL p x.Move) q' hhp
    generalize s.ln.set i x.Len = ln at hgl ⊢
    generalize s.mv.set i x.Mv = mv at hgm ⊢
    have hlx := len_bd hv (r := x.Move / 2) (by omega) (by omega)
    have hbef : ∀ k, k ∈ befL p x.Move → k < 2 * p.Rails.length ∧ follB p (moveM k) (moveM x.Move) = true := fun k hk => bef_mem hk
    have hbef2 : ∀ j : Nat, j < 2 * p.Rails.length → follB p (moveM j) (moveM x.Move) = true → j ∈ befL p x.Move := by
      intro j hj hf
      unfold befL befN
      rw [List.mem_filter]
      exact ⟨List.mem_range.2 hj, hf⟩
    refine ⟨hnhp, fun f hf => ?_, fun k hk => ?_, fun k hk hk0 => ?_, fun k hk hk0 f hf => ?_, fun k hk hk0 j hj hf => ?_, ?_⟩
    · rcases (hnew f).1 hf with hf | ⟨k, hk, rfl⟩
      · exact h.qp f (hqm f hf)
      · have := hbef k hk
        exact .cons (show (0 : Int) ≤ (k : Nat) by omega) (show ((k : Nat) : Int) < 2 * p.Rails.length by omega) this.2 hxp
    · simp only at hk ⊢
      rw [hgl]
      split
      · right; omega
      · exact h.neg k hk
    · simp only at hk0 ⊢
      rw [hgl] at hk0
      rw [hgl, hgm]
      split
      · rename_i e
        rw [e, ← hi]; exact hxp
      · rename_i e
        rw [if_neg e] at hk0
        exact h.sp k hk hk0
    · simp only at hk0 hf ⊢
      rw [hgl] at hk0
      rw [hgl, hgm]
      have hxf : x.Len < f.Len ∨ (x.Len = f.Len ∧ x.Mv ≤ f.Mv) := by
        rcases (hnew f).1 hf with hf | ⟨k, hk, rfl⟩
        · exact hmin f (hqm f hf)
        · simp only [nxF]; omega
      split
      · exact hxf
      · rename_i e
        rw [if_neg e] at hk0
        have := h.mn k hk hk0 x hx
        omega
    · simp only at hk0 hf ⊢
      rw [hgl] at hk0
      rw [hgl k, hgm k, hgl j, hgm j]
      by_cases e : k = i
      · right
        subst e
        rw [if_pos rfl, if_pos rfl]
        rw [← hi] at hf
        refine ⟨nxF p x j, (hnew _).2 (Or.inr ⟨j, hbef2 j hj hf, rfl⟩), rfl, ?_⟩
        simp only [nxF]
        rw [← hi]
        omega
      · rw [if_neg e] at hk0
        rw [if_neg e, if_neg e]
        rcases h.cl k hk hk0 j hj hf with g | ⟨f, hf1, hf2, hf3⟩
        · left
          by_cases e2 : j = i
          · subst e2; exact absurd g.1 hs
          · rw [if_neg e2, if_neg e2]; exact g
        · by_cases e2 : j = i
          · left
            subst e2
            rw [if_pos rfl, if_pos rfl]
            have := hmin f hf1
            omega
          · right
            rcases hcs f hf1 with rfl | hf1
            · omega
            · exact ⟨f, (hnew f).2 (Or.inl hf1), hf2, hf3⟩
    · simp only
      rw [hgl, hgm]
      rcases hto with g | g
      · left
        rw [if_neg (by rintro e; rw [e] at g; exact hs g.1), if_neg (by rintro e; rw [e] at g; exact hs g.1)]; exact g
      · rcases hcs _ g with e | g
        · left
          rw [← e] at hi ⊢
          simp only at hi ⊢
          rw [if_pos (by omega), if_pos (by omega)]
          omega
        · exact Or.inr ((hnew _).2 (Or.inl g))

theorem dRun_end {p : Plan} {to : Int} (hv : validB p = true) (h0 : 0 ≤ to) (h1 : to < 2 * p.Rails.length) : ∀ (k : Nat) (s : DSt), DOk p s → DInv p to s → dMu p s ≤ k → DOk p (dRun p k s) ∧ DInv p to (dRun p k s) ∧ (dRun p k s).q = []
  | 0, s, ok, h, hk => ⟨ok, h, by
      have : s.q.length = 0 := by unfold dMu at hk; omega
      exact List.eq_nil_of_length_eq_zero this⟩
  | k + 1, s, ok, h, hk => by
    simp only [dRun]
    by_cases hq : s.q = []
    · rw [if_pos hq]; exact ⟨ok, h, hq⟩
    · rw [if_neg hq]
      have hs := dStep_ok hv ok hq
      exact dRun_end hv h0 h1 k _ hs.1 (dinv_step hv h0 h1 ok h hq) (by omega)

/-- What the search finds: for each move the least length and, among the ways of that length, the fewest moves. -/
structure DEnd (p : Plan) (to : Int) (ln mv : List Int) : Prop where
  ll : ln.length = 2 * p.Rails.length
  lm : mv.length = 2 * p.Rails.length
  neg : ∀ k : Nat, k < 2 * p.Rails.length → gd ln k = -1 ∨ 0 ≤ gd ln k
  sp : ∀ k : Nat, k < 2 * p.Rails.length → 0 ≤ gd ln k → Pth p to k (gd ln k) (gd mv k)
  mn : ∀ k L n : Int, Pth p to k L n → 0 ≤ gd ln k.toNat ∧ (gd ln k.toNat < L ∨ (gd ln k.toNat = L ∧ gd mv k.toNat ≤ n))
theorem dEnd_ok {p : Plan} {to : Int} (hv : validB p = true) (h0 : 0 ≤ to) (h1 : to < 2 * p.Rails.length) : DEnd p to (dEnd p to).ln (dEnd p to).mv := by
  obtain ⟨ok, h, hq⟩ := dRun_end hv h0 h1 (dMu p (dInit p to)) (dInit p to) (dInit_ok h0 h1) (dinv_init h0 h1) (Nat.le_refl _)
  refine ⟨ok.ln, ok.mv, h.neg, h.sp, fun k L n hp => ?_⟩
  show 0 ≤ gd (dRun p (dMu p (dInit p to)) (dInit p to)).ln k.toNat ∧ (gd (dRun p (dMu p (dInit p to)) (dInit p to)).ln k.toNat < L ∨ (gd (dRun p (dMu p (dInit p to)) (dInit p to)).ln k.toNat = L ∧ gd (dRun p (dMu p (dInit p to)) (dInit p to)).mv k.toNat ≤ n))
  generalize dRun p (dMu p (dInit p to)) (dInit p to) = s at ok h hq
  induction hp with
  | nil =>
    rcases h.to with g | g
    · omega
    · rw [hq] at g; cases g
  | @cons k j L n g0 g1 hf hp ih =>
    have hb := hp.bd hv h0 h1
    have := h.cl j.toNat (by omega) ih.1 k.toNat (by omega) (by rw [show ((k.toNat : Nat) : Int) = k by omega, show ((j.toNat : Nat) : Int) = j by omega]; exact hf)
    rw [show ((j.toNat : Nat) : Int) = j by omega] at this
    rcases this with g | ⟨f, g, _⟩
    · omega
    · rw [hq] at g; cases g
theorem DEnd.uniq {p : Plan} {to : Int} {l : List Int} (hv : validB p = true) (h0 : 0 ≤ to) (h1 : to < 2 * p.Rails.length) {ln mv : List Int} (h : DEnd p to ln mv) (hl : l.length = 2 * p.Rails.length)
    (hn : ∀ k : Nat, k < 2 * p.Rails.length → gd l k = -1 ∨ ∃ n, Pth p to k (gd l k) n) (hm : ∀ k L n : Int, Pth p to k L n → 0 ≤ gd l k.toNat ∧ gd l k.toNat ≤ L) : l = ln := by
  apply List.ext_getElem?
  intro k
  by_cases hk : k < 2 * p.Rails.length
  · rw [getD_at (l := l) (by omega), getD_at (l := ln) (by rw [h.ll]; exact hk)]
    congr 1
    rcases h.neg k hk with g | g
    · rcases hn k hk with e | ⟨n, e⟩
      · rw [g, e]
      · have := h.mn _ _ _ e
        rw [show ((k : Int).toNat) = k by omega] at this
        omega
    · have hp := h.sp k hk g
      have h2 := hm _ _ _ hp
      rw [show ((k : Int).toNat) = k by omega] at h2
      rcases hn k hk with e | ⟨n, e⟩
      · omega
      · have := h.mn _ _ _ e
        rw [show ((k : Int).toNat) = k by omega] at this
        omega
  · rw [List.getElem?_eq_none (by omega), List.getElem?_eq_none (by rw [h.ll]; omega)]
end Go.Tram
