/- Plain law: the search finds the first one of the shortest tours. -/
import Derived.Test.YtmenlmioccciiaaK6
namespace Go.Street
open Go.AM Go.Proofs
set_option maxRecDepth 10000
set_option maxHeartbeats 4000000
set_option linter.unusedVariables false
set_option linter.unusedSimpArgs false

/-- The length so far. -/
def plTo (j : Jn) (t : List Int) : Nat → Int
  | 0 => 0
  | k + 1 => plTo j t k + (strm j (at0 t k)).Least + (if k = 0 then 0 else clr j (at0 t (k - 1 : Nat)) (at0 t k))
def plF (j : Jn) (t : List Int) : Int := plTo j t t.length
theorem at0_app {t r : List Int} {k : Nat} (h : k < t.length) : at0 (t ++ r) k = at0 t k := by
  unfold at0
  simp only [Int.toNat_natCast]
  rw [List.getElem?_append_left h]
theorem plTo_app (j : Jn) (t r : List Int) : ∀ k, k ≤ t.length → plTo j (t ++ r) k = plTo j t k
  | 0, _ => rfl
  | k + 1, h => by
    simp only [plTo]
    rw [plTo_app j t r k (by omega), at0_app (by omega)]
    by_cases h0 : k = 0
    · simp [h0]
    · rw [at0_app (k := k - 1) (by omega)]
theorem plF_snoc {j : Jn} {t : List Int} (h : 1 ≤ t.length) (x : Int) : plF j (t ++ [x]) = stepLen j t (plF j t) x := by
  unfold plF stepLen
  rw [List.length_append]
  simp only [List.length_singleton, plTo]
  rw [plTo_app j t [x] t.length (Nat.le_refl _), if_neg (by omega), at0_app (k := t.length - 1) (by omega)]
  have e1 : at0 (t ++ [x]) (t.length : Int) = x := by unfold at0; simp
  have e2 : lastI t = at0 t (t.length - 1 : Nat) := by unfold lastI; congr 1; omega
  rw [e1, e2]; omega
theorem plTo_len {j : Jn} {t : List Int} : ∀ k, k < t.length → plTo j t (k + 1) = lenTo j t k + (strm j (at0 t k)).Least
  | 0, _ => by simp [plTo, lenTo]
  | k + 1, h => by
    rw [plTo, plTo_len k (by omega)]
    simp only [lenTo, partI, nxtI]
    rw [if_neg (by omega), Nat.mod_eq_of_lt h, show k + 1 - 1 = k by omega]
    omega
theorem lenF_pl {j : Jn} {t : List Int} (h : 1 ≤ t.length) : lenF j t = plF j t + clr j (lastI t) (at0 t 0) := by
  obtain ⟨n, hn⟩ : ∃ n, t.length = n + 1 := ⟨t.length - 1, by omega⟩
  unfold lenF plF
  rw [hn, plTo_len n (by omega)]
  simp only [lenTo, partI, nxtI]
  have e2 : lastI t = at0 t n := by unfold lastI; rw [hn]; congr 1; omega
  rw [hn, Nat.mod_self, e2]
  simp only [Int.natCast_zero]
  omega

theorem toursF_pre {l : List Int} : ∀ (n : Nat) (b : List Int), b.Nodup → ∀ t ∈ toursF l n b, t.Nodup ∧ ∃ r, t = b ++ r
  | 0, b, hb, t, ht => by
    unfold toursF at ht
    split at ht
    · simp only [List.mem_singleton] at ht; subst ht; exact ⟨hb, [], by simp⟩
    · simp at ht
  | n + 1, b, hb, t, ht => by
    unfold toursF at ht
    split at ht
    · simp only [List.mem_singleton] at ht; subst ht; exact ⟨hb, [], by simp⟩
    · obtain ⟨x, hx, ht⟩ := List.mem_flatMap.1 ht
      split at ht
      · simp at ht
      · rename_i hxb
        obtain ⟨h1, r, h2⟩ := toursF_pre n (b ++ [x]) (by rw [List.nodup_append]; exact ⟨hb, by simp, fun a ha c hc => by simp at hc; subst hc; rintro rfl; exact hxb ha⟩) t ht
        exact ⟨h1, [x] ++ r, by rw [h2, List.append_assoc]⟩
theorem nodup_len : ∀ {t l : List Int}, t.Nodup → (∀ x ∈ t, x ∈ l) → t.length ≤ l.length
  | [], l, _, _ => Nat.zero_le _
  | x :: t, l, hn, hs => by
    rw [List.nodup_cons] at hn
    have hx := hs x (by simp)
    have := nodup_len (t := t) (l := l.erase x) hn.2 (fun y hy => (List.mem_erase_of_ne (by rintro rfl; exact hn.1 hy)).2 (hs y (by simp [hy])))
    rw [List.length_erase_of_mem hx] at this
    have := List.length_pos_of_mem hx
    simp only [List.length_cons]; omega
theorem toursF_ne {l : List Int} (hl : l.Nodup) : ∀ (n : Nat) (b : List Int), b.Nodup → (∀ x ∈ b, x ∈ l) → l.length ≤ b.length + n → toursF l n b ≠ []
  | 0, b, hb, hs, h => by
    have := nodup_len hb hs
    unfold toursF
    rw [if_pos (by omega)]; simp
  | n + 1, b, hb, hs, h => by
    unfold toursF
    split
    · simp
    · rename_i hne
      have hlt := nodup_len hb hs
      have hex : ∃ x ∈ l, x ∉ b := by
        by_cases hc : ∃ x ∈ l, x ∉ b
        · exact hc
        · exfalso
          have : ∀ x ∈ l, x ∈ b := fun x hx => by
            by_cases h : x ∈ b
            · exact h
            · exact absurd ⟨x, hx, h⟩ hc
          have := nodup_len hl this
          omega
      obtain ⟨x, hx, hxb⟩ := hex
      have := toursF_ne hl n (b ++ [x]) (by rw [List.nodup_append]; exact ⟨hb, by simp, fun a ha c hc => by simp at hc; subst hc; rintro rfl; exact hxb ha⟩) (fun y hy => by rcases List.mem_append.1 hy with h | h; exact hs y h; simp at h; subst h; exact hx) (by simp; omega)
      intro e
      obtain ⟨t, ht⟩ := List.exists_mem_of_ne_nil _ this
      have : t ∈ l.flatMap fun x => if x ∈ b then [] else toursF l n (b ++ [x]) := List.mem_flatMap.2 ⟨x, hx, by rw [if_neg hxb]; exact ht⟩
      rw [e] at this
      simp at this

section
variable {j : Jn} (ho : JOk j) {l : List Int} (hto : touredB j l = true)
include ho hto
theorem clr_nn {a b : Int} (ha : a ∈ l) (hb : b ∈ l) (hab : a ≠ b) : 0 ≤ clr j a b := by
  have := toured_conf ho hto ha hb hab
  simpa [conf] using this
theorem plTo_mono {t : List Int} (hn : t.Nodup) (hs : ∀ x ∈ t, x ∈ l) : ∀ k, k < t.length → plTo j t k ≤ plTo j t (k + 1) := by
  intro k hk
  have hbd := (toured_bd hto).2.2
  have ga := at0_nat hk
  have ha := hs _ (List.mem_of_getElem? ga)
  have hs1 := ho.strm _ (hbd _ ha).1 (hbd _ ha).2
  simp only [plTo]
  split
  · omega
  · have gb := at0_nat (l := t) (k := k - 1) (by omega)
    have hb := hs _ (List.mem_of_getElem? gb)
    have hne : at0 t (k - 1 : Nat) ≠ at0 t k := by
      intro e
      have := (List.getElem?_inj (l := t) (i := k - 1) (j := k) (by omega) hn).1 (by rw [gb, ga, e])
      omega
    have := clr_nn ho hto hb ha hne
    omega
theorem plTo_le {t : List Int} (hn : t.Nodup) (hs : ∀ x ∈ t, x ∈ l) (a : Nat) : ∀ d, a + d ≤ t.length → plTo j t a ≤ plTo j t (a + d)
  | 0, _ => Int.le_refl _
  | d + 1, h => Int.le_trans (plTo_le hn hs a d (by omega)) (plTo_mono ho hto hn hs (a + d) (by omega))
theorem tour_ge {b t : List Int} {n : Nat} (hb1 : 1 ≤ b.length) (hb : b.Nodup) (hs : ∀ x ∈ b, x ∈ l) (ht : t ∈ toursF l n b) : plF j b ≤ lenF j t := by
  have hbd := toured_bd hto
  obtain ⟨h1, r, h2⟩ := toursF_pre n b hb t ht
  obtain ⟨h3, h4⟩ := toursF_in n b hs t ht
  have h5 : t.length = b.length + r.length := by rw [h2, List.length_append]
  have e1 : plF j b = plTo j t b.length := by unfold plF; rw [h2, plTo_app j b r _ (Nat.le_refl _)]
  have e2 := plTo_le ho hto h1 h4 b.length r.length (by omega)
  rw [← h5] at e2
  rw [lenF_pl (by omega), e1]
  have gl : t[t.length - 1]? = some (lastI t) := by
    have := at0_nat (l := t) (k := t.length - 1) (by omega)
    have e : lastI t = at0 t (t.length - 1 : Nat) := by unfold lastI; congr 1; omega
    rw [e]; exact this
  have g0 : t[0]? = some (at0 t 0) := at0_nat (l := t) (k := 0) (by omega)
  have hne : lastI t ≠ at0 t 0 := by
    intro e
    have := (List.getElem?_inj (l := t) (i := t.length - 1) (j := 0) (by omega) h1).1 (by rw [gl, g0, e])
    omega
  have := clr_nn ho hto (h4 _ (List.mem_of_getElem? gl)) (h4 _ (List.mem_of_getElem? g0)) hne
  unfold plF
  omega

def updB (j : Jn) (s : Bs) (t : List Int) : Bs := if s.best.isNone || decide (lenF j t < s.least) then ⟨some t, lenF j t⟩ else s

omit ho hto in
theorem upd_none {s : Bs} {m : List (List Int)} (h1 : s.best.isSome = true) (h2 : ∀ t ∈ m, s.least ≤ lenF j t) : m.foldl (updB j) s = s := by
  induction m with
  | nil => rfl
  | cons t m ih =>
    rw [List.foldl_cons]
    have : updB j s t = s := by
      unfold updB
      rw [if_neg]
      have := h2 t (by simp)
      cases hb : s.best with
      | none => rw [hb] at h1; cases h1
      | some b => simp; omega
    rw [this]
    exact ih fun t ht => h2 t (by simp [ht])

theorem search_ex : ∀ (n m : Nat) (t : List Int) (s : Bs), 1 ≤ t.length → t.Nodup → (∀ x ∈ t, x ∈ l) → l.length < t.length + n → l.length ≤ t.length + m →
    orG s (plF j t) (srF j l n s t (plF j t)) = some ((toursF l m t).foldl (updB j) s)
  | 0, m, t, s, h1, h2, h3, h4, h5 => by have := nodup_len h2 h3; omega
  | n + 1, m, t, s, h1, h2, h3, h4, h5 => by
    have hle := nodup_len h2 h3
    unfold orG
    split
    · rename_i hh
      simp only [hopeB, Bool.and_eq_true, decide_eq_true_eq] at hh
      rw [upd_none hh.1 fun T hT => by have := tour_ge ho hto h1 h2 h3 hT; omega]
    · rename_i hh
      simp only [srF, if_neg hh]
      by_cases he : t.length = l.length
      · rw [if_pos he, toursF_full he]
        simp only [List.foldl_cons, List.foldl_nil, updB, lenF_pl h1]
      · rw [if_neg he]
        obtain ⟨m, rfl⟩ : ∃ q, m = q + 1 := ⟨m - 1, by omega⟩
        rw [toursF_more he]
        have gen : ∀ (q : List Int) (s : Bs), (∀ x ∈ q, x ∈ l) → lpF (fun s x => if x ∈ t then some s else orG s (stepLen j t (plF j t) x) (srF j l n s (t ++ [x]) (stepLen j t (plF j t) x))) q s = some ((q.flatMap fun x => if x ∈ t then [] else toursF l m (t ++ [x])).foldl (updB j) s) := by
          intro q
          induction q with
          | nil => intro s _; rfl
          | cons x q ih =>
            intro s hq
            simp only [lpF, List.flatMap_cons, List.foldl_append]
            by_cases hx : x ∈ t
            · simp only [hx, if_true, Option.bind_some, List.foldl_nil]
              exact ih s fun y hy => hq y (by simp [hy])
            · simp only [hx, if_false]
              have hrec := search_ex n m (t ++ [x]) s (by simp) (by rw [List.nodup_append]; exact ⟨h2, by simp, fun a ha c hc => by simp at hc; subst hc; rintro rfl; exact hx ha⟩) (fun y hy => by rcases List.mem_append.1 hy with h | h; exact h3 y h; simp at h; subst h; exact hq _ (by simp)) (by simp; omega) (by simp; omega)
              rw [plF_snoc h1] at hrec
              rw [hrec, Option.bind_some]
              exact ih _ fun y hy => hq y (by simp [hy])
        exact gen l s fun x hx => hx
omit ho hto in
theorem upd_best : ∀ (m : List (List Int)) (b : List Int), m.foldl (updB j) ⟨some b, lenF j b⟩ = ⟨some (m.foldl (betterF j) b), lenF j (m.foldl (betterF j) b)⟩
  | [], b => rfl
  | t :: m, b => by
    rw [List.foldl_cons, List.foldl_cons]
    have : updB j ⟨some b, lenF j b⟩ t = ⟨some (betterF j b t), lenF j (betterF j b t)⟩ := by
      unfold updB betterF
      by_cases h : lenF j t < lenF j b <;> simp [h]
    rw [this]
    exact upd_best m _

/-- The search's result. -/
theorem tour_best : orG ⟨none, 0⟩ (strm j (at0 l 0)).Least (srF j l 9 ⟨none, 0⟩ [at0 l 0] (strm j (at0 l 0)).Least) = some ⟨some (bestL j (toursF l 6 (l.take 1))), lenF j (bestL j (toursF l 6 (l.take 1)))⟩ ∨ 6 < l.length := by
  rcases Nat.lt_or_ge 6 l.length with h | h6
  · exact Or.inr h
  left
  have hbd := toured_bd hto
  have g0 : l[0]? = some (at0 l 0) := at0_nat (l := l) (k := 0) (by omega)
  have et : l.take 1 = [at0 l 0] := by cases l with
    | nil => simp at g0
    | cons x l => rfl
  have hin : ∀ x ∈ [at0 l 0], x ∈ l := by intro x hx; simp at hx; subst hx; exact List.mem_of_getElem? g0
  have hpl : plF j [at0 l 0] = (strm j (at0 l 0)).Least := by
    have e0 : at0 [at0 l 0] ((0 : Nat) : Int) = at0 l 0 := rfl
    simp only [plF, plTo, List.length_singleton, e0]
    simp
  have h := search_ex ho hto 9 6 [at0 l 0] ⟨none, 0⟩ (by simp) (by simp) hin (by simp; omega) (by simp; omega)
  rw [hpl] at h
  rw [h, et]
  have hne := toursF_ne (toured_nodup hto) 6 [at0 l 0] (by simp) hin (by simp; omega)
  cases hm : toursF l 6 [at0 l 0] with
  | nil => exact absurd hm hne
  | cons t m =>
    rw [List.foldl_cons]
    have : updB j ⟨none, 0⟩ t = ⟨some t, lenF j t⟩ := by simp [updB]
    rw [this, upd_best]
    rfl
end

theorem sorted_ris {j : Jn} {l : List Int} (h : touredB j l = true) : sortedB l = risB l j.n := by
  have hnd := toured_nodup h
  have hbd := (toured_bd h).2.2
  rw [Bool.eq_iff_iff]
  simp only [sortedB, risB, List.all_eq_true, List.mem_range, riseEl, fallsAt]
  constructor
  · intro k i hi
    have ga := at0_nat hi
    have := hbd _ (List.mem_of_getElem? ga)
    have hk := k i hi
    have hr : inr (at0 l i) 0 ((j.n : Int) - 1) = true := inr_iff.2 (by omega)
    rw [hr, Bool.true_and]
    by_cases h0 : 0 < i
    · have gb := at0_nat (l := l) (k := i - 1) (by omega)
      have hne : at0 l (i - 1 : Nat) ≠ at0 l i := by
        intro e
        have := (List.getElem?_inj (l := l) (i := i - 1) (j := i) (by omega) hnd).1 (by rw [gb, ga, e])
        omega
      simp [h0] at hk ⊢; omega
    · simp [h0]
  · intro k i hi
    have hk := k i hi
    simp only [Bool.and_eq_true] at hk
    by_cases h0 : 0 < i
    · have := hk.2; simp [h0] at this ⊢; omega
    · simp [h0]

def firstB (t : List Int) : Bool := (List.range t.length).all fun i => decide (i = 0) || decide (at0 t 0 < at0 t i)
theorem minOf_spec {l : List Int} (h : 1 ≤ l.length) : minOf l ∈ l ∧ ∀ x ∈ l, minOf l ≤ x := by
  have gen : ∀ (l : List Int) (m : Int), (l.foldl minI m = m ∨ l.foldl minI m ∈ l) ∧ l.foldl minI m ≤ m ∧ ∀ x ∈ l, l.foldl minI m ≤ x := by
    intro l
    induction l with
    | nil => intro m; exact ⟨Or.inl rfl, Int.le_refl _, by simp⟩
    | cons y l ih =>
      intro m
      rw [List.foldl_cons]
      obtain ⟨h1, h2, h3⟩ := ih (minI m y)
      have e : (minI m y = m ∨ minI m y = y) ∧ minI m y ≤ m ∧ minI m y ≤ y := by unfold minI; split <;> refine ⟨?_, ?_, ?_⟩ <;> first | exact Or.inl rfl | exact Or.inr rfl | omega
      refine ⟨?_, by omega, fun x hx => ?_⟩
      · rcases h1 with h | h
        · rcases e.1 with g | g
          · left; rw [h, g]
          · right; rw [h, g]; simp
        · right; exact List.mem_cons_of_mem _ h
      · rcases List.mem_cons.1 hx with rfl | hx
        · omega
        · exact h3 x hx
  cases l with
  | nil => simp at h
  | cons y l =>
    obtain ⟨h1, h2, h3⟩ := gen l y
    refine ⟨?_, fun x hx => ?_⟩
    · rcases h1 with h | h
      · show l.foldl minI y ∈ _; rw [h]; simp
      · exact List.mem_cons_of_mem _ h
    · rcases List.mem_cons.1 hx with rfl | hx
      · exact h2
      · exact h3 x hx
theorem first_min {j : Jn} {t : List Int} (h : touredB j t = true) : firstB t = decide (at0 t 0 = minOf t) := by
  have hbd := toured_bd h
  have hnd := toured_nodup h
  obtain ⟨m1, m2⟩ := minOf_spec (l := t) (by omega)
  have g0 : t[0]? = some (at0 t 0) := at0_nat (l := t) (k := 0) (by omega)
  rw [Bool.eq_iff_iff, decide_eq_true_iff]
  simp only [firstB, List.all_eq_true, List.mem_range, Bool.or_eq_true, decide_eq_true_eq]
  constructor
  · intro k
    obtain ⟨i, hi⟩ := List.getElem?_of_mem m1
    have := k i (List.getElem?_eq_some_iff.1 hi).1
    rw [at0_of hi] at this
    have h2 := m2 _ (List.mem_of_getElem? g0)
    rcases this with h | h
    · subst h; rw [g0] at hi; simpa using hi
    · omega
  · intro k i hi
    rcases Nat.eq_zero_or_pos i with h0 | h0
    · exact Or.inl h0
    · right
      have ga := at0_nat hi
      have h2 := m2 _ (List.mem_of_getElem? ga)
      have hne : at0 t 0 ≠ at0 t i := by
        intro e
        have := (List.getElem?_inj (l := t) (i := 0) (j := i) (by omega) hnd).1 (by rw [g0, ga, e])
        omega
      omega
end Go.Street
