/- Plain law: what a signal keeps, second by second. No condition. -/
import Derived.Test.YtmenlmioccciiaaZB
namespace Go.Street
open Go.AM
set_option maxRecDepth 10000
set_option maxHeartbeats 4000000
set_option linter.unusedVariables false
set_option linter.unusedSimpArgs false

theorem ltAt_set {ls : List Lt} {x y : Int} {v : Lt} (x0 : 0 ≤ x) (x1 : x < ls.length) (y0 : 0 ≤ y) : ltAt (ls.set x.toNat v) y = if y = x then v else ltAt ls y := by
  unfold ltAt
  rw [List.getElem?_set]
  by_cases h : y = x
  · subst h
    rw [if_pos rfl, if_pos (by omega), if_pos rfl]; rfl
  · rw [if_neg h, if_neg (by omega)]

theorem conf_symm {j : Jn} (ho : JOk j) {a b : Int} (a0 : 0 ≤ a) (a1 : a < j.n) (b0 : 0 ≤ b) (b1 : b < j.n) : conf j a b = conf j b a := by
  have h1 := ho.cl a b a0 a1 b0 b1
  have h2 := ho.cl b a b0 b1 a0 a1
  have h3 := h1.2.2.2
  unfold conf
  rw [decide_eq_decide]
  by_cases h : clr j a b = -1
  · have := h3.1 h; omega
  · have : ¬ clr j b a = -1 := fun k => h (h3.2 k)
    omega
theorem phase_free {j : Jn} (ho : JOk j) {i : Int} (h0 : 0 ≤ i) (h1 : i < j.Phases.length) : ∀ a ∈ rowAt j.Phases i, ∀ b ∈ rowAt j.Phases i, conf j a b = false := by
  have hp := ho.ph i.toNat (by omega)
  rw [Int.toNat_of_nonneg h0] at hp
  have hb := (ho.phase h0 h1).2.2.1
  simp only [phB, Bool.and_eq_true, List.all_eq_true, List.mem_range] at hp
  have key : ∀ ka kb : Nat, ka < kb → ∀ a b, (rowAt j.Phases i)[ka]? = some a → (rowAt j.Phases i)[kb]? = some b → conf j a b = false := by
    intro ka kb hlt a b ha hb'
    have h := hp.1.1 kb (List.getElem?_eq_some_iff.1 hb').1
    simp only [elB, Bool.and_eq_true, Bool.not_eq_true', List.any_eq_false] at h
    have := h.2 a (List.mem_of_getElem? (i := ka) (by rw [List.getElem?_take, if_pos hlt]; exact ha))
    rw [at0_of hb'] at this
    simpa using this
  intro a ha b hb'
  obtain ⟨ka, hka⟩ := List.getElem?_of_mem ha
  obtain ⟨kb, hkb⟩ := List.getElem?_of_mem hb'
  have hA := hb a ha; have hB := hb b hb'
  rcases Nat.lt_trichotomy ka kb with h | h | h
  · exact key ka kb h a b hka hkb
  · subst h
    rw [hka] at hkb
    simp only [Option.some.injEq] at hkb
    subst hkb
    have := (ho.cl a a hA.1 hA.2 hA.1 hA.2).2.2.1 rfl
    unfold conf; rw [this]; rfl
  · rw [conf_symm ho hA.1 hA.2 hB.1 hB.2]; exact key kb ka h b a hkb hka

theorem clear_iff {j : Jn} {se : Int} {ls : List Lt} {x : Int} : clearB j se ls x = true ↔ ∀ a : Nat, a < ls.length → conf j a x = true → (ltAt ls a).Green = false ∧ clr j a x ≤ se - (ltAt ls a).Since := by
  unfold clearB hinders
  simp only [Bool.not_eq_true', List.any_eq_false, List.mem_range, Bool.and_eq_true, Bool.or_eq_true, decide_eq_true_eq]
  constructor
  · intro h a ha hc
    have := h a ha
    simp only [hc, true_and, not_or] at this
    exact ⟨by simpa using this.1, by omega⟩
  · rintro h a ha ⟨hc, hg⟩
    have := h a ha hc
    rcases hg with hg | hg
    · rw [this.1] at hg; cases hg
    · omega
theorem clear_congr {j : Jn} {se x : Int} {ls ls' : List Lt} (hl : ls'.length = ls.length) (h : ∀ a : Nat, a < ls.length → conf j a x = true → ltAt ls' a = ltAt ls a) : clearB j se ls' x = clearB j se ls x := by
  rw [Bool.eq_iff_iff, clear_iff, clear_iff, hl]
  constructor
  · intro k a ha hc; rw [← h a ha hc]; exact k a ha hc
  · intro k a ha hc; rw [h a ha hc]; exact k a ha hc

theorem redF_at {j : Jn} {se q : Int} : ∀ (l : List Int) (ls : List Lt), (∀ x ∈ l, 0 ≤ x ∧ x < ls.length) → ∀ y, 0 ≤ y →
    ltAt (redF j se q l ls) y = if y ∈ l ∧ (ltAt ls y).Green = true ∧ hasB j q y = false then ⟨false, se⟩ else ltAt ls y
  | [], ls, _, y, _ => by simp [redF]
  | x :: l, ls, hl, y, y0 => by
    have hx := hl x (by simp)
    have hlen : (redStep j se q ls x).length = ls.length := by unfold redStep; split <;> simp
    have ih := redF_at (j := j) (se := se) (q := q) l (redStep j se q ls x) (fun z hz => by rw [hlen]; exact hl z (by simp [hz])) y y0
    have hst : ltAt (redStep j se q ls x) y = if y = x ∧ (ltAt ls y).Green = true ∧ hasB j q y = false then ⟨false, se⟩ else ltAt ls y := by
      unfold redStep
      split
      · rename_i h
        simp only [Bool.and_eq_true, Bool.not_eq_true'] at h
        rw [ltAt_set hx.1 hx.2 y0]
        by_cases e : y = x
        · subst e; rw [if_pos rfl, if_pos ⟨rfl, h⟩]
        · rw [if_neg e, if_neg (fun k => e k.1)]
      · rename_i h
        rw [if_neg]
        rintro ⟨e, k⟩; subst e
        exact h (by simp [k])
    show ltAt (redF j se q l (redStep j se q ls x)) y = _
    rw [ih, hst]
    by_cases e : y = x
    · subst e
      by_cases k : (ltAt ls y).Green = true ∧ hasB j q y = false
      · simp [k]
      · rw [if_neg (show ¬ (y = y ∧ (ltAt ls y).Green = true ∧ hasB j q y = false) from fun h => k h.2)]; rw [if_neg (fun h => k h.2), if_neg (fun h => k h.2)]
    · rw [if_neg (show ¬ (y = x ∧ (ltAt ls y).Green = true ∧ hasB j q y = false) from fun h => e h.1)]; simp [e]

theorem arrFold_at {j : Jn} {se : Int} {P : List Int} {ls : List Lt} (hP : ∀ a ∈ P, ∀ b ∈ P, conf j a b = false) : ∀ (l : List Int) (st : List Lt × Bool), (∀ x ∈ l, x ∈ P ∧ 0 ≤ x ∧ x < ls.length) → st.1.length = ls.length → (∀ a : Nat, (a : Int) ∉ P → ltAt st.1 a = ltAt ls a) →
    (∀ y, 0 ≤ y → ltAt (l.foldl (arrStep j se) st).1 y = if y ∈ l ∧ (ltAt st.1 y).Green = false ∧ clearB j se ls y = true then ⟨true, se⟩ else ltAt st.1 y) ∧
    (l.foldl (arrStep j se) st).2 = (st.2 && l.all fun x => (ltAt st.1 x).Green || clearB j se ls x)
  | [], st, _, _, _ => ⟨fun y _ => by simp, by simp⟩
  | x :: l, st, hl, hlen, hag => by
    have hx := hl x (by simp)
    have hcl : clearB j se st.1 x = clearB j se ls x := clear_congr hlen (fun a ha hc => hag a (fun hm => by rw [hP a hm x hx.1] at hc; cases hc))
    have hst : ∀ y, 0 ≤ y → ltAt (arrStep j se st x).1 y = if y = x ∧ (ltAt st.1 y).Green = false ∧ clearB j se ls y = true then ⟨true, se⟩ else ltAt st.1 y := by
      intro y y0
      unfold arrStep
      rw [hcl]
      split
      · rename_i h
        rw [if_neg]
        rintro ⟨e, k, _⟩; subst e; rw [h] at k; cases k
      · rename_i h
        split
        · rename_i c
          show ltAt (st.1.set x.toNat ⟨true, se⟩) y = _
          rw [ltAt_set hx.2.1 (by rw [hlen]; exact hx.2.2) y0]
          by_cases e : y = x
          · subst e; rw [if_pos rfl, if_pos ⟨rfl, by simpa using h, c⟩]
          · rw [if_neg e, if_neg (fun k => e k.1)]
        · rename_i c
          rw [if_neg]
          rintro ⟨e, _, k⟩; subst e; exact c k
    have hs2 : (arrStep j se st x).2 = (st.2 && ((ltAt st.1 x).Green || clearB j se ls x)) := by
      unfold arrStep
      rw [hcl]
      split
      · rename_i h; simp [h]
      · rename_i h
        split
        · rename_i c; simp [c]
        · rename_i c; simp [h, c]
    obtain ⟨i1, i2⟩ := arrFold_at hP l (arrStep j se st x) (fun z hz => hl z (by simp [hz])) (by rw [arrStep_len]; exact hlen) (fun a ha => by
      have hax : (a : Int) ≠ x := fun e => ha (e ▸ hx.1)
      rw [hst a (by omega), if_neg (fun k => hax k.1)]; exact hag a ha)
    refine ⟨fun y y0 => ?_, ?_⟩
    · rw [List.foldl_cons, i1 y y0, hst y y0]
      by_cases e : y = x
      · subst e
        by_cases k : (ltAt st.1 y).Green = false ∧ clearB j se ls y = true
        · simp [k]
        · rw [if_neg (show ¬ (y = y ∧ (ltAt st.1 y).Green = false ∧ clearB j se ls y = true) from fun h => k h.2), if_neg (fun h => k h.2), if_neg (fun h => k h.2)]
      · rw [if_neg (show ¬ (y = x ∧ (ltAt st.1 y).Green = false ∧ clearB j se ls y = true) from fun h => e h.1)]; simp [e]
    · rw [List.foldl_cons, i2, hs2, List.all_cons, Bool.and_assoc]
      congr 2
      have : ∀ z ∈ l, ((ltAt (arrStep j se st x).1 z).Green || clearB j se ls z) = ((ltAt st.1 z).Green || clearB j se ls z) := by
        intro z hz
        rw [hst z (hl z (by simp [hz])).2.1]
        split
        · rename_i k; rw [k.2.2]; simp
        · rfl
      rw [Bool.eq_iff_iff]; simp only [List.all_eq_true]
      constructor
      · intro k z hz; rw [← this z hz]; exact k z hz
      · intro k z hz; rw [this z hz]; exact k z hz
theorem arrF_at {j : Jn} {se : Int} {P : List Int} {ls : List Lt} (hP : ∀ a ∈ P, ∀ b ∈ P, conf j a b = false) (hb : ∀ x ∈ P, 0 ≤ x ∧ x < ls.length) :
    (∀ y, 0 ≤ y → ltAt (arrF j se P ls).1 y = if y ∈ P ∧ (ltAt ls y).Green = false ∧ clearB j se ls y = true then ⟨true, se⟩ else ltAt ls y) ∧
    (arrF j se P ls).2 = P.all fun x => (ltAt ls x).Green || clearB j se ls x := by
  have := arrFold_at (se := se) hP P (ls, true) (fun x hx => ⟨hx, hb x hx⟩) rfl (fun a _ => rfl)
  exact ⟨this.1, this.2⟩

/-- A state of a signal: what is green belongs to its phase. -/
structure Safe (j : Jn) (s : Sg) : Prop where
  l : s.ls.length = j.n
  p0 : 0 ≤ s.ph
  p1 : s.ph < j.Phases.length
  grn : ∀ y : Int, 0 ≤ y → y < j.n → (ltAt s.ls y).Green = true → y ∈ rowAt j.Phases s.ph
  onG : s.on = true → ∀ y ∈ rowAt j.Phases s.ph, (ltAt s.ls y).Green = true
/-- What becomes of a light in a second. -/
def Turned (j : Jn) (s s' : Sg) (y : Int) : Prop :=
  ltAt s'.ls y = ltAt s.ls y ∨ ((ltAt s.ls y).Green = true ∧ ltAt s'.ls y = ⟨false, s'.se⟩ ∧ (strm j y).Least ≤ s'.se - (ltAt s.ls y).Since) ∨
  ((ltAt s.ls y).Green = false ∧ ltAt s'.ls y = ⟨true, s'.se⟩ ∧ ∀ a : Int, 0 ≤ a → a < j.n → conf j a y = true → (ltAt s'.ls a).Green = false ∧ clr j a y ≤ s'.se - (ltAt s'.ls a).Since)

theorem arr_safe {j : Jn} (ho : JOk j) {s : Sg} (hl : s.ls.length = j.n) (p0 : 0 ≤ s.ph) (p1 : s.ph < j.Phases.length) (hg : ∀ y : Int, 0 ≤ y → y < j.n → (ltAt s.ls y).Green = true → y ∈ rowAt j.Phases s.ph) (hon : s.on = false) :
    Safe j (arrS j s) ∧ ∀ y : Int, 0 ≤ y → y < j.n → ltAt (arrS j s).ls y = ltAt s.ls y ∨
      (y ∈ rowAt j.Phases s.ph ∧ (ltAt s.ls y).Green = false ∧ ltAt (arrS j s).ls y = ⟨true, s.se⟩ ∧ ∀ a : Int, 0 ≤ a → a < j.n → conf j a y = true → (ltAt (arrS j s).ls a).Green = false ∧ clr j a y ≤ s.se - (ltAt (arrS j s).ls a).Since) := by
  have hb := (ho.phase p0 p1).2.2.1
  have hfr := phase_free ho p0 p1
  obtain ⟨h1, h2⟩ := arrF_at (se := s.se) (ls := s.ls) hfr (fun x hx => by have := hb x hx; rw [hl]; exact this)
  have e1 : (arrS j s).ls = (arrF j s.se (rowAt j.Phases s.ph) s.ls).1 := rfl
  have e2 : (arrS j s).on = (arrF j s.se (rowAt j.Phases s.ph) s.ls).2 := by simp [arrS, hon]
  have e3 : (arrS j s).ph = s.ph := rfl
  refine ⟨⟨by rw [e1, arrF_len]; exact hl, p0, p1, fun y y0 y1 hy => ?_, fun ho' y hy => ?_⟩, fun y y0 y1 => ?_⟩
  · rw [e1, h1 y y0] at hy
    rw [e3]
    split at hy
    · rename_i k; exact k.1
    · exact hg y y0 y1 hy
  · rw [e3] at hy
    rw [e2, h2, List.all_eq_true] at ho'
    have := ho' y hy
    rw [e1, h1 y (hb y hy).1]
    split
    · rfl
    · rename_i k
      cases hG : (ltAt s.ls y).Green with
      | true => rfl
      | false =>
        rw [hG, Bool.false_or] at this
        exact absurd ⟨hy, hG, this⟩ k
  · rw [e1, h1 y y0]
    split
    · rename_i k
      right
      refine ⟨k.1, k.2.1, rfl, fun a a0 a1 hc => ?_⟩
      have ha : a ∉ rowAt j.Phases s.ph := fun hm => by rw [hfr a hm y k.1] at hc; cases hc
      rw [h1 a a0, if_neg (fun q => ha q.1)]
      have := clear_iff.1 k.2.2 a.toNat (by omega)
      rw [Int.toNat_of_nonneg a0] at this
      exact this hc
    · exact Or.inl rfl

theorem ends_ne {j : Jn} {se ph si : Int} {ls : List Lt} {d p : List Int} (h : endsB j se ph si ls d p = true) : candL j ph d ≠ [] := by
  intro e
  simp [endsB, e] at h
theorem ends_old {j : Jn} {se ph si : Int} {ls : List Lt} {d p : List Int} (h : endsB j se ph si ls d p = true) {y : Int} (hy : y ∈ rowAt j.Phases ph) (hg : (ltAt ls y).Green = true) : (strm j y).Least ≤ se - (ltAt ls y).Since := by
  simp only [endsB, Bool.and_eq_true, Bool.not_eq_true', List.any_eq_false] at h
  have := h.2.1 y hy
  simp only [young, hg, Bool.true_and, decide_eq_true_eq] at this
  omega

theorem turn_safe {j : Jn} (ho : JOk j) {s : Sg} {d p : List Int} (hs : Safe j s) (he : endS j d p s = true) :
    (turnS j d p s).ls.length = j.n ∧ 0 ≤ (turnS j d p s).ph ∧ (turnS j d p s).ph < j.Phases.length ∧
    (∀ y : Int, 0 ≤ y → ltAt (turnS j d p s).ls y = if y ∈ rowAt j.Phases s.ph ∧ (ltAt s.ls y).Green = true ∧ hasB j (turnS j d p s).ph y = false then ⟨false, s.se⟩ else ltAt s.ls y) ∧
    (∀ y : Int, 0 ≤ y → y < j.n → (ltAt (turnS j d p s).ls y).Green = true → y ∈ rowAt j.Phases (turnS j d p s).ph) := by
  have hb := (ho.phase hs.p0 hs.p1).2.2.1
  have hne : candL j s.ph d ≠ [] := ends_ne he
  have hq := candL_bd (j := j) (ph := s.ph) (d := d) (by have := ho.p1; omega) _ (nextB_mem (p := p) (sk := s.sk) hne)
  have hat : ∀ y : Int, 0 ≤ y → ltAt (turnS j d p s).ls y = if y ∈ rowAt j.Phases s.ph ∧ (ltAt s.ls y).Green = true ∧ hasB j (turnS j d p s).ph y = false then ⟨false, s.se⟩ else ltAt s.ls y :=
    fun y y0 => redF_at (rowAt j.Phases s.ph) s.ls (fun x hx => by have := hb x hx; rw [hs.l]; exact this) y y0
  refine ⟨by show (redF _ _ _ _ _).length = _; rw [redF_len]; exact hs.l, hq.1, hq.2, hat, fun y y0 y1 hy => ?_⟩
  rw [hat y y0] at hy
  split at hy
  · cases hy
  · rename_i k
    have hm := hs.grn y y0 y1 hy
    have : hasB j (turnS j d p s).ph y = true := by
      cases hh : hasB j (turnS j d p s).ph y with
      | true => rfl
      | false => exact absurd ⟨hm, hy, hh⟩ k
    simpa [hasB] using this

theorem nextS_safe {j : Jn} {s : Sg} (h : Safe j s) : Safe j (nextS s) := ⟨h.l, h.p0, h.p1, h.grn, h.onG⟩

theorem tick_keeps {j : Jn} (ho : JOk j) {s : Sg} {d p : List Int} (hs : Safe j s) : Safe j (tickS j d p s) ∧ (tickS j d p s).se = s.se + 1 ∧ ∀ y : Int, 0 ≤ y → y < j.n → Turned j s (tickS j d p s) y := by
  have hn := nextS_safe hs
  unfold tickS
  split
  · rename_i hon
    split
    · rename_i he
      obtain ⟨t1, t2, t3, t4, t5⟩ := turn_safe ho hn he
      obtain ⟨a1, a2⟩ := arr_safe ho (s := turnS j d p (nextS s)) t1 t2 t3 t5 rfl
      refine ⟨a1, rfl, fun y y0 y1 => ?_⟩
      have hse : (arrS j (turnS j d p (nextS s))).se = (nextS s).se := rfl
      have hls : (nextS s).ls = s.ls := rfl
      rcases a2 y y0 y1 with h | ⟨h1, h2, h3, h4⟩
      · rw [t4 y y0] at h
        split at h
        · rename_i k
          refine Or.inr (Or.inl ⟨k.2.1, by rw [h, hse], ?_⟩)
          have := ends_old he k.1 k.2.1
          rw [hse]; exact this
        · exact Or.inl h
      · refine Or.inr (Or.inr ⟨?_, h3, h4⟩)
        rw [t4 y y0] at h2
        split at h2
        · rename_i k
          have : hasB j (turnS j d p (nextS s)).ph y = true := by simpa [hasB] using h1
          rw [this] at k; exact absurd k.2.2 (by simp)
        · exact h2
    · exact ⟨hn, rfl, fun y _ _ => Or.inl rfl⟩
  · rename_i hon
    obtain ⟨a1, a2⟩ := arr_safe ho (s := nextS s) hn.l hn.p0 hn.p1 hn.grn (by simpa [nextS] using hon)
    refine ⟨a1, rfl, fun y y0 y1 => ?_⟩
    rcases a2 y y0 y1 with h | ⟨h1, h2, h3, h4⟩
    · exact Or.inl h
    · exact Or.inr (Or.inr ⟨h2, h3, h4⟩)

theorem grF_at : ∀ (l : List Int) (ls : List Lt), (∀ x ∈ l, 0 ≤ x ∧ x < ls.length) → ∀ y, 0 ≤ y → ltAt (grF l ls) y = if y ∈ l then ⟨true, (ltAt ls y).Since⟩ else ltAt ls y
  | [], ls, _, y, _ => by simp [grF]
  | x :: l, ls, hl, y, y0 => by
    have hx := hl x (by simp)
    have ih := grF_at l (grStep ls x) (fun z hz => by simp only [grStep, List.length_set]; exact hl z (by simp [hz])) y y0
    show ltAt (grF l (grStep ls x)) y = _
    rw [ih]
    simp only [grStep]
    rw [ltAt_set hx.1 hx.2 y0]
    by_cases e : y = x
    · subst e; simp
    · simp [e]
theorem ltAt_rep (n : Nat) (y : Int) : ltAt (List.replicate n ⟨false, 0⟩) y = ⟨false, 0⟩ := by
  unfold ltAt
  rw [List.getElem?_replicate]
  split <;> rfl
theorem open_at {j : Jn} (ho : JOk j) {y : Int} (y0 : 0 ≤ y) : ltAt (openS j).ls y = ⟨decide (y ∈ rowAt j.Phases 0), 0⟩ := by
  have hb := (ho.phase (i := 0) (by omega) (by have := ho.p1; omega)).2.2.1
  have := grF_at (rowAt j.Phases 0) (List.replicate j.n ⟨false, 0⟩) (fun x hx => by rw [List.length_replicate]; exact hb x hx) y y0
  show ltAt (grF _ _) y = _
  rw [this, ltAt_rep]
  split <;> simp [*]
theorem open_safe {j : Jn} (ho : JOk j) : Safe j (openS j) := by
  have h1 := ho.p1
  refine ⟨by simp [openS, grF_len], by simp [openS], by simp [openS]; omega, fun y y0 y1 hy => ?_, fun _ y hy => ?_⟩
  · rw [open_at ho y0] at hy; exact of_decide_eq_true hy
  · have hb := (ho.phase (i := 0) (by omega) (by omega)).2.2.1 y hy
    rw [open_at ho hb.1]; exact decide_eq_true hy

/-! The candidates are in a circle, each once. -/
theorem candQ_inj {j : Jn} {ph : Int} {a b : Nat} (ha : a < j.Phases.length) (hb : b < j.Phases.length) (e : candQ j ph a = candQ j ph b) : a = b := by
  unfold candQ at e
  rw [Int.emod_eq_emod_iff_emod_sub_eq_zero] at e
  have hd := Int.dvd_of_emod_eq_zero e
  have := Int.eq_zero_of_dvd_of_natAbs_lt_natAbs hd (by omega)
  omega
theorem candTo_mem {j : Jn} {ph : Int} {d : List Int} {q : Int} : ∀ k, q ∈ candTo j ph d k ↔ ∃ i : Nat, 1 ≤ i ∧ i ≤ k ∧ q = candQ j ph i ∧ someB j q ph d = true
  | 0 => by simp [candTo]; omega
  | k + 1 => by
    simp only [candTo, List.mem_append, candTo_mem k]
    constructor
    · rintro (⟨i, h1, h2, h3, h4⟩ | h)
      · exact ⟨i, h1, by omega, h3, h4⟩
      · split at h
        · rename_i hs
          simp only [List.mem_singleton] at h
          subst h
          exact ⟨k + 1, by omega, by omega, rfl, hs⟩
        · simp at h
    · rintro ⟨i, h1, h2, h3, h4⟩
      rcases Nat.lt_or_ge i (k + 1) with h | h
      · exact Or.inl ⟨i, h1, by omega, h3, h4⟩
      · have hi : i = k + 1 := by omega
        subst hi
        right
        rw [← h3, if_pos h4]; simp
theorem candTo_nodup {j : Jn} {ph : Int} {d : List Int} : ∀ k, k < j.Phases.length → (candTo j ph d k).Nodup
  | 0, _ => by simp [candTo]
  | k + 1, h => by
    simp only [candTo]
    rw [List.nodup_append]
    refine ⟨candTo_nodup k (by omega), by split <;> simp, fun a ha b hb => ?_⟩
    split at hb
    · simp only [List.mem_singleton] at hb
      subst hb
      rintro rfl
      obtain ⟨i, h1, h2, h3, _⟩ := (candTo_mem k).1 ha
      have := candQ_inj (by omega) (by omega) h3
      omega
    · simp at hb
theorem candL_nodup {j : Jn} {ph : Int} {d : List Int} (h : 1 ≤ j.Phases.length) : (candL j ph d).Nodup := candTo_nodup _ (by omega)

/-! The bound. -/
theorem le_maxI_r (a b : Int) : b ≤ maxI a b := by unfold maxI; split <;> omega
theorem le_maxI_l (a b : Int) : a ≤ maxI a b := by unfold maxI; split <;> omega
theorem le_maxOf {l : List Int} {x : Int} (h : x ∈ l) : x ≤ maxOf l := by
  have gen : ∀ (l : List Int) (m : Int), m ≤ l.foldl maxI m ∧ ∀ x ∈ l, x ≤ l.foldl maxI m := by
    intro l
    induction l with
    | nil => intro m; exact ⟨Int.le_refl _, by simp⟩
    | cons y l ih =>
      intro m
      rw [List.foldl_cons]
      have := ih (maxI m y)
      refine ⟨Int.le_trans (le_maxI_l m y) this.1, fun x hx => ?_⟩
      rcases List.mem_cons.1 hx with rfl | hx
      · exact Int.le_trans (le_maxI_r m x) this.1
      · exact this.2 x hx
  cases l with
  | nil => simp at h
  | cons y l =>
    have := gen l y
    rcases List.mem_cons.1 h with rfl | h
    · exact this.1
    · exact this.2 x h
theorem clr_le_most {j : Jn} (ho : JOk j) {a b : Int} (a0 : 0 ≤ a) (a1 : a < j.n) (b0 : 0 ≤ b) (b1 : b < j.n) : clr j a b ≤ mostC j := by
  have gen : ∀ (l : List (List Int)) (m : Int), m ≤ l.foldl (fun m r => maxI m (maxOf r)) m ∧ ∀ r ∈ l, maxOf r ≤ l.foldl (fun m r => maxI m (maxOf r)) m := by
    intro l
    induction l with
    | nil => intro m; exact ⟨Int.le_refl _, by simp⟩
    | cons y l ih =>
      intro m
      rw [List.foldl_cons]
      have := ih (maxI m (maxOf y))
      refine ⟨Int.le_trans (le_maxI_l m _) this.1, fun x hx => ?_⟩
      rcases List.mem_cons.1 hx with rfl | hx
      · exact Int.le_trans (le_maxI_r m _) this.1
      · exact this.2 x hx
  have h1 := (gen j.Clears 0).2 _ (List.mem_of_getElem? (ho.sqr.row a0 a1).1)
  exact Int.le_trans (le_maxOf (List.mem_of_getElem? (ho.sqr.get a0 a1 b0 b1))) h1
theorem least_le {j : Jn} (ho : JOk j) {i x : Int} (h0 : 0 ≤ i) (h1 : i < j.Phases.length) (hx : x ∈ rowAt j.Phases i) : (strm j x).Least ≤ at0 j.Longest i := by
  have hp := ho.ph i.toNat (by omega)
  rw [Int.toNat_of_nonneg h0] at hp
  simp only [phB, Bool.and_eq_true, inr_iff] at hp
  have gen : ∀ (l : List Int) (m : Int), m ≤ l.foldl (fun m s => maxI m (strm j s).Least) m ∧ ∀ x ∈ l, (strm j x).Least ≤ l.foldl (fun m s => maxI m (strm j s).Least) m := by
    intro l
    induction l with
    | nil => intro m; exact ⟨Int.le_refl _, by simp⟩
    | cons y l ih =>
      intro m
      rw [List.foldl_cons]
      have := ih (maxI m (strm j y).Least)
      refine ⟨Int.le_trans (le_maxI_l m _) this.1, fun x hx => ?_⟩
      rcases List.mem_cons.1 hx with rfl | hx
      · exact Int.le_trans (le_maxI_r m _) this.1
      · exact this.2 x hx
  have h2 := (gen (rowAt j.Phases i) 0).2 x hx
  have h3 := le_maxI_r 1 (maxL j (rowAt j.Phases i))
  have h4 : maxL j (rowAt j.Phases i) = (rowAt j.Phases i).foldl (fun m s => maxI m (strm j s).Least) 0 := rfl
  omega
theorem long_le {j : Jn} (ho : JOk j) {i : Int} (h0 : 0 ≤ i) (h1 : i < j.Phases.length) : at0 j.Longest i ≤ maxOf j.Longest :=
  le_maxOf (List.mem_of_getElem? (at0_get h0 (by have := ho.ll; omega)))

/-- When a phase began to be gone to: at t0. -/
structure Wt (j : Jn) (s : Sg) (t0 : Int) : Prop where
  t : t0 ≤ s.se + 1
  red : ∀ y : Int, 0 ≤ y → y < j.n → (ltAt s.ls y).Green = false → (ltAt s.ls y).Since ≤ t0
  bd : ∀ y : Int, 0 ≤ y → y < j.n → (ltAt s.ls y).Since ≤ s.se + 1
  on : s.on = true → s.si ≤ t0 + mostC j ∧ ∀ y : Int, 0 ≤ y → y < j.n → (ltAt s.ls y).Green = true → (ltAt s.ls y).Since ≤ s.si
  off : s.on = false → s.se < t0 + mostC j

theorem arr_wt {j : Jn} (ho : JOk j) {s : Sg} {t0 : Int} (hl : s.ls.length = j.n) (p0 : 0 ≤ s.ph) (p1 : s.ph < j.Phases.length) (hg : ∀ y : Int, 0 ≤ y → y < j.n → (ltAt s.ls y).Green = true → y ∈ rowAt j.Phases s.ph) (hon : s.on = false)
    (ht : t0 ≤ s.se) (hr : ∀ y : Int, 0 ≤ y → y < j.n → (ltAt s.ls y).Green = false → (ltAt s.ls y).Since ≤ t0) (hb : ∀ y : Int, 0 ≤ y → y < j.n → (ltAt s.ls y).Since ≤ s.se) (hse : s.se ≤ t0 + mostC j) : Wt j (arrS j s) t0 := by
  obtain ⟨h1, h2⟩ := arr_safe ho hl p0 p1 hg hon
  have hfr := phase_free ho p0 p1
  have hbd := (ho.phase p0 p1).2.2.1
  have e0 : (arrS j s).se = s.se := rfl
  have e2 : (arrS j s).on = (arrF j s.se (rowAt j.Phases s.ph) s.ls).2 := by simp [arrS, hon]
  have hat := arrF_at (se := s.se) (ls := s.ls) hfr (fun x hx => by have := hbd x hx; rw [hl]; exact this)
  have hbd' : ∀ y : Int, 0 ≤ y → y < j.n → (ltAt (arrS j s).ls y).Since ≤ s.se := by
    intro y y0 y1
    rcases h2 y y0 y1 with h | h
    · rw [h]; exact hb y y0 y1
    · rw [h.2.2.1]; exact Int.le_refl _
  refine ⟨by rw [e0]; omega, fun y y0 y1 hy => ?_, fun y y0 y1 => ?_, fun hO => ?_, fun hO => ?_⟩
  · rcases h2 y y0 y1 with h | h
    · rw [h] at hy ⊢; exact hr y y0 y1 hy
    · rw [h.2.2.1] at hy; cases hy
  · rw [e0]; have := hbd' y y0 y1; omega
  · have hsi : (arrS j s).si = s.se := by
      have : (arrF j s.se (rowAt j.Phases s.ph) s.ls).2 = true := by rw [← e2]; exact hO
      simp [arrS, this]
    exact ⟨by rw [hsi]; exact hse, fun y y0 y1 _ => by rw [hsi]; exact hbd' y y0 y1⟩
  · rw [e0]
    rcases Int.lt_or_le s.se (t0 + mostC j) with h | h
    · exact h
    · exfalso
      rw [e2, hat.2, List.all_eq_false] at hO
      obtain ⟨x, hx, hq⟩ := hO
      apply hq
      rw [Bool.or_eq_true]
      right
      have hxb := hbd x hx
      refine clear_iff.2 fun a ha hc => ?_
      have han : a < j.n := by omega
      have hG : (ltAt s.ls a).Green = false := by
        cases hG : (ltAt s.ls a).Green with
        | false => rfl
        | true => rw [hfr _ (hg a (by omega) (by omega) hG) x hx] at hc; cases hc
      have h3 := hr a (by omega) (by omega) hG
      have h4 := clr_le_most ho (a := a) (b := x) (by omega) (by omega) hxb.1 hxb.2
      exact ⟨hG, by omega⟩

/-- A second: the time of the last turn. -/
theorem tick_wt {j : Jn} (ho : JOk j) {s : Sg} {d p : List Int} {t0 : Int} (hs : Safe j s) (hw : Wt j s t0) :
    if s.on = true ∧ endS j d p (nextS s) = true then Wt j (tickS j d p s) (s.se + 1) else Wt j (tickS j d p s) t0 := by
  have hn := nextS_safe hs
  have hm := most_bd ho
  have e1 : (nextS s).se = s.se + 1 := rfl
  have e2 : (nextS s).ls = s.ls := rfl
  split
  · rename_i h
    have ht : tickS j d p s = arrS j (turnS j d p (nextS s)) := by unfold tickS; rw [if_pos h.1, if_pos h.2]
    rw [ht]
    obtain ⟨t1, t2, t3, t4, t5⟩ := turn_safe ho hn h.2
    refine arr_wt ho (s := turnS j d p (nextS s)) t1 t2 t3 t5 rfl (by show s.se + 1 ≤ s.se + 1; omega) (fun y y0 y1 hy => ?_) (fun y y0 y1 => ?_) (by show s.se + 1 ≤ _; omega)
    · rw [t4 y y0]
      split
      · exact Int.le_refl _
      · exact hw.bd y y0 y1
    · rw [t4 y y0]
      split
      · exact Int.le_refl _
      · exact hw.bd y y0 y1
  · rename_i h
    unfold tickS
    split
    · rename_i hon
      rw [if_neg (fun k => h ⟨hon, k⟩)]
      exact ⟨by have := hw.t; rw [e1]; omega, hw.red, fun y y0 y1 => by have := hw.bd y y0 y1; rw [e1, e2]; omega, hw.on, fun k => by rw [show (nextS s).on = s.on from rfl, hon] at k; cases k⟩
    · rename_i hon
      have hof : s.on = false := by simpa using hon
      exact arr_wt ho (s := nextS s) hn.l hn.p0 hn.p1 hn.grn hof (by have := hw.t; rw [e1]; omega) hw.red (fun y y0 y1 => hw.bd y y0 y1) (by have := hw.off hof; rw [e1]; omega)
theorem open_wt {j : Jn} (ho : JOk j) : Wt j (openS j) 0 := by
  have hm := most_bd ho
  refine ⟨by simp [openS], fun y y0 y1 _ => by rw [open_at ho y0]; exact Int.le_refl _, fun y y0 y1 => by rw [open_at ho y0]; simp [openS], fun _ => ⟨by simp [openS]; omega, fun y y0 y1 _ => by rw [open_at ho y0]; simp [openS]⟩, fun h => by simp [openS] at h⟩
end Go.Street
