/- Plain law: how long a stream waits. No condition. -/
import Derived.Test.YtmenlmioccciiaaZK
namespace Go.Street
open Go.AM
set_option maxRecDepth 10000
set_option maxHeartbeats 4000000
set_option linter.unusedVariables false
set_option linter.unusedSimpArgs false

/-! The candidates' order, and who is skipped. -/
theorem candTo_split {j : Jn} {ph : Int} {d : List Int} {i : Nat} (h1 : 1 ≤ i) (hi : i ≤ j.Phases.length - 1) (hs : someB j (candQ j ph i) ph d = true) : ∃ r, candL j ph d = candTo j ph d (i - 1) ++ candQ j ph i :: r := by
  obtain ⟨r, hr⟩ := candTo_prefix j ph d i (j.Phases.length - 1 - i)
  rw [show i + (j.Phases.length - 1 - i) = j.Phases.length - 1 by omega] at hr
  refine ⟨r, ?_⟩
  unfold candL
  rw [hr]
  obtain ⟨m, rfl⟩ : ∃ m, i = m + 1 := ⟨i - 1, by omega⟩
  simp only [Nat.add_sub_cancel]
  rw [candTo, if_pos hs, List.append_assoc]
  rfl
theorem takeWhile_pre {a : List Int} {q : Int} {r : List Int} (h : q ∉ a) : (a ++ q :: r).takeWhile (fun x => !decide (x = q)) = a := by
  induction a with
  | nil => simp
  | cons x a ih =>
    simp only [List.mem_cons, not_or] at h
    rw [List.cons_append, List.takeWhile_cons, if_pos (by simp; exact fun e => h.1 e.symm), ih h.2]
theorem at0_set {l : List Int} {p : Nat} {v : Int} {q : Int} (q0 : 0 ≤ q) (hq : q ≠ p) : at0 (l.set p v) q = at0 l q := by
  unfold at0
  rw [List.getElem?_set, if_neg (by omega)]
theorem incrs_at {l : List Int} : ∀ (sk : List Int) (q : Int), 0 ≤ q → q < sk.length → (∀ x ∈ l, 0 ≤ x) → (q ∉ l → at0 (incrs sk l) q = at0 sk q) ∧ (q ∈ l → at0 sk q + 1 ≤ at0 (incrs sk l) q) ∧ at0 sk q ≤ at0 (incrs sk l) q := by
  induction l with
  | nil => intro sk q _ _ _; simp [incrs]
  | cons x l ih =>
    intro sk q q0 q1 hx
    have hx0 := hx x (by simp)
    obtain ⟨i1, i2, i3⟩ := ih (incr sk x) q q0 (by rw [incr_len]; exact q1) (fun y hy => hx y (by simp [hy]))
    have e : incrs sk (x :: l) = incrs (incr sk x) l := rfl
    have h1 : q ≠ x → at0 (incr sk x) q = at0 sk q := fun hne => at0_set q0 (by omega)
    have h2 : q = x → at0 (incr sk x) q = at0 sk q + 1 := by
      rintro rfl
      unfold incr
      unfold at0
      rw [List.getElem?_set_self (by omega)]; rfl
    rw [e]
    by_cases hqx : q = x
    · have := h2 hqx
      refine ⟨fun h => absurd (by simp [hqx]) h, fun _ => by omega, by omega⟩
    · have := h1 hqx
      refine ⟨fun h => by rw [i1 (fun k => h (by simp [k])), this], fun h => ?_, by omega⟩
      have := i2 ((List.mem_cons.1 h).resolve_left hqx)
      omega

/-- How far a phase is, in the circle. -/
def dist (j : Jn) (ph q : Int) : Int := (q - ph) % (j.Phases.length : Int)
theorem dist_cand {j : Jn} {ph q : Int} (h : 1 ≤ j.Phases.length) (q0 : 0 ≤ q) (q1 : q < j.Phases.length) : candQ j ph (dist j ph q).toNat = q := by
  have hd : 0 ≤ dist j ph q := Int.emod_nonneg _ (by omega)
  unfold candQ
  rw [Int.toNat_of_nonneg hd]
  unfold dist
  rw [Int.add_emod, Int.emod_emod_of_dvd _ (Int.dvd_refl _), ← Int.add_emod]
  rw [show ph + (q - ph) = q by omega]
  exact Int.emod_eq_of_lt q0 q1
theorem maxI_pos {a : Int} (h : 0 ≤ a) : maxI 0 a = a := by unfold maxI; split <;> omega
theorem dist_bd {j : Jn} {ph q : Int} (h : 1 ≤ j.Phases.length) : 0 ≤ dist j ph q ∧ dist j ph q < j.Phases.length := ⟨Int.emod_nonneg _ (by omega), Int.emod_lt_of_pos _ (by omega)⟩
theorem dist_of {j : Jn} {ph q : Int} {i : Nat} (hi : i < j.Phases.length) (h : q = candQ j ph i) : dist j ph q = i := by
  subst h
  unfold dist candQ
  rw [Int.sub_emod, Int.emod_emod_of_dvd _ (Int.dvd_refl _), ← Int.sub_emod]
  rw [show ph + (i : Int) - ph = i by omega]
  exact Int.emod_eq_of_lt (by omega) (by omega)
theorem dist_add {j : Jn} {ph q r : Int} (h : dist j ph q ≤ dist j ph r) (hl : 1 ≤ j.Phases.length) : dist j q r = dist j ph r - dist j ph q := by
  have h1 := dist_bd (ph := ph) (q := q) hl
  have h2 := dist_bd (ph := ph) (q := r) hl
  have : dist j q r = (dist j ph r - dist j ph q) % (j.Phases.length : Int) := by
    unfold dist
    rw [← Int.sub_emod]
    congr 1; omega
  rw [this]
  exact Int.emod_eq_of_lt (by omega) (by omega)

/-- What is left to be waited for, in turns: x waits for the phase q. -/
def phi (j : Jn) (x q : Int) (s : Sg) : Int :=
  if x ∈ rowAt j.Phases s.ph then 0 else maxI 0 (j.Skips - at0 s.sk q) * j.Phases.length + dist j s.ph q
theorem phi_nn {j : Jn} {x q : Int} {s : Sg} (h : 1 ≤ j.Phases.length) : 0 ≤ phi j x q s := by
  unfold phi
  split
  · exact Int.le_refl _
  · have := dist_bd (ph := s.ph) (q := q) h
    have := Int.mul_nonneg (le_maxI_l 0 (j.Skips - at0 s.sk q)) (show (0 : Int) ≤ j.Phases.length by omega)
    omega
theorem phi_le {j : Jn} (ho : JOk j) {x q : Int} {s : Sg} (hk : ∀ y ∈ s.sk, 0 ≤ y) : phi j x q s ≤ j.Skips * j.Phases.length + j.Phases.length - 1 := by
  have h := ho.p1; have hs := ho.s1
  have hm := Int.mul_nonneg hs (show (0 : Int) ≤ j.Phases.length by omega)
  unfold phi
  split
  · omega
  · have := dist_bd (ph := s.ph) (q := q) h
    have h0 : 0 ≤ at0 s.sk q := by
      unfold at0
      cases e : s.sk[q.toNat]? with
      | none => exact Int.le_refl _
      | some y => exact hk y (List.mem_of_getElem? e)
    have : maxI 0 (j.Skips - at0 s.sk q) ≤ j.Skips := maxI_le hs (by omega)
    have := Int.mul_le_mul_of_nonneg_right this (show (0 : Int) ≤ j.Phases.length by omega)
    omega

/-- A turn brings it nearer. -/
theorem phi_turn {j : Jn} (ho : JOk j) {s : Sg} {d p : List Int} {x q : Int} (p0 : 0 ≤ s.ph) (p1 : s.ph < j.Phases.length) (hk : s.sk.length = j.Phases.length)
    (hx : x ∉ rowAt j.Phases s.ph) (hd : x ∈ d) (q0 : 0 ≤ q) (q1 : q < j.Phases.length) (hq : x ∈ rowAt j.Phases q) (t : Sg) (ht1 : t.ph = nextB j s.ph d p s.sk) (ht2 : t.sk = nextK j s.ph d p s.sk) :
    phi j x q t ≤ phi j x q s - 1 := by
  have hP := ho.p1
  have hne : q ≠ s.ph := by rintro rfl; exact hx hq
  have hsome : someB j q s.ph d = true := by
    unfold someB
    rw [List.any_eq_true]
    exact ⟨x, hq, by simp [hd, hasB, hx]⟩
  have hdb := dist_bd (ph := s.ph) (q := q) hP
  have hdq := dist_cand (ph := s.ph) hP q0 q1
  have hd0 : 1 ≤ dist j s.ph q := by
    rcases Int.lt_or_le 0 (dist j s.ph q) with h | h
    · omega
    · exfalso
      have e : dist j s.ph q = 0 := by omega
      rw [e] at hdq
      apply hne
      rw [← hdq]
      unfold candQ
      simp only [Int.toNat_zero, Int.natCast_zero, Int.add_zero]
      exact Int.emod_eq_of_lt p0 p1
  have hmq : q ∈ candL j s.ph d := (candTo_mem _).2 ⟨(dist j s.ph q).toNat, by omega, by omega, hdq.symm, hsome⟩
  have hcne : candL j s.ph d ≠ [] := List.ne_nil_of_mem hmq
  have hnm := nextB_mem (p := p) (sk := s.sk) hcne
  obtain ⟨i, i1, i2, i3, i4⟩ := (candTo_mem _).1 hnm
  have hdi := dist_of (ph := s.ph) (i := i) (by omega) i3
  have hbd := candL_bd (j := j) (ph := s.ph) (d := d) hP
  obtain ⟨r, hr⟩ := candTo_split i1 i2 (by rw [← i3]; exact i4)
  have hpre : nextK j s.ph d p s.sk = (incrs s.sk (candTo j s.ph d (i - 1))).set (nextB j s.ph d p s.sk).toNat 0 := by
    unfold nextK
    rw [hr, ← i3, takeWhile_pre]
    rw [candTo_mem]
    rintro ⟨m, m1, m2, m3, _⟩
    have := candQ_inj (by omega) (by omega) (m3.symm.trans i3)
    omega
  have hps : phi j x q s = maxI 0 (j.Skips - at0 s.sk q) * j.Phases.length + dist j s.ph q := by unfold phi; rw [if_neg hx]
  have hmn := Int.mul_nonneg (le_maxI_l 0 (j.Skips - at0 s.sk q)) (show (0 : Int) ≤ j.Phases.length by omega)
  show (if x ∈ rowAt j.Phases t.ph then 0 else maxI 0 (j.Skips - at0 t.sk q) * j.Phases.length + dist j t.ph q) ≤ phi j x q s - 1
  split
  · rw [hps]; omega
  · rename_i hxt
    rw [hps]
    have hqn : q ≠ nextB j s.ph d p s.sk := by
      intro e
      rw [ht1, ← e] at hxt
      exact hxt hq
    have hn0 := (hbd _ hnm).1
    have hsk : at0 t.sk q = at0 (incrs s.sk (candTo j s.ph d (i - 1))) q := by
      rw [ht2, hpre]
      exact at0_set q0 (by omega)
    obtain ⟨c1, c2, c3⟩ := incrs_at (l := candTo j s.ph d (i - 1)) s.sk q q0 (by omega) (fun y hy => (candTo_bd hP _ y hy).1)
    have hdn : dist j s.ph t.ph = i := by rw [ht1]; exact hdi
    rcases Int.lt_or_le (i : Int) (dist j s.ph q) with hlt | hge
    · -- it is not passed
      have hnot : q ∉ candTo j s.ph d (i - 1) := by
        rw [candTo_mem]
        rintro ⟨m, m1, m2, m3, _⟩
        have := dist_of (ph := s.ph) (i := m) (by omega) m3
        omega
      have e1 := c1 hnot
      have e2 := dist_add (j := j) (ph := s.ph) (q := t.ph) (r := q) (by omega) hP
      rw [hsk, e1]
      omega
    · -- it is passed
      have hne2 : (i : Int) ≠ dist j s.ph q := by
        intro e
        apply hqn
        rw [i3, ← hdq, ← e]; rfl
      have hin : q ∈ candTo j s.ph d (i - 1) := (candTo_mem _).2 ⟨(dist j s.ph q).toNat, by omega, by omega, hdq.symm, hsome⟩
      have e1 := c2 hin
      have hsm : at0 s.sk q < j.Skips := by
        rcases Int.lt_or_le (at0 s.sk q) j.Skips with h | h
        · exact h
        · exfalso
          -- then it, or one ahead of it, would be next
          obtain ⟨r2, hr2⟩ := candTo_split (j := j) (ph := s.ph) (d := d) (i := (dist j s.ph q).toNat) (by omega) (by omega) (by rw [hdq]; exact hsome)
          rw [hdq] at hr2
          have hb1 : ∃ b, (candL j s.ph d).find? (fun q => decide (j.Skips ≤ at0 s.sk q)) = some b ∧ b ∈ candTo j s.ph d (dist j s.ph q).toNat := by
            have hpre2 : ∃ r3, candL j s.ph d = candTo j s.ph d (dist j s.ph q).toNat ++ r3 := by
              obtain ⟨r3, hr3⟩ := candTo_prefix j s.ph d (dist j s.ph q).toNat (j.Phases.length - 1 - (dist j s.ph q).toNat)
              exact ⟨r3, by unfold candL; rw [← hr3]; congr 1; omega⟩
            obtain ⟨r3, hr3⟩ := hpre2
            have hqin : q ∈ candTo j s.ph d (dist j s.ph q).toNat := (candTo_mem _).2 ⟨(dist j s.ph q).toNat, by omega, by omega, hdq.symm, hsome⟩
            rw [hr3, List.find?_append]
            cases hf : (candTo j s.ph d (dist j s.ph q).toNat).find? (fun q => decide (j.Skips ≤ at0 s.sk q)) with
            | none =>
              rw [List.find?_eq_none] at hf
              exact absurd (decide_eq_true h) (hf q hqin)
            | some b => exact ⟨b, rfl, List.mem_of_find?_eq_some hf⟩
          obtain ⟨b, hb, hbm⟩ := hb1
          obtain ⟨m, m1, m2, m3, _⟩ := (candTo_mem _).1 hbm
          have hbb := candTo_bd hP _ b hbm
          have e : nextB j s.ph d p s.sk = b := by
            unfold nextB best2 best1 firstQ
            rw [hb, Option.getD_some, if_neg (by omega), if_neg (by omega)]
          have := dist_of (ph := s.ph) (i := m) (by omega) m3
          rw [← e, hdi] at this
          omega
      have h1 : maxI 0 (j.Skips - at0 s.sk q) = j.Skips - at0 s.sk q := maxI_pos (by omega)
      have h2 : maxI 0 (j.Skips - at0 t.sk q) ≤ j.Skips - at0 s.sk q - 1 := maxI_le (by omega) (by rw [hsk]; omega)
      have h3 := Int.mul_le_mul_of_nonneg_right h2 (show (0 : Int) ≤ j.Phases.length by omega)
      have h4 := dist_bd (ph := t.ph) (q := q) hP
      rw [h1]
      rw [Int.sub_mul, Int.one_mul] at h3
      omega
end Go.Street
