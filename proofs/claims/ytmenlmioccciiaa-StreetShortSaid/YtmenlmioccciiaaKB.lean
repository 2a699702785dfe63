/- Plain law: the program of a tour is right for its streams alone, where no way by a third one is shorter. -/
import Derived.Test.YtmenlmioccciiaaKA
namespace Go.Street
open Go.AM Go.Proofs
set_option maxRecDepth 10000
set_option maxHeartbeats 4000000
set_option linter.unusedVariables false
set_option linter.unusedSimpArgs false

theorem at0_map {f : Int → Int} {l : List Int} {k : Nat} (h : k < l.length) : at0 (l.map f) k = f (at0 l k) := by
  refine at0_of ?_
  rw [List.getElem?_map, at0_nat h]; rfl

section
variable {j : Jn} {l : List Int}
theorem al_n : (aloneJ j l).n = l.length := by simp [Jn.n, aloneJ]
theorem al_strm {a : Nat} (h : a < l.length) : strm (aloneJ j l) a = strm j (at0 l a) := by
  have e : (aloneJ j l).Streams = l.map (strm j) := rfl
  conv => lhs; unfold strm
  rw [e, Int.toNat_natCast, List.getElem?_map, at0_nat h]; rfl
theorem al_row {a : Nat} (h : a < l.length) : rowAt (aloneJ j l).Clears a = l.map (clr j (at0 l a)) := by
  refine rowAt_of ?_
  show (l.map fun a => l.map (clr j a))[a]? = _
  rw [List.getElem?_map, at0_nat h]; rfl
theorem al_clr {a b : Nat} (ha : a < l.length) (hb : b < l.length) : clr (aloneJ j l) a b = clr j (at0 l a) (at0 l b) := by
  unfold clr
  rw [al_row ha, at0_map hb]; rfl
theorem al_phase {i : Nat} (h : i < l.length) : rowAt (aloneJ j l).Phases i = [(i : Int)] := by
  refine rowAt_of ?_
  show ((List.range l.length).map fun (i : Nat) => [(i : Int)])[i]? = _
  rw [List.getElem?_map, List.getElem?_range h]; rfl
theorem al_long {i : Nat} (h : i < l.length) : at0 (aloneJ j l).Longest i = 600 := by
  refine at0_of ?_
  show (List.replicate l.length 600)[i]? = _
  rw [List.getElem?_replicate, if_pos h]
end

theorem alone_ok {j : Jn} (ho : JOk j) {l : List Int} (hto : touredB j l = true) : jnB (aloneJ j l) = true := by
  have hbd := toured_bd hto
  have hnd := toured_nodup hto
  have hm : ∀ a : Nat, a < l.length → 0 ≤ at0 l a ∧ at0 l a < j.n := fun a ha => hbd.2.2 _ (List.mem_of_getElem? (at0_nat ha))
  have hlen : (aloneJ j l).Clears.length = l.length ∧ (aloneJ j l).Phases.length = l.length ∧ (aloneJ j l).Longest.length = l.length := by simp [aloneJ]
  refine jnB_iff.2 ⟨by rw [al_n, inr_iff]; omega, by rw [al_n]; exact hlen.1, by rw [hlen.2.1, inr_iff]; omega, by rw [hlen.2.2, hlen.2.1], by show inr 0 0 20 = true; decide, by simp [aloneJ], fun a ha => ?_, fun a b ha hb => ?_, fun i hi => ?_, fun a ha => ?_, fun k g hg => ?_⟩
  · rw [al_n] at ha
    have := ho.strm _ (hm a ha).1 (hm a ha).2
    refine ⟨?_, by rw [al_row ha, al_n]; simp⟩
    rw [al_strm ha]
    simp only [strmB, Bool.and_eq_true, inr_iff]
    omega
  · rw [al_n] at ha hb
    have h1 := ho.cl _ _ (hm a ha).1 (hm a ha).2 (hm b hb).1 (hm b hb).2
    simp only [cellB, al_clr ha hb, al_clr hb ha, Bool.and_eq_true, Bool.not_eq_true', inr_iff, beq_iff_eq, decide_eq_decide]
    refine ⟨⟨⟨h1.1, h1.2.1⟩, ?_⟩, h1.2.2.2⟩
    by_cases hab : a = b
    · subst hab
      rw [h1.2.2.1 rfl]; simp
    · simp [hab]
  · rw [hlen.2.1] at hi
    rw [al_phase hi, al_long hi]
    refine ⟨by simp, ?_, by decide, fun k hk => ?_⟩
    · simp only [risB, List.all_eq_true, List.mem_range, List.length_singleton]
      intro k hk
      have hk0 : k = 0 := by omega
      subst hk0
      have e : at0 [(i : Int)] ((0 : Nat) : Int) = i := rfl
      simp only [riseEl, e, al_n, Bool.and_eq_true, inr_iff]
      exact ⟨by omega, by simp⟩
    · have hk0 : k = 0 := by simp at hk; omega
      subst hk0
      have e : at0 [(i : Int)] ((0 : Nat) : Int) = i := rfl
      simp only [leastEl, e, Bool.and_eq_true, decide_eq_true_eq]
      rw [al_strm hi]
      have := ho.strm _ (hm i hi).1 (hm i hi).2
      exact ⟨by omega, by simp⟩
  · rw [al_n] at ha
    refine List.mem_flatten.2 ⟨[(a : Int)], ?_, by simp⟩
    exact List.mem_map.2 ⟨a, List.mem_range.2 ha, rfl⟩
  · simp [aloneJ] at hg

/-- So far around the tour. -/
def cyc (j : Jn) (B : List Int) (q : Nat) : Nat → Int
  | 0 => 0
  | d + 1 => cyc j B q d + partI j B ((q + d) % B.length)
theorem cyc_len {j : Jn} {B : List Int} {q : Nat} : ∀ d, q + d ≤ B.length → cyc j B q d = lenTo j B (q + d) - lenTo j B q
  | 0, _ => by simp [cyc]
  | d + 1, h => by
    rw [cyc, cyc_len d (by omega), Nat.mod_eq_of_lt (by omega), ← Nat.add_assoc, lenTo]; omega
theorem cyc_wrap {j : Jn} {B : List Int} {q : Nat} (hq : q < B.length) : ∀ i, i ≤ q → cyc j B q (B.length - q + i) = lenF j B - lenTo j B q + lenTo j B i
  | 0, _ => by
    rw [Nat.add_zero, cyc_len _ (by omega), show q + (B.length - q) = B.length by omega]
    simp [lenF, lenTo]
  | i + 1, h => by
    rw [show B.length - q + (i + 1) = (B.length - q + i) + 1 by omega, cyc, cyc_wrap hq i (by omega)]
    rw [show q + (B.length - q + i) = B.length + i by omega, Nat.add_mod_left, Nat.mod_eq_of_lt (by omega)]
    simp only [lenTo]; omega

section
variable {j : Jn} (ho : JOk j) {l : List Int} (hto : touredB j l = true) (hnear : NearP j l) {B : List Int} (hBn : B.Nodup) (hBl : B.length = l.length) (hBm : ∀ x ∈ B, x ∈ l)
include ho hto hnear hBn hBl hBm
omit ho hto hBn hBl hBm in
theorem near_el {a b c : Int} (ha : a ∈ l) (hb : b ∈ l) (hc : c ∈ l) (hab : a ≠ b) (hbc : b ≠ c) (hac : a ≠ c) : clr j a c ≤ clr j a b + (strm j b).Least + clr j b c := by
  obtain ⟨x, hx⟩ := List.getElem?_of_mem ha
  obtain ⟨y, hy⟩ := List.getElem?_of_mem hb
  obtain ⟨z, hz⟩ := List.getElem?_of_mem hc
  have hxl := (List.getElem?_eq_some_iff.1 hx).1
  have hyl := (List.getElem?_eq_some_iff.1 hy).1
  have hzl := (List.getElem?_eq_some_iff.1 hz).1
  have := hnear x y z hxl hyl hzl (by rintro rfl; rw [hx] at hy; simp at hy; exact hab hy) (by rintro rfl; rw [hy] at hz; simp at hz; exact hbc hz) (by rintro rfl; rw [hx] at hz; simp at hz; exact hac hz)
  rwa [at0_of hx, at0_of hy, at0_of hz] at this
omit ho hto hnear hBl hBm in
theorem B_ne {p q : Nat} (hp : p < B.length) (hq : q < B.length) (h : p ≠ q) : at0 B p ≠ at0 B q := by
  intro e
  exact h ((List.getElem?_inj (l := B) hp hBn).1 (by rw [at0_nat hp, at0_nat hq, e]))
omit ho hto hnear hBn hBl in
theorem B_mem {p : Nat} (hp : p < B.length) : at0 B p ∈ l := hBm _ (List.mem_of_getElem? (at0_nat hp))
omit ho hto in
theorem cyc_near {q : Nat} (hq : q < B.length) : ∀ d, d + 1 < B.length → (strm j (at0 B q)).Least + clr j (at0 B q) (at0 B ((q + (d + 1)) % B.length : Nat)) ≤ cyc j B q (d + 1)
  | 0, h => by
    simp only [cyc, Nat.add_zero, Nat.zero_add]
    rw [Nat.mod_eq_of_lt hq]
    simp only [partI, nxtI]
    omega
  | d + 1, h => by
    have ih := cyc_near hq d (by omega)
    have hm : ∀ k, k % B.length < B.length := fun k => Nat.mod_lt _ (by omega)
    have ha := B_mem hBm hq
    have hb := B_mem hBm (hm (q + (d + 1)))
    have hc := B_mem hBm (hm (q + (d + 1 + 1)))
    have hmod : ∀ e, 0 < e → e < B.length → (q + e) % B.length ≠ q := by
      intro e h1 h2 h3
      rcases Nat.lt_or_ge (q + e) B.length with h4 | h4
      · rw [Nat.mod_eq_of_lt h4] at h3; omega
      · rw [Nat.mod_eq_sub_mod h4, Nat.mod_eq_of_lt (by omega)] at h3; omega
    have hne2 : (q + (d + 1)) % B.length ≠ (q + (d + 1 + 1)) % B.length := by
      intro h3
      have e1 : (q + (d + 1 + 1)) % B.length = ((q + (d + 1)) % B.length + 1) % B.length := by rw [Nat.mod_add_mod]; rfl
      have h4 := hm (q + (d + 1))
      rw [e1] at h3
      rcases Nat.lt_or_ge ((q + (d + 1)) % B.length + 1) B.length with h5 | h5
      · rw [Nat.mod_eq_of_lt h5] at h3; omega
      · rw [show (q + (d + 1)) % B.length + 1 = B.length by omega, Nat.mod_self] at h3; omega
    have hab := B_ne hBn hq (hm (q + (d + 1))) (fun e => hmod (d + 1) (by omega) (by omega) e.symm)
    have hac := B_ne hBn hq (hm (q + (d + 1 + 1))) (fun e => hmod (d + 1 + 1) (by omega) (by omega) e.symm)
    have hbc := B_ne hBn (hm (q + (d + 1))) (hm (q + (d + 1 + 1))) hne2
    have hn := near_el hnear ha hb hc hab hbc hac
    rw [cyc]
    have hp : partI j B ((q + (d + 1)) % B.length) = (strm j (at0 B ((q + (d + 1)) % B.length : Nat))).Least + clr j (at0 B ((q + (d + 1)) % B.length : Nat)) (at0 B ((q + (d + 1 + 1)) % B.length : Nat)) := by
      unfold partI nxtI
      rw [Nat.mod_add_mod]; rfl
    rw [hp]
    omega
omit ho hto in
/-- Two streams of the tour, one behind the other. -/
theorem tour_two {p q : Nat} (hpq : p < q) (hq : q < B.length) :
    (strm j (at0 B p)).Least + clr j (at0 B p) (at0 B q) ≤ lenTo j B q - lenTo j B p ∧ (strm j (at0 B q)).Least + clr j (at0 B q) (at0 B p) ≤ lenF j B - (lenTo j B q - lenTo j B p) := by
  have h1 := cyc_near hnear hBn hBl hBm (q := p) (by omega) (q - p - 1) (by omega)
  rw [show q - p - 1 + 1 = q - p by omega, show p + (q - p) = q by omega, Nat.mod_eq_of_lt hq, cyc_len _ (by omega), show p + (q - p) = q by omega] at h1
  have h2 := cyc_near hnear hBn hBl hBm (q := q) hq (B.length - q + p - 1) (by omega)
  rw [show B.length - q + p - 1 + 1 = B.length - q + p by omega, cyc_wrap hq p (by omega), show q + (B.length - q + p) = B.length + p by omega, Nat.add_mod_left, Nat.mod_eq_of_lt (by omega)] at h2
  omega
omit hnear in
theorem part_ge {k : Nat} (hk : k < B.length) : (strm j (at0 B k)).Least ≤ partI j B k ∧ 1 ≤ (strm j (at0 B k)).Least := by
  have hbd := toured_bd hto
  have ha := B_mem hBm hk
  have hm : (k + 1) % B.length < B.length := Nat.mod_lt _ (by omega)
  have hb := B_mem hBm hm
  have hne : k ≠ (k + 1) % B.length := by
    rcases Nat.lt_or_ge (k + 1) B.length with h | h
    · rw [Nat.mod_eq_of_lt h]; omega
    · rw [show k + 1 = B.length by omega, Nat.mod_self]; omega
  have := clr_nn ho hto ha hb (B_ne hBn hk hm hne)
  have hs := ho.strm _ (hbd.2.2 _ ha).1 (hbd.2.2 _ ha).2
  unfold partI nxtI
  omega
omit hnear in
theorem lenTo_mono {k : Nat} : ∀ d, k + d ≤ B.length → lenTo j B k ≤ lenTo j B (k + d)
  | 0, _ => Int.le_refl _
  | d + 1, h => by
    have := lenTo_mono (k := k) d (by omega)
    have h2 := part_ge ho hto hBn hBl hBm (k := k + d) (by omega)
    rw [← Nat.add_assoc, lenTo]; omega

theorem alone_right (hris : risB l j.n = true) : RightP (aloneJ j l) (spreadP j B) := by
  have hbd := toured_bd hto
  have hnd := toured_nodup hto
  have hlB : ∀ x, x ∈ l → x ∈ B := by
    intro x hx
    by_cases h : x ∈ B
    · exact h
    · exfalso
      have h1 : (x :: B).Nodup := List.nodup_cons.2 ⟨h, hBn⟩
      have := nodup_len h1 (l := l) (fun y hy => by rcases List.mem_cons.1 hy with rfl | hy; exact hx; exact hBm y hy)
      simp at this; omega
  have hstrict : l.Pairwise (· < ·) := by
    simp only [risB, List.all_eq_true, List.mem_range, riseEl, Bool.and_eq_true, Bool.not_eq_true', Bool.and_eq_false_iff, decide_eq_false_iff_not] at hris
    have step : ∀ i : Nat, i + 1 < l.length → at0 l i < at0 l (i + 1 : Nat) := by
      intro i hi
      have := (hris (i + 1) hi).2
      simp only [Nat.add_sub_cancel] at this
      omega
    have mono : ∀ a d : Nat, a + (d + 1) < l.length → at0 l a < at0 l (a + (d + 1) : Nat) := by
      intro a d
      induction d with
      | zero => exact step a
      | succ d ih =>
        intro h
        have h1 := ih (by omega)
        have h2 := step (a + (d + 1)) (by omega)
        have e : a + (d + 1) + 1 = a + (d + 1 + 1) := by omega
        rw [e] at h2
        omega
    refine List.pairwise_iff_getElem.2 fun a b ha hb hab => ?_
    have := mono a (b - a - 1) (by omega)
    rw [show a + (b - a - 1 + 1) = b by omega] at this
    rw [← at0_of (List.getElem?_eq_getElem ha), ← at0_of (List.getElem?_eq_getElem hb)]
    exact this
  have hsrt : srt B = l := strict_ext (srt_strict hBn) hstrict fun x => by rw [srt_mem]; exact ⟨hBm x, hlB x⟩
  have eB : ∀ a : Nat, a < l.length → at0 (spreadP j B).Begins a = begF j B (at0 l a) := by
    intro a ha
    show at0 ((srt B).map (begF j B)) a = _
    rw [hsrt, at0_map ha]
  have eL : ∀ a : Nat, a < l.length → at0 (spreadP j B).Lasts a = (strm j (at0 l a)).Least := by
    intro a ha
    show at0 ((srt B).map fun s => (strm j s).Least) a = _
    rw [hsrt, at0_map ha]
  have eC : (spreadP j B).Cycle = lenF j B := rfl
  have pos : ∀ a : Nat, a < l.length → ∃ p, p < B.length ∧ at0 B p = at0 l a ∧ begF j B (at0 l a) = lenTo j B p := by
    intro a ha
    obtain ⟨p, hp⟩ := List.getElem?_of_mem (hlB _ (List.mem_of_getElem? (at0_nat ha)))
    exact ⟨p, (List.getElem?_eq_some_iff.1 hp).1, at0_of hp, by unfold begF; rw [idx_at hBn hp]⟩
  have ends : ∀ p : Nat, p < B.length → 0 ≤ lenTo j B p ∧ lenTo j B p + (strm j (at0 B p)).Least ≤ lenF j B := by
    intro p hp
    have h1 := part_ge ho hto hBn hBl hBm hp
    have h2 := lenTo_mono ho hto hBn hBl hBm (k := p + 1) (B.length - (p + 1)) (by omega)
    have h3 := lenTo_mono ho hto hBn hBl hBm (k := 0) p (by omega)
    rw [show p + 1 + (B.length - (p + 1)) = B.length by omega] at h2
    rw [Nat.zero_add] at h3
    have e : lenTo j B (p + 1) = lenTo j B p + partI j B p := rfl
    have e0 : lenTo j B 0 = 0 := rfl
    unfold lenF
    omega
  have hC1 : 1 ≤ lenF j B ∧ lenF j B ≤ 2000 := by
    have h1 := ends 0 (by omega)
    have h2 := part_ge ho hto hBn hBl hBm (k := 0) (by omega)
    have h3 := lenTo_bd ho (l := B) (fun x hx => hbd.2.2 x (hBm x hx)) B.length (Nat.le_refl _)
    unfold lenF at h1 ⊢
    omega
  refine ⟨⟨by rw [eC, inr_iff]; exact hC1, by simp [spreadP, srt_len, al_n, hBl], by simp [spreadP, srt_len, al_n, hBl], fun a ha => ?_⟩, fun a ha => ?_, fun a b ha hb hc => ?_⟩
  · rw [al_n] at ha
    obtain ⟨p, hp, e1, e2⟩ := pos a ha
    have h1 := ends p hp
    have h2 := (part_ge ho hto hBn hBl hBm hp).2
    rw [e1] at h1 h2
    rw [eB a ha, eL a ha, e2, eC]
    simp only [inr_iff]
    omega
  · rw [al_n] at ha
    rw [al_strm ha, eL a ha]; exact Int.le_refl _
  · rw [al_n] at ha hb
    have hcc : 0 ≤ clr j (at0 l a) (at0 l b) := by rw [← al_clr ha hb]; simpa [conf] using hc
    have hmA := List.mem_of_getElem? (at0_nat ha)
    have hmB := List.mem_of_getElem? (at0_nat hb)
    have hne : at0 l a ≠ at0 l b := by
      intro e
      have := hbd.2.2 _ hmA
      rw [← e, (ho.cl _ _ this.1 this.2 this.1 this.2).2.2.1 rfl] at hcc
      omega
    have hcb := clr_nn ho hto hmB hmA (fun e => hne e.symm)
    obtain ⟨p, hp, p1, p2⟩ := pos a ha
    obtain ⟨q, hq, q1, q2⟩ := pos b hb
    have sA := (part_ge ho hto hBn hBl hBm hp).2
    have sB := (part_ge ho hto hBn hBl hBm hq).2
    rw [p1] at sA
    rw [q1] at sB
    have both : ∀ {x y : Nat} {u v : Int}, (strm j u).Least + clr j u v ≤ lenTo j B y - lenTo j B x → (strm j v).Least + clr j v u ≤ lenF j B - (lenTo j B y - lenTo j B x) → 0 ≤ clr j u v → 0 ≤ clr j v u → 1 ≤ (strm j u).Least → 1 ≤ (strm j v).Least →
        (lenTo j B y - lenTo j B x - (strm j u).Least) % lenF j B = lenTo j B y - lenTo j B x - (strm j u).Least ∧ (lenTo j B x - lenTo j B y - (strm j v).Least) % lenF j B = lenF j B - (lenTo j B y - lenTo j B x) - (strm j v).Least := by
      intro x y u v h1 h2 h3 h4 h5 h6
      refine ⟨Int.emod_eq_of_lt (by omega) (by omega), ?_⟩
      rw [← Int.add_emod_right]
      rw [show lenTo j B x - lenTo j B y - (strm j v).Least + lenF j B = lenF j B - (lenTo j B y - lenTo j B x) - (strm j v).Least by omega]
      exact Int.emod_eq_of_lt (by omega) (by omega)
    rw [al_clr ha hb]
    unfold gapF
    rw [eB a ha, eB b hb, eL a ha, eL b hb, p2, q2, eC]
    rcases Nat.lt_trichotomy p q with h | h | h
    · obtain ⟨t1, t2⟩ := tour_two hnear hBn hBl hBm h hq
      rw [p1, q1] at t1 t2
      obtain ⟨b1, b2⟩ := both t1 t2 hcc hcb sA sB
      rw [b1, b2]
      omega
    · exfalso
      apply hne
      rw [← p1, ← q1, h]
    · obtain ⟨t1, t2⟩ := tour_two hnear hBn hBl hBm h hp
      rw [p1, q1] at t1 t2
      obtain ⟨b1, b2⟩ := both t1 t2 hcb hcc sB sA
      rw [b1, b2]
      omega
end
end Go.Street
