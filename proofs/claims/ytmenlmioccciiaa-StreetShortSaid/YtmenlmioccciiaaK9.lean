/- Plain law: no right program is shorter than the shortest tour, and the program of a tour is right where no way by a third one is shorter. -/
import Derived.Test.YtmenlmioccciiaaK7
import Derived.Test.YtmenlmioccciiaaZO
namespace Go.Street
open Go.AM Go.Proofs
set_option maxRecDepth 10000
set_option maxHeartbeats 4000000
set_option linter.unusedVariables false
set_option linter.unusedSimpArgs false

theorem toursF_has {l T : List Int} (hT : T.Nodup) (hs : ∀ x ∈ T, x ∈ l) (hl : T.length = l.length) : ∀ (r b : List Int) (n : Nat), T = b ++ r → r.length ≤ n → T ∈ toursF l n b
  | [], b, n, h, _ => by
    rw [List.append_nil] at h
    subst h
    rw [toursF_full hl]; simp
  | x :: r, b, n, h, hn => by
    obtain ⟨n, rfl⟩ : ∃ m, n = m + 1 := ⟨n - 1, by simp at hn; omega⟩
    have hlen : T.length = b.length + (r.length + 1) := by rw [h]; simp
    rw [toursF_more (by omega)]
    have hxb : x ∉ b := by
      intro hx
      rw [h, List.nodup_append] at hT
      exact hT.2.2 x hx x (by simp) rfl
    exact List.mem_flatMap.2 ⟨x, hs x (by rw [h]; simp), by
      rw [if_neg hxb]
      exact toursF_has hT hs hl r (b ++ [x]) n (by rw [h, List.append_assoc]; rfl) (by simp at hn; omega)⟩
theorem bestL_le {j : Jn} {m : List (List Int)} {t : List Int} (h : t ∈ m) : lenF j (bestL j m) ≤ lenF j t := by
  have gen : ∀ (m : List (List Int)) (b : List Int), lenF j (m.foldl (betterF j) b) ≤ lenF j b ∧ ∀ t ∈ m, lenF j (m.foldl (betterF j) b) ≤ lenF j t := by
    intro m
    induction m with
    | nil => intro b; exact ⟨Int.le_refl _, by simp⟩
    | cons x m ih =>
      intro b
      rw [List.foldl_cons]
      obtain ⟨h1, h2⟩ := ih (betterF j b x)
      have e : lenF j (betterF j b x) ≤ lenF j b ∧ lenF j (betterF j b x) ≤ lenF j x := by unfold betterF; split <;> omega
      refine ⟨by omega, fun t ht => ?_⟩
      rcases List.mem_cons.1 ht with rfl | ht
      · omega
      · exact h2 t ht
  cases m with
  | nil => simp at h
  | cons x m =>
    obtain ⟨h1, h2⟩ := gen m x
    rcases List.mem_cons.1 h with rfl | h
    · exact h1
    · exact h2 t h

/-- When a stream's green begins, seen from another one's. -/
def keyF (p : Pg) (o x : Int) : Int := (at0 p.Begins x - at0 p.Begins o) % p.Cycle
theorem key_gap {j : Jn} {p : Pg} (h : RightP j p) {o a b : Int} (a0 : 0 ≤ a) (a1 : a < j.n) (b0 : 0 ≤ b) (b1 : b < j.n) (hc : conf j a b = true) (hk : keyF p o a ≤ keyF p o b) :
    at0 p.Lasts a + clr j a b ≤ keyF p o b - keyF p o a ∧ gapF p b a = p.Cycle - at0 p.Lasts b - (keyF p o b - keyF p o a) := by
  have hsm := h.pg.sm
  have hC := hsm.c
  have hab := h.cf a.toNat b.toNat (by omega) (by omega) (by rw [Int.toNat_of_nonneg a0, Int.toNat_of_nonneg b0]; exact hc)
  rw [Int.toNat_of_nonneg a0, Int.toNat_of_nonneg b0] at hab
  obtain ⟨h1, h2⟩ := hab
  have g1 := gapF_bd hsm a b
  have g2 := gapF_bd hsm b a
  have la := hsm.rl a a0 a1
  have lb := hsm.rl b b0 b1
  have k1 : 0 ≤ keyF p o a ∧ keyF p o a < p.Cycle := ⟨Int.emod_nonneg _ (by omega), Int.emod_lt_of_pos _ (by omega)⟩
  have k2 : 0 ≤ keyF p o b ∧ keyF p o b < p.Cycle := ⟨Int.emod_nonneg _ (by omega), Int.emod_lt_of_pos _ (by omega)⟩
  have e1 := Int.mul_ediv_add_emod (at0 p.Begins a - at0 p.Begins o) p.Cycle
  have e2 := Int.mul_ediv_add_emod (at0 p.Begins b - at0 p.Begins o) p.Cycle
  have hka : keyF p o a = (at0 p.Begins a - at0 p.Begins o) % p.Cycle := rfl
  have hkb : keyF p o b = (at0 p.Begins b - at0 p.Begins o) % p.Cycle := rfl
  rw [← hka] at e1
  rw [← hkb] at e2
  generalize keyF p o a = ka at e1 k1 hk
  generalize keyF p o b = kb at e2 k2 hk
  generalize (at0 p.Begins a - at0 p.Begins o) / p.Cycle = q1 at e1
  generalize (at0 p.Begins b - at0 p.Begins o) / p.Cycle = q2 at e2
  have e3 : at0 p.Begins b - at0 p.Begins a - at0 p.Lasts a = (kb - ka - at0 p.Lasts a) + p.Cycle * (q2 - q1) := by rw [Int.mul_sub]; omega
  have e4 : gapF p a b = (kb - ka - at0 p.Lasts a) % p.Cycle := by unfold gapF; rw [e3, Int.add_mul_emod_self_left]
  have hd : at0 p.Lasts a ≤ kb - ka := by
    rcases Int.lt_or_le (kb - ka) (at0 p.Lasts a) with hlt | hge
    · exfalso
      have e5 : gapF p a b = kb - ka - at0 p.Lasts a + p.Cycle := by
        rw [e4, ← Int.add_emod_right]
        exact Int.emod_eq_of_lt (by omega) (by omega)
      have e6 : at0 p.Begins a - at0 p.Begins b - at0 p.Lasts b = (ka - kb - at0 p.Lasts b) + p.Cycle * (q1 - q2) := by rw [Int.mul_sub]; omega
      have e7 : gapF p b a = (ka - kb - at0 p.Lasts b) % p.Cycle := by unfold gapF; rw [e6, Int.add_mul_emod_self_left]
      omega
    · exact hge
  have e5 : gapF p a b = kb - ka - at0 p.Lasts a := by rw [e4]; exact Int.emod_eq_of_lt (by omega) (by omega)
  omega

/-- No right program is shorter than the shortest tour. -/
theorem right_ge {j : Jn} (ho : JOk j) {p : Pg} (h : RightP j p) {l : List Int} (hto : touredB j l = true) (h6 : l.length ≤ 6) : lenF j (bestL j (toursF l 6 (l.take 1))) ≤ p.Cycle := by
  have hbd := toured_bd hto
  have hnd := toured_nodup hto
  have hsm := h.pg.sm
  have hC := hsm.c
  have g0 : l[0]? = some (at0 l 0) := at0_nat (l := l) (k := 0) (by omega)
  have et : l.take 1 = [at0 l 0] := by cases l with | nil => simp at g0 | cons x l => rfl
  have ho0 := List.mem_of_getElem? g0
  rw [et]
  generalize at0 l 0 = o at g0 et ho0 ⊢
  let le : Int → Int → Bool := fun a b => decide (keyF p o a ≤ keyF p o b)
  have hperm := List.mergeSort_perm l le
  have hsort := List.pairwise_mergeSort (le := le) (by intro a b c h1 h2; simp only [le, decide_eq_true_eq] at *; omega) (by intro a b; simp only [le, Bool.or_eq_true, decide_eq_true_eq]; omega) l
  generalize l.mergeSort le = T at hperm hsort
  have hTn : T.Nodup := hperm.nodup_iff.2 hnd
  have hTl : T.length = l.length := hperm.length_eq
  have hTm : ∀ x ∈ T, x ∈ l := fun x hx => hperm.mem_iff.1 hx
  have hk0 : keyF p o o = 0 := by unfold keyF; rw [Int.sub_self]; rfl
  have hknn : ∀ x, 0 ≤ keyF p o x := fun x => Int.emod_nonneg _ (by omega)
  have hg := List.pairwise_iff_getElem.1 hsort
  have gT : ∀ k : Nat, k < T.length → T[k]? = some (at0 T k) ∧ at0 T k ∈ l := fun k hk => ⟨at0_nat hk, hTm _ (List.mem_of_getElem? (at0_nat hk))⟩
  have hle : ∀ a b : Nat, a < b → b < T.length → keyF p o (at0 T a) ≤ keyF p o (at0 T b) := by
    intro a b hab hb
    have := hg a b (by omega) hb hab
    rw [← at0_of (List.getElem?_eq_getElem (show a < T.length by omega)), ← at0_of (List.getElem?_eq_getElem hb)] at this
    simpa [le] using this
  have hne : ∀ a b : Nat, a < T.length → b < T.length → a ≠ b → at0 T a ≠ at0 T b := by
    intro a b ha hb hab e
    exact hab ((List.getElem?_inj (l := T) ha hTn).1 (by rw [(gT a ha).1, (gT b hb).1, e]))
  -- its first one
  have hT0 : at0 T 0 = o := by
    obtain ⟨i, hi⟩ := List.getElem?_of_mem (hperm.mem_iff.2 ho0)
    have hil := (List.getElem?_eq_some_iff.1 hi).1
    rcases Nat.eq_zero_or_pos i with h0 | h0
    · subst h0; exact at0_of hi
    · exfalso
      have h1 := hle 0 i h0 hil
      rw [at0_of hi, hk0] at h1
      have hm0 := (gT 0 (by omega)).2
      have hb0 := hbd.2.2 _ hm0
      have hbo := hbd.2.2 _ ho0
      have hn := hne 0 i (by omega) hil (by omega)
      rw [at0_of hi] at hn
      have hcf := toured_conf ho hto ho0 hm0 (fun e => hn e.symm)
      have h3 := hknn (at0 T 0)
      have h2 := key_gap h (o := o) hbo.1 hbo.2 hb0.1 hb0.2 hcf (by rw [hk0]; omega)
      have := hsm.rl o hbo.1 hbo.2
      have hcn := clr_nn ho hto ho0 hm0 (fun e => hn e.symm)
      rw [hk0] at h2
      have := h2.1
      omega
  -- the length so far is not more than the time
  have hsum : ∀ k : Nat, k < T.length → lenTo j T k ≤ keyF p o (at0 T k) := by
    intro k
    induction k with
    | zero => intro _; simp only [lenTo]; exact hknn _
    | succ k ih =>
      intro hk
      have h1 := ih (by omega)
      have ha := (gT k (by omega)).2
      have hb := (gT (k + 1) hk).2
      have hab := hne k (k + 1) (by omega) hk (by omega)
      have hA := hbd.2.2 _ ha; have hB := hbd.2.2 _ hb
      have hcf := toured_conf ho hto ha hb hab
      have h2 := (key_gap h (o := o) hA.1 hA.2 hB.1 hB.2 hcf (hle k (k + 1) (by omega) hk)).1
      have h3 := h.ls (at0 T k).toNat (by omega)
      rw [Int.toNat_of_nonneg hA.1] at h3
      simp only [lenTo, partI, nxtI]
      rw [Nat.mod_eq_of_lt hk]
      omega
  obtain ⟨n, hn⟩ : ∃ n, T.length = n + 1 := ⟨T.length - 1, by omega⟩
  have hfin : lenF j T ≤ p.Cycle := by
    unfold lenF
    rw [hn]
    have h1 := hsum n (by omega)
    have ha := (gT n (by omega)).2
    have hA := hbd.2.2 _ ha; have hO := hbd.2.2 _ ho0
    have hno := hne n 0 (by omega) (by omega) (by omega)
    have e00 : at0 T ((0 : Nat) : Int) = o := hT0
    rw [e00] at hno
    have hcf := toured_conf ho hto ho0 ha (fun e => hno e.symm)
    have h2 := key_gap h (o := o) hO.1 hO.2 hA.1 hA.2 hcf (by rw [hk0]; exact hknn _)
    have h3 := h.ls (at0 T n).toNat (by omega)
    rw [Int.toNat_of_nonneg hA.1] at h3
    have h4 := h.cf (at0 T n).toNat o.toNat (by omega) (by omega) (by rw [Int.toNat_of_nonneg hA.1, Int.toNat_of_nonneg hO.1, conf_symm ho hA.1 hA.2 hO.1 hO.2]; exact hcf)
    rw [Int.toNat_of_nonneg hA.1, Int.toNat_of_nonneg hO.1] at h4
    rw [hk0] at h2
    simp only [lenTo, partI, nxtI]
    rw [hn, Nat.mod_self, e00]
    omega
  refine Int.le_trans (bestL_le (t := T) ?_) hfin
  have hTc : T = [o] ++ T.tail := by
    cases T with
    | nil => simp at hn
    | cons x T => have e : x = o := hT0; rw [e]; rfl
  exact toursF_has hTn hTm hTl T.tail [o] 6 hTc (by rw [List.length_tail]; omega)
end Go.Street
