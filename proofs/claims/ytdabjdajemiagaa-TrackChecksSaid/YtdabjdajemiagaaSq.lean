/- The float's square root of a whole number, by magnitude only: enough for a root that is set right behind it. No condition. -/
import Derived.Laws.FloatArith
import GoSem.Extern.MathSqrt
namespace Go.Sq
open Ieee
set_option maxRecDepth 4000
set_option linter.unusedVariables false
set_option linter.unusedSimpArgs false

theorem read_big {q r : Nat} (hq : 1 ≤ q) (hq2 : q < 2047) (hr : r < 4503599627370496) : double.read (q * 4503599627370496 + r) = .number false (4503599627370496 + r) (double.leastPlace + (q - 1 : Nat)) := by
  have hb : double.binade = 4503599627370496 := by decide
  have hs : double.signWeight = 9223372036854775808 := by decide
  have hi : double.infRung = 2047 * 4503599627370496 := by decide
  unfold Format.read
  rw [hb, hs, hi]
  have h1 : q * 4503599627370496 + r < 9223372036854775808 := by omega
  rw [Nat.mod_eq_of_lt h1, Nat.div_eq_of_lt h1]
  have h2 : ¬ q * 4503599627370496 + r < 4503599627370496 := by omega
  have h3 : q * 4503599627370496 + r < 2047 * 4503599627370496 := by omega
  have h4 : (q * 4503599627370496 + r) / 4503599627370496 = q := by omega
  have h5 : (q * 4503599627370496 + r) % 4503599627370496 = r := by omega
  simp only [h2, h3, if_true, if_false, h4, h5]
  simp

/-- A cut to 53 digits keeps at most 2^53. -/
theorem cut_le {n drop : Nat} (h : n < 2 ^ (53 + drop)) : Toward.even.cut false n drop ≤ 2 ^ 53 := by
  unfold Toward.cut
  simp only [Nat.shiftLeft_eq, Nat.one_mul]
  by_cases hd : drop ≤ n.log2 + 2
  · rw [Nat.min_eq_left hd]
    have hlow : n / 2 ^ drop < 2 ^ 53 := by rw [Nat.div_lt_iff_lt_mul (Nat.two_pow_pos _), ← Nat.pow_add]; exact h
    have : ∀ b : Bool, b.toNat ≤ 1 := by intro b; cases b <;> simp
    refine Nat.le_trans (Nat.add_le_add_left (this _) _) hlow
  · rw [Nat.min_eq_right (by omega)]
    have hlt : n < 2 ^ (n.log2 + 2) := Nat.lt_of_lt_of_le (Nat.lt_log2_self) (Nat.pow_le_pow_right (by omega) (by omega))
    rw [Nat.div_eq_of_lt hlt]
    have : ∀ b : Bool, b.toNat ≤ 1 := by intro b; cases b <;> simp
    exact Nat.le_trans (Nat.add_le_add_left (this _) _) (by decide)

theorem cut_none (n : Nat) : Toward.even.cut false n 0 = n := by
  unfold Toward.cut
  simp [Nat.mod_one]

theorem cut_zero_le (n drop : Nat) : Toward.zero.cut false n drop ≤ n / 2 ^ drop := by
  unfold Toward.cut
  simp only [Nat.shiftLeft_eq, Nat.one_mul, Bool.toNat_false, Nat.add_zero]
  by_cases hd : drop ≤ n.log2 + 2
  · rw [Nat.min_eq_left hd]; exact Nat.le_refl _
  · rw [Nat.min_eq_right (by omega)]
    have hlt : n < 2 ^ (n.log2 + 2) := Nat.lt_of_lt_of_le (Nat.lt_log2_self) (Nat.pow_le_pow_right (by omega) (by omega))
    rw [Nat.div_eq_of_lt hlt]; exact Nat.zero_le _

theorem rootFrom_sq (n : Nat) : ∀ todo root, root * root ≤ n → Datum.rootFrom n todo root * Datum.rootFrom n todo root ≤ n
  | 0, root, h => by simpa [Datum.rootFrom] using h
  | todo + 1, root, h => by
    simp only [Datum.rootFrom]
    refine rootFrom_sq n todo _ ?_
    split
    · assumption
    · exact h

/-- What a whole number is as a float. -/
theorem read_nat {n : Nat} (h1 : 1 ≤ n) (h2 : n < 2 ^ 53) : ∃ m : Nat, ∃ e : Int, double.read (double.write (.number false n 0)) = .number false m e ∧ 2 ^ 52 ≤ m ∧ m < 2 ^ 53 ∧ e = (n.log2 : Int) - 52 := by
  have hn : n ≠ 0 := by omega
  have hL : n.log2 < 53 := (Nat.log2_lt hn).2 h2
  have hlo := Nat.log2_self_le hn
  have hhi := @Nat.lt_log2_self n
  have hlp : double.leastPlace = -1074 := by decide
  have hb : double.binade = 4503599627370496 := by decide
  have hi : double.infRung = 2047 * 4503599627370496 := by decide
  have hf : double.fractionBits = 52 := rfl
  refine ⟨n * 2 ^ (52 - n.log2), (n.log2 : Int) - 52, ?_, ?_, ?_, rfl⟩
  · simp only [Format.write, Format.nearest, hn, if_false, hf, hlp, hi, hb]
    have hmax : max ((0 : Int) + (n.log2 : Int) - (52 : Nat)) (-1074) = (n.log2 : Int) - 52 := by omega
    rw [hmax]
    have e1 : ((0 : Int) - ((n.log2 : Int) - 52)).toNat = 52 - n.log2 := by omega
    have e2 : (((n.log2 : Int) - 52) - 0).toNat = 0 := by omega
    have e3 : (((n.log2 : Int) - 52) - -1074).toNat = n.log2 + 1022 := by omega
    rw [e1, e2, e3, cut_none, Nat.shiftLeft_eq]
    have hk1 : 2 ^ 52 ≤ n * 2 ^ (52 - n.log2) := by
      have := Nat.mul_le_mul_right (2 ^ (52 - n.log2)) hlo
      rw [← Nat.pow_add] at this
      rwa [show n.log2 + (52 - n.log2) = 52 by omega] at this
    have hk2 : n * 2 ^ (52 - n.log2) < 2 ^ 53 := by
      have := Nat.mul_lt_mul_of_pos_right hhi (Nat.two_pow_pos (52 - n.log2))
      rw [← Nat.pow_add] at this
      rwa [show n.log2 + 1 + (52 - n.log2) = 53 by omega] at this
    generalize n * 2 ^ (52 - n.log2) = k at hk1 hk2 ⊢
    rw [Nat.min_eq_left (by omega)]
    have hq : (n.log2 + 1022) * 4503599627370496 + k = (n.log2 + 1023) * 4503599627370496 + (k - 4503599627370496) := by omega
    simp only [Format.word, Bool.false_eq_true, if_false]
    rw [hq, read_big (by omega) (by omega) (by omega), hlp]
    rw [show 4503599627370496 + (k - 4503599627370496) = k by omega, show (-1074 : Int) + ((n.log2 + 1023 - 1 : Nat) : Int) = (n.log2 : Int) - 52 by omega]
  · have := Nat.mul_le_mul_right (2 ^ (52 - n.log2)) hlo
    rw [← Nat.pow_add] at this
    rwa [show n.log2 + (52 - n.log2) = 52 by omega] at this
  · have := Nat.mul_lt_mul_of_pos_right hhi (Nat.two_pow_pos (52 - n.log2))
    rw [← Nat.pow_add] at this
    rwa [show n.log2 + 1 + (52 - n.log2) = 53 by omega] at this

/-- What is written of a number comes back not greater than twice as great. -/
theorem read_write {m : Nat} {e : Int} (h1 : 1 ≤ m) (hm : m < 2 ^ 60) (he : -100 ≤ e) (he2 : e ≤ 100) : ∃ (k : Nat) (d : Int), double.read (double.write (.number false m e)) = .number false k d ∧ k ≤ 2 ^ 53 ∧ d ≤ e + (m.log2 : Int) - 51 ∧ -1000 ≤ d := by
  have hn : m ≠ 0 := by omega
  have hL : m.log2 < 60 := (Nat.log2_lt hn).2 hm
  have hhi := @Nat.lt_log2_self m
  have hlp : double.leastPlace = -1074 := by decide
  have hb : double.binade = 4503599627370496 := by decide
  have hi : double.infRung = 2047 * 4503599627370496 := by decide
  have hf : double.fractionBits = 52 := rfl
  simp only [Format.write, Format.nearest, hn, if_false, hf, hlp, hi, hb]
  have hmax : max (e + (m.log2 : Int) - (52 : Nat)) (-1074) = e + (m.log2 : Int) - 52 := by omega
  rw [hmax]
  have hkept : Toward.even.cut false (m <<< (e - (e + (m.log2 : Int) - 52)).toNat) ((e + (m.log2 : Int) - 52) - e).toNat ≤ 2 ^ 53 := by
    refine cut_le ?_
    rw [Nat.shiftLeft_eq]
    have := Nat.mul_lt_mul_of_pos_right hhi (Nat.two_pow_pos (e - (e + (m.log2 : Int) - 52)).toNat)
    rw [← Nat.pow_add] at this
    refine Nat.lt_of_lt_of_le this (Nat.pow_le_pow_right (by omega) ?_)
    omega
  generalize Toward.even.cut false (m <<< (e - (e + (m.log2 : Int) - 52)).toNat) ((e + (m.log2 : Int) - 52) - e).toNat = k at hkept
  obtain ⟨q, hq⟩ : ∃ q : Nat, (e + (m.log2 : Int) - 52 - -1074).toNat = q := ⟨_, rfl⟩
  rw [hq]
  have hq1 : (q : Int) = e + (m.log2 : Int) + 1022 := by omega
  rw [Nat.min_eq_left (by omega)]
  simp only [Format.word, Bool.false_eq_true, if_false]
  have hkq : q * 4503599627370496 + k = (q + k / 4503599627370496) * 4503599627370496 + k % 4503599627370496 := by omega
  rw [hkq, read_big (by omega) (by omega) (by omega), hlp]
  refine ⟨_, _, rfl, by omega, by omega, by omega⟩

theorem sqrt_bd {n : Nat} (h : n < 2 ^ 50) : ∃ r x : Nat, FloatKind.f64.format.sqrt (FloatKind.f64.nearest n) = some r ∧ floatToIntVal .f64 r .i64 = some (x : Int) ∧ x ≤ 2 ^ 30 := by
  have hfm : FloatKind.f64.format = double := rfl
  by_cases h0 : n = 0
  · subst h0
    exact ⟨0, 0, by decide, by decide, by decide⟩
  have hne : FloatKind.f64.nearest (n : Int) = double.write (.number false n 0) := by
    simp only [FloatKind.nearest, FloatKind.encode, hfm, Int.natAbs_natCast]
    congr 1
  obtain ⟨m, e, hr, hm1, hm2, he⟩ := read_nat (n := n) (by omega) (Nat.lt_trans h (by decide))
  have hL : n.log2 < 50 := (Nat.log2_lt h0).2 h
  have hmne : m ≠ 0 := by omega
  have hml : m.log2 = 52 := by
    have a1 : m.log2 < 53 := (Nat.log2_lt hmne).2 hm2
    have a2 : 52 ≤ m.log2 := (Nat.le_log2 hmne).2 hm1
    omega
  have hf : double.fractionBits = 52 := rfl
  rw [hne, hfm]
  simp only [Format.sqrt, hr, hf, Datum.root, hmne, if_false, hml, Bool.false_eq_true]
  obtain ⟨t, ht⟩ : ∃ t : Nat, 2 * (52 + 2) - 52 + ((e - ((2 * (52 + 2) - 52 : Nat) : Int)) % 2).toNat = t := ⟨_, rfl⟩
  rw [ht]
  have ht1 : 56 ≤ t ∧ t ≤ 57 := by omega
  obtain ⟨w, hw⟩ : ∃ w, Datum.rootFrom (m <<< t) ((m <<< t).log2 / 2 + 1) 0 = w := ⟨_, rfl⟩
  have hws : w * w ≤ m <<< t := by rw [← hw]; exact rootFrom_sq _ _ _ (Nat.zero_le _)
  rw [hw]
  have hN : m <<< t < 2 ^ 110 := by
    rw [Nat.shiftLeft_eq]
    have := Nat.mul_lt_mul_of_pos_right hm2 (Nat.two_pow_pos t)
    rw [← Nat.pow_add] at this
    exact Nat.lt_of_lt_of_le this (Nat.pow_le_pow_right (by omega) (by omega))
  have hw55 : w < 2 ^ 55 := by
    rcases Nat.lt_or_ge w (2 ^ 55) with h | h
    · exact h
    · have := Nat.mul_le_mul h h
      rw [← Nat.pow_add] at this
      omega
  have hNpos : 0 < m <<< t := by rw [Nat.shiftLeft_eq]; exact Nat.mul_pos (by omega) (Nat.two_pow_pos _)
  obtain ⟨g, hg⟩ : ∃ g, 2 * w + (w * w != m <<< t).toNat = g := ⟨_, rfl⟩
  have hbt : ∀ b : Bool, b.toNat ≤ 1 := by intro b; cases b <;> simp
  have hg1 : 1 ≤ g := by
    rw [← hg]
    by_cases hw0 : w = 0
    · subst hw0
      have : (0 * 0 != m <<< t) = true := by simp; omega
      rw [this]; decide
    · omega
  have hg2 : g < 2 ^ 56 := by rw [← hg]; have := hbt (w * w != m <<< t); omega
  rw [hg]
  simp only [Option.map_some]
  obtain ⟨k, d, hk, hk1, hd1, hd2⟩ := read_write (m := g) (e := (e - (t : Int)) / 2 - 1) hg1 (Nat.lt_trans hg2 (by decide)) (by omega) (by omega)
  have hgl : g.log2 < 56 := (Nat.log2_lt (by omega)).2 hg2
  refine ⟨_, Toward.zero.cut false k (-d).toNat, rfl, ?_, ?_⟩
  · have hd0 : d.toNat = 0 := by omega
    have hx : Toward.zero.cut false k (-d).toNat ≤ k := Nat.le_trans (cut_zero_le _ _) (Nat.div_le_self _ _)
    have hI : (FloatKind.f64.decode (double.write (.number false g ((e - (t : Int)) / 2 - 1)))).toInt .zero = some ((Toward.zero.cut false k (-d).toNat : Nat) : Int) := by
      simp only [FloatKind.decode, hfm, hk, Datum.toInt, Datum.integral, hd0, signed, Nat.shiftLeft_zero, Bool.false_eq_true, if_false]
    unfold floatToIntVal
    rw [hI]
    have hmin : IntKind.i64.min = -9223372036854775808 := by decide
    have hmax : IntKind.i64.max = 9223372036854775807 := by decide
    simp only [hmin, hmax]
    rw [if_pos (by omega)]
  · refine Nat.le_trans (cut_zero_le _ _) ?_
    have h27 : 27 ≤ (-d).toNat := by omega
    have : k / 2 ^ (-d).toNat ≤ k / 2 ^ 27 := Nat.div_le_div_left (Nat.pow_le_pow_right (by omega) h27) (by decide)
    refine Nat.le_trans this ?_
    omega
end Go.Sq
