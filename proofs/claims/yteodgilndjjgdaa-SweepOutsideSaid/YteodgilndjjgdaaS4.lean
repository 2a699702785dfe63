/- Plain laws of distances: order, symmetry, what meets. No condition. -/
import Derived.Test.YteodgilndjjgdaaS3
namespace Go.Tram
open Go.AM
set_option linter.unusedVariables false

theorem sq_lt {a b : Int} (h0 : 0 ≤ a) (h : a < b) : a * a < b * b := by
  have h1 : a * a ≤ a * b := Int.mul_le_mul_of_nonneg_left (by omega) h0
  have h2 : a * b < b * b := Int.mul_lt_mul_of_pos_right h (by omega)
  omega

theorem spotted_strict {a b p : Spot} {r s : Int} (hp : 0 < dotS a b a b) (h0 : 0 ≤ r) (h : r < s) (hs : 0 ≤ spotted a b p s) : 0 < spotted a b p r := by
  have hq := sq_lt h0 h
  unfold spotted at hs ⊢
  split at hs
  · rename_i h1
    rw [if_pos h1, cmpI_pos]
    rw [cmpI_nn] at hs
    omega
  · rename_i h1
    rw [if_neg h1]
    split at hs
    · rename_i h2
      rw [if_pos h2, cmpI_pos]
      rw [cmpI_nn] at hs
      omega
    · rename_i h2
      rw [if_neg h2, cmpI_pos]
      rw [cmpI_nn] at hs
      have := Int.mul_lt_mul_of_pos_right hq hp
      omega

theorem apart_strict {a b c d : Spot} {r s : Int} (hp : 0 < dotS a b a b) (hq : 0 < dotS c d c d) (h0 : 0 ≤ r) (h : r < s) (hs : 0 ≤ apart a b c d s) : 0 < apart a b c d r := by
  unfold apart at hs ⊢
  split at hs
  · rw [cmpI_nn] at hs; omega
  · rename_i hc
    rw [if_neg hc]
    have h1 : 0 ≤ spotted a b c s ∧ 0 ≤ spotted a b d s ∧ 0 ≤ spotted c d a s ∧ 0 ≤ spotted c d b s := by unfold min4 at hs; omega
    have k1 := spotted_strict hp h0 h h1.1
    have k2 := spotted_strict hp h0 h h1.2.1
    have k3 := spotted_strict hq h0 h h1.2.2.1
    have k4 := spotted_strict hq h0 h h1.2.2.2
    unfold min4; omega

theorem apart_mono {a b c d : Spot} {r s : Int} (hp : 0 < dotS a b a b) (hq : 0 < dotS c d c d) (h0 : 0 ≤ r) (h : r ≤ s) (hr : apart a b c d r ≤ 0) : apart a b c d s ≤ 0 := by
  rcases Int.lt_or_le r s with hlt | hle
  · rcases Int.lt_or_le 0 (apart a b c d s) with h1 | h1
    · have := apart_strict hp hq h0 hlt (by omega); omega
    · exact h1
  · have : r = s := by omega
    rw [← this]; exact hr

theorem gap_comm (a b c d : Spot) : gap a b c d = gap c d a b := by
  unfold gap
  congr 1
  funext r
  rw [apart_comm]

theorem gap_spec (a b c d : Spot) : (0 ≤ gap a b c d ∧ gap a b c d ≤ 5000) ∧ (gap a b c d = 0 ∨ 0 ≤ apart a b c d (gap a b c d)) ∧ (gap a b c d = 5000 ∨ apart a b c d (gap a b c d + 1) < 0) := by
  obtain ⟨h1, h2, h3, h4⟩ := bis_spec (f := fun r => decide (0 ≤ apart a b c d r)) 5000 0 5001 (by omega) (by omega)
  change 0 ≤ gap a b c d at h1
  change gap a b c d < 5001 at h2
  change gap a b c d = 0 ∨ decide (0 ≤ apart a b c d (gap a b c d)) = true at h3
  change gap a b c d + 1 = 5001 ∨ decide (0 ≤ apart a b c d (gap a b c d + 1)) = false at h4
  simp only [decide_eq_true_eq, decide_eq_false_iff_not] at h3 h4
  refine ⟨⟨h1, by omega⟩, h3, ?_⟩
  rcases h4 with h4 | h4
  · left; omega
  · right; omega

theorem gap_below {a b c d : Spot} (hp : 0 < dotS a b a b) (hq : 0 < dotS c d c d) (h : 0 < gap a b c d) : 0 < apart a b c d (gap a b c d - 1) := by
  obtain ⟨_, h3, _⟩ := gap_spec a b c d
  have h4 : 0 ≤ apart a b c d (gap a b c d) := by
    rcases h3 with h3 | h3
    · omega
    · exact h3
  exact apart_strict hp hq (by omega) (by omega) h4
theorem gap_above {a b c d : Spot} (h : gap a b c d < 5000) : apart a b c d (gap a b c d + 1) ≤ 0 := by
  obtain ⟨_, _, h4⟩ := gap_spec a b c d
  rcases h4 with h4 | h4
  · omega
  · omega

theorem dotS_zero_left (a c d : Spot) : dotS a a c d = 0 := by simp [dotS]
theorem spotted_own_a {a b : Spot} {r : Int} (h : 0 < r) : spotted a b a r < 0 := by
  have h1 : dotS a b a a = 0 := by simp [dotS]
  have h2 : dotS a a a a = 0 := by simp [dotS]
  unfold spotted
  rw [if_pos (by omega), h2, cmpI_neg]
  exact Int.mul_pos h h
theorem spotted_own_b {a b : Spot} {r : Int} (hp : 0 < dotS a b a b) (h : 0 < r) : spotted a b b r < 0 := by
  have h2 : dotS b b b b = 0 := by simp [dotS]
  unfold spotted
  rw [if_neg (by omega), if_pos (by omega), h2, cmpI_neg]
  exact Int.mul_pos h h

/-- Segments that meet are at distance 0. -/
theorem apart_meet {a b c d : Spot} {r : Int} (hp : 0 < dotS a b a b) (hq : 0 < dotS c d c d) (hm : c = a ∨ c = b ∨ d = a ∨ d = b) (h : 0 < r) : apart a b c d r < 0 := by
  unfold apart
  split
  · rw [cmpI_neg]; exact h
  · rw [min4_neg]
    rcases hm with rfl | rfl | rfl | rfl
    · exact Or.inl (spotted_own_a h)
    · exact Or.inl (spotted_own_b hp h)
    · exact Or.inr (Or.inl (spotted_own_a h))
    · exact Or.inr (Or.inl (spotted_own_b hp h))
theorem gap_meet {a b c d : Spot} (hp : 0 < dotS a b a b) (hq : 0 < dotS c d c d) (hm : c = a ∨ c = b ∨ d = a ∨ d = b) : gap a b c d = 0 := by
  obtain ⟨⟨h1, _⟩, h3, _⟩ := gap_spec a b c d
  rcases h3 with h3 | h3
  · exact h3
  · rcases Int.lt_or_le 0 (gap a b c d) with h | h
    · have := apart_meet hp hq hm h; omega
    · omega
end Go.Tram
