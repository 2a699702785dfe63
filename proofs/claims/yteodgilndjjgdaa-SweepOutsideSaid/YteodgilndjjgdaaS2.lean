/- Products of two words, and their comparison. No condition. -/
import Derived.Test.YteodgilndjjgdaaS1
import Derived.Laws.Bits64b
namespace Go.Tram
open Go.AM

theorem split_mul (x y B : Int) : x * y = (x / B) * (y / B) * (B * B) + (x / B) * (y % B) * B + (x % B) * (y / B) * B + (x % B) * (y % B) := by
  have hx := Int.mul_ediv_add_emod x B
  have hy := Int.mul_ediv_add_emod y B
  generalize x / B = x1 at *
  generalize x % B = x0 at *
  generalize y / B = y1 at *
  generalize y % B = y0 at *
  subst hx hy
  simp only [Int.mul_add, Int.add_mul]
  have e1 : B * x1 * (B * y1) = x1 * y1 * (B * B) := by ac_rfl
  have e2 : B * x1 * y0 = x1 * y0 * B := by ac_rfl
  have e3 : x0 * (B * y1) = x0 * y1 * B := by ac_rfl
  omega

theorem mul_range {a b A B : Int} (h0 : 0 ≤ a) (h1 : a < A) (k0 : 0 ≤ b) (k1 : b < B) : 0 ≤ a * b ∧ a * b ≤ (A - 1) * (B - 1) :=
  ⟨Int.mul_nonneg h0 k0, Int.mul_le_mul (by omega) (by omega) k0 (by omega)⟩

/-- The high word of a product. -/
theorem mul_hi {x y : Int} (hx : 0 ≤ x) (hx' : x < 18446744073709551616) (hy : 0 ≤ y) (hy' : y < 18446744073709551616) :
    (x / 4294967296) * (y / 4294967296) + ((x / 4294967296) * (y % 4294967296) + (x % 4294967296) * (y % 4294967296) / 4294967296) / 4294967296 +
      (((x / 4294967296) * (y % 4294967296) + (x % 4294967296) * (y % 4294967296) / 4294967296) % 4294967296 + (x % 4294967296) * (y / 4294967296)) / 4294967296 = x * y / 18446744073709551616 := by
  have h := split_mul x y 4294967296
  have a1 := mul_range (a := x / 4294967296) (b := y / 4294967296) (A := 4294967296) (B := 4294967296) (by omega) (by omega) (by omega) (by omega)
  have a2 := mul_range (a := x / 4294967296) (b := y % 4294967296) (A := 4294967296) (B := 4294967296) (by omega) (by omega) (by omega) (by omega)
  have a3 := mul_range (a := x % 4294967296) (b := y / 4294967296) (A := 4294967296) (B := 4294967296) (by omega) (by omega) (by omega) (by omega)
  have a4 := mul_range (a := x % 4294967296) (b := y % 4294967296) (A := 4294967296) (B := 4294967296) (by omega) (by omega) (by omega) (by omega)
  generalize (x / 4294967296) * (y / 4294967296) = p at *
  generalize (x / 4294967296) * (y % 4294967296) = q at *
  generalize (x % 4294967296) * (y / 4294967296) = r at *
  generalize (x % 4294967296) * (y % 4294967296) = s at *
  omega

theorem cmp_words {p q : Int} (M : Int) (hM : 0 < M) : (if cmpI (p / M) (q / M) ≠ 0 then cmpI (p / M) (q / M) else cmpI (p % M) (q % M)) = cmpI p q := by
  have hp := Int.mul_ediv_add_emod p M
  have hq := Int.mul_ediv_add_emod q M
  have p0 := Int.emod_nonneg p (by omega : M ≠ 0)
  have q0 := Int.emod_nonneg q (by omega : M ≠ 0)
  have p1 := Int.emod_lt_of_pos p hM
  have q1 := Int.emod_lt_of_pos q hM
  rcases Int.lt_trichotomy (p / M) (q / M) with h | h | h
  · have : M * (p / M + 1) ≤ M * (q / M) := Int.mul_le_mul_of_nonneg_left (by omega) (by omega)
    rw [Int.mul_add] at this
    have hpq : p < q := by omega
    simp [cmpI, h, hpq]
  · rw [h] at hp
    have e1 : cmpI (p / M) (q / M) = 0 := by rw [h]; simp [cmpI]
    rw [e1]
    simp only [ne_eq, not_true_eq_false, if_false]
    have l1 : p % M < q % M ↔ p < q := by omega
    have l2 : q % M < p % M ↔ q < p := by omega
    simp only [cmpI, l1, l2]
  · have : M * (q / M + 1) ≤ M * (p / M) := Int.mul_le_mul_of_nonneg_left (by omega) (by omega)
    rw [Int.mul_add] at this
    have hpq : q < p := by omega
    have n1 : ¬ p < q := by omega
    have n2 : ¬ p / M < q / M := by omega
    simp [cmpI, h, hpq, n1, n2]

theorem mask32 {m : Int} (h0 : 0 ≤ m) (h1 : m < 18446744073709551616) : bits .and .u64 m 4294967295 = m % 4294967296 := by
  obtain ⟨n, rfl⟩ : ∃ n : Nat, m = n := ⟨m.toNat, by omega⟩
  have := bits_and_u64_nat n 4294967295 (by omega) (by omega)
  rw [show ((4294967295 : Nat) : Int) = 4294967295 from rfl] at this
  rw [this, show (4294967295 : Nat) = 2 ^ 32 - 1 from rfl, Nat.and_two_pow_sub_one_eq_mod]
  omega

/-- The specification's product, in words of 62 bits. -/
theorem prod62 {a b : Int} (ha : 0 ≤ a) (ha' : a < 4611686018427387904) (hb : 0 ≤ b) (hb' : b < 4611686018427387904) :
    (a / 2147483648 * (b / 2147483648) + (a / 2147483648 * (b % 2147483648) + a % 2147483648 * (b % 2147483648) / 2147483648) / 2147483648) +
      ((a / 2147483648 * (b % 2147483648) + a % 2147483648 * (b % 2147483648) / 2147483648) % 2147483648 + a % 2147483648 * (b / 2147483648)) / 2147483648 = a * b / 4611686018427387904 ∧
    ((a / 2147483648 * (b % 2147483648) + a % 2147483648 * (b % 2147483648) / 2147483648) % 2147483648 + a % 2147483648 * (b / 2147483648)) % 2147483648 * 2147483648 + a % 2147483648 * (b % 2147483648) % 2147483648 = a * b % 4611686018427387904 := by
  have h := split_mul a b 2147483648
  have a1 := mul_range (a := a / 2147483648) (b := b / 2147483648) (A := 2147483648) (B := 2147483648) (by omega) (by omega) (by omega) (by omega)
  have a2 := mul_range (a := a / 2147483648) (b := b % 2147483648) (A := 2147483648) (B := 2147483648) (by omega) (by omega) (by omega) (by omega)
  have a3 := mul_range (a := a % 2147483648) (b := b / 2147483648) (A := 2147483648) (B := 2147483648) (by omega) (by omega) (by omega) (by omega)
  have a4 := mul_range (a := a % 2147483648) (b := b % 2147483648) (A := 2147483648) (B := 2147483648) (by omega) (by omega) (by omega) (by omega)
  generalize a / 2147483648 * (b / 2147483648) = p at *
  generalize a / 2147483648 * (b % 2147483648) = q at *
  generalize a % 2147483648 * (b / 2147483648) = r at *
  generalize a % 2147483648 * (b % 2147483648) = s at *
  constructor <;> omega
end Go.Tram
