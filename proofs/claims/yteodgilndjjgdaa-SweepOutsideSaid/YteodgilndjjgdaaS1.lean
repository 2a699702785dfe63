/- The plane of the sweep: distances of spots and segments as exact comparisons. No condition. -/
import Derived.Test.YteodgilndjjgdaaTr
namespace Go.Tram
open Go.AM

def cmpI (a b : Int) : Int := if a < b then -1 else if b < a then 1 else 0
theorem cmpI_neg {a b : Int} : cmpI a b < 0 ↔ a < b := by unfold cmpI; split <;> (try split) <;> omega
theorem cmpI_np {a b : Int} : cmpI a b ≤ 0 ↔ a ≤ b := by unfold cmpI; split <;> (try split) <;> omega
theorem cmpI_nn {a b : Int} : 0 ≤ cmpI a b ↔ b ≤ a := by unfold cmpI; split <;> (try split) <;> omega
theorem cmpI_pos {a b : Int} : 0 < cmpI a b ↔ b < a := by unfold cmpI; split <;> (try split) <;> omega
theorem cmpI_bd {a b : Int} : -1 ≤ cmpI a b ∧ cmpI a b ≤ 1 := by unfold cmpI; split <;> (try split) <;> omega

/-- The product of the ways from a to b and from c to d. -/
def dotS (a b c d : Spot) : Int := (b.X - a.X) * (d.X - c.X) + (b.Y - a.Y) * (d.Y - c.Y)
def crossS (a b c d : Spot) : Int := (b.X - a.X) * (d.Y - c.Y) - (b.Y - a.Y) * (d.X - c.X)

def spotted (a b p : Spot) (d : Int) : Int :=
  if dotS a b a p ≤ 0 then cmpI (dotS a p a p) (d * d)
  else if dotS a b a b ≤ dotS a b a p then cmpI (dotS b p b p) (d * d)
  else cmpI (crossS a b a p * crossS a b a p) (d * d * dotS a b a b)

def sideS (a b p : Spot) : Int := cmpI (crossS a b a p) 0
def crossing (a b c d : Spot) : Bool := decide (sideS a b c * sideS a b d < 0) && decide (sideS c d a * sideS c d b < 0)
def min4 (a b c d : Int) : Int := min (min (min a b) c) d
def apart (a b c d : Spot) (r : Int) : Int := if crossing a b c d = true then cmpI 0 r else min4 (spotted a b c r) (spotted a b d r) (spotted c d a r) (spotted c d b r)

/-- At most, or less. -/
def nearB (less : Bool) (k : Int) : Bool := if less then decide (k < 0) else decide (k ≤ 0)

/-- Bisection. -/
def bis (f : Int → Bool) : Nat → Int → Int → Int
  | 0, lo, _ => lo
  | n + 1, lo, hi => if hi - lo > 1 then (if f ((lo + hi) / 2) then bis f n ((lo + hi) / 2) hi else bis f n lo ((lo + hi) / 2)) else lo

theorem bis_stop {f : Int → Bool} {n : Nat} {lo hi : Int} (h : hi - lo ≤ 1) : bis f n lo hi = lo := by
  cases n with
  | zero => rfl
  | succ n => unfold bis; rw [if_neg (by omega)]

/-- So many rounds are enough. -/
theorem bis_more {f : Int → Bool} : ∀ (n m : Nat) (lo hi : Int), (hi - lo).toNat ≤ n + 1 → (hi - lo).toNat ≤ m + 1 → bis f n lo hi = bis f m lo hi
  | 0, m, lo, hi, h1, h2 => by rw [bis_stop (n := m) (by omega)]; rfl
  | n + 1, 0, lo, hi, h1, h2 => by rw [bis_stop (n := n + 1) (by omega)]; rfl
  | n + 1, m + 1, lo, hi, h1, h2 => by
    unfold bis
    split
    · rw [bis_more n m ((lo + hi) / 2) hi (by omega) (by omega), bis_more n m lo ((lo + hi) / 2) (by omega) (by omega)]
    · rfl

theorem bis_spec {f : Int → Bool} : ∀ (n : Nat) (lo hi : Int), lo < hi → (hi - lo).toNat ≤ n + 1 →
    lo ≤ bis f n lo hi ∧ bis f n lo hi < hi ∧ (bis f n lo hi = lo ∨ f (bis f n lo hi) = true) ∧ (bis f n lo hi + 1 = hi ∨ f (bis f n lo hi + 1) = false)
  | 0, lo, hi, h0, h1 => by
    have : hi = lo + 1 := by omega
    subst this
    exact ⟨Int.le_refl _, by simp [bis]; omega, Or.inl rfl, Or.inl rfl⟩
  | n + 1, lo, hi, h0, h1 => by
    unfold bis
    split
    · split
      · rename_i hf
        obtain ⟨k1, k2, k3, k4⟩ := bis_spec n ((lo + hi) / 2) hi (by omega) (by omega)
        refine ⟨by omega, k2, ?_, k4⟩
        rcases k3 with k3 | k3
        · rw [k3]; exact Or.inr hf
        · exact Or.inr k3
      · rename_i hf
        obtain ⟨k1, k2, k3, k4⟩ := bis_spec (f := f) n lo ((lo + hi) / 2) (by omega) (by omega)
        refine ⟨k1, by omega, k3, ?_⟩
        rcases k4 with k4 | k4
        · rw [k4]; exact Or.inr (by simpa using hf)
        · exact Or.inr k4
    · exact ⟨by omega, by omega, Or.inl rfl, Or.inl (by omega)⟩

def gap (a b c d : Spot) : Int := bis (fun r => decide (0 ≤ apart a b c d r)) 5000 0 5001

theorem dotS_self (a b : Spot) : dotS a b a b = sqd a b := by
  have h1 : (b.X - a.X) * (b.X - a.X) = (a.X - b.X) * (a.X - b.X) := by rw [← Int.neg_mul_neg]; congr 1 <;> omega
  have h2 : (b.Y - a.Y) * (b.Y - a.Y) = (a.Y - b.Y) * (a.Y - b.Y) := by rw [← Int.neg_mul_neg]; congr 1 <;> omega
  simp only [dotS, sqd, h1, h2]
theorem dotS_nn (a b : Spot) : 0 ≤ dotS a b a b := by
  have := sq_nn (b.X - a.X)
  have := sq_nn (b.Y - a.Y)
  unfold dotS; omega

theorem dotS_bd {a b c d : Spot} (ha : spotB a = true) (hb : spotB b = true) (hc : spotB c = true) (hd : spotB d = true) : -800000000000000 ≤ dotS a b c d ∧ dotS a b c d ≤ 800000000000000 := by
  rw [spotB_iff] at ha hb hc hd
  have h1 := mul_bd (a := b.X - a.X) (b := d.X - c.X) (A := 20000000) (B := 20000000) (by omega) (by omega) (by omega) (by omega)
  have h2 := mul_bd (a := b.Y - a.Y) (b := d.Y - c.Y) (A := 20000000) (B := 20000000) (by omega) (by omega) (by omega) (by omega)
  unfold dotS; omega
theorem crossS_bd {a b c d : Spot} (ha : spotB a = true) (hb : spotB b = true) (hc : spotB c = true) (hd : spotB d = true) : -800000000000000 ≤ crossS a b c d ∧ crossS a b c d ≤ 800000000000000 := by
  rw [spotB_iff] at ha hb hc hd
  have h1 := mul_bd (a := b.X - a.X) (b := d.Y - c.Y) (A := 20000000) (B := 20000000) (by omega) (by omega) (by omega) (by omega)
  have h2 := mul_bd (a := b.Y - a.Y) (b := d.X - c.X) (A := 20000000) (B := 20000000) (by omega) (by omega) (by omega) (by omega)
  unfold crossS; omega

theorem lag (x y u v : Int) : (x * v - y * u) * (x * v - y * u) + (x * u + y * v) * (x * u + y * v) = (x * x + y * y) * (u * u + v * v) := by
  simp only [Int.mul_sub, Int.sub_mul, Int.mul_add, Int.add_mul]
  have e1 : x * v * (x * v) = x * x * (v * v) := by ac_rfl
  have e2 : y * u * (y * u) = y * y * (u * u) := by ac_rfl
  have e3 : x * v * (y * u) = x * u * (y * v) := by ac_rfl
  have e4 : y * u * (x * v) = x * u * (y * v) := by ac_rfl
  have e5 : y * v * (x * u) = x * u * (y * v) := by ac_rfl
  have e6 : x * u * (x * u) = x * x * (u * u) := by ac_rfl
  have e7 : y * v * (y * v) = y * y * (v * v) := by ac_rfl
  omega

/-- Lagrange's identity. -/
theorem lagrange (a b c d : Spot) : crossS a b c d * crossS a b c d + dotS a b c d * dotS a b c d = dotS a b a b * dotS c d c d := by
  simp only [crossS, dotS]
  exact lag _ _ _ _

/-- The far end, where the way along the segment is the whole one. -/
theorem far_end (a b p : Spot) : dotS b p b p = dotS a p a p - 2 * dotS a b a p + dotS a b a b := by
  simp only [dotS]
  have hx : p.X - b.X = (p.X - a.X) - (b.X - a.X) := by omega
  have hy : p.Y - b.Y = (p.Y - a.Y) - (b.Y - a.Y) := by omega
  rw [hx, hy]
  generalize p.X - a.X = x
  generalize p.Y - a.Y = y
  generalize b.X - a.X = u
  generalize b.Y - a.Y = v
  simp only [Int.mul_sub, Int.sub_mul]
  have e1 : x * u = u * x := Int.mul_comm _ _
  have e2 : y * v = v * y := Int.mul_comm _ _
  omega

theorem cmpI_mul {a b k : Int} (h : 0 < k) : cmpI (k * a) (k * b) = cmpI a b := by
  unfold cmpI
  simp only [Int.mul_lt_mul_left h]

/-- At the end of the segment the line's distance is the end's. -/
theorem spotted_edge {a b p : Spot} {d : Int} (h : dotS a b a p = dotS a b a b) (h0 : 0 < dotS a b a b) : cmpI (crossS a b a p * crossS a b a p) (d * d * dotS a b a b) = cmpI (dotS b p b p) (d * d) := by
  have e1 := lagrange a b a p
  have e2 := far_end a b p
  rw [h] at e1 e2
  have e3 : crossS a b a p * crossS a b a p = dotS a b a b * dotS b p b p := by
    have : dotS b p b p = dotS a p a p - dotS a b a b := by omega
    rw [this, Int.mul_sub]; omega
  rw [e3, Int.mul_comm (d * d), cmpI_mul h0]

theorem crossing_comm (a b c d : Spot) : crossing a b c d = crossing c d a b := by
  unfold crossing; exact Bool.and_comm _ _
theorem min4_np {a b c d : Int} : min4 a b c d ≤ 0 ↔ (a ≤ 0 ∨ b ≤ 0 ∨ c ≤ 0 ∨ d ≤ 0) := by unfold min4; omega
theorem min4_neg {a b c d : Int} : min4 a b c d < 0 ↔ (a < 0 ∨ b < 0 ∨ c < 0 ∨ d < 0) := by unfold min4; omega
theorem apart_comm (a b c d : Spot) (r : Int) : apart a b c d r = apart c d a b r := by
  unfold apart
  rw [crossing_comm]
  split
  · rfl
  · unfold min4; omega
end Go.Tram
