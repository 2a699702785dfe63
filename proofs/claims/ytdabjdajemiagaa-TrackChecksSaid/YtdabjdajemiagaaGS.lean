/- The plane of the sweep: distances of spots and segments as exact comparisons. No condition. -/
import Derived.Test.YtdabjdajemiagaaTr
import Derived.Laws.Bits64b
/- The plane of the sweep: distances of spots and segments as exact comparisons. No condition. -/
namespace Go.Tram
open Go.AM

def cmpI (a b : Int) : Int := if a < b then -1 else if b < a then 1 else 0
theorem cmpI_neg {a b : Int} : cmpI a b < 0 ↔ a < b := by unfold cmpI; split <;> (try split) <;> omega
theorem cmpI_np {a b : Int} : cmpI a b ≤ 0 ↔ a ≤ b := by unfold cmpI; split <;> (try split) <;> omega
theorem cmpI_nn {a b : Int} : 0 ≤ cmpI a b ↔ b ≤ a := by unfold cmpI; split <;> (try split) <;> omega
theorem cmpI_pos {a b : Int} : 0 < cmpI a b ↔ b < a := by unfold cmpI; split <;> (try split) <;> omega
theorem cmpI_bd {a b : Int} : -1 ≤ cmpI a b ∧ cmpI a b ≤ 1 := by unfold cmpI; split <;> (try split) <;> omega

/-- The product of the ways from a to b and from c to d. -/
def dotS (a b c d : Spot) : Int := (b.X - a.X) * (d.X - c.X) + (b.Y - a.Y) * (d.Y - c.Y)
def crossS (a b c d : Spot) : Int := (b.X - a.X) * (d.Y - c.Y) - (b.Y - a.Y) * (d.X - c.X)

def spotted (a b p : Spot) (d : Int) : Int :=
  if dotS a b a p ≤ 0 then cmpI (dotS a p a p) (d * d)
  else if dotS a b a b ≤ dotS a b a p then cmpI (dotS b p b p) (d * d)
  else cmpI (crossS a b a p * crossS a b a p) (d * d * dotS a b a b)

def sideS (a b p : Spot) : Int := cmpI (crossS a b a p) 0
def crossing (a b c d : Spot) : Bool := decide (sideS a b c * sideS a b d < 0) && decide (sideS c d a * sideS c d b < 0)
def min4 (a b c d : Int) : Int := min (min (min a b) c) d
def apart (a b c d : Spot) (r : Int) : Int := if crossing a b c d = true then cmpI 0 r else min4 (spotted a b c r) (spotted a b d r) (spotted c d a r) (spotted c d b r)

/-- At most, or less. -/
def nearB (less : Bool) (k : Int) : Bool := if less then decide (k < 0) else decide (k ≤ 0)

/-- Bisection. -/
def bis (f : Int → Bool) : Nat → Int → Int → Int
  | 0, lo, _ => lo
  | n + 1, lo, hi => if hi - lo > 1 then (if f ((lo + hi) / 2) then bis f n ((lo + hi) / 2) hi else bis f n lo ((lo + hi) / 2)) else lo

theorem bis_stop {f : Int → Bool} {n : Nat} {lo hi : Int} (h : hi - lo ≤ 1) : bis f n lo hi = lo := by
  cases n with
  | zero => rfl
  | succ n => unfold bis; rw [if_neg (by omega)]

/-- So many rounds are enough. -/
theorem bis_more {f : Int → Bool} : ∀ (n m : Nat) (lo hi : Int), (hi - lo).toNat ≤ n + 1 → (hi - lo).toNat ≤ m + 1 → bis f n lo hi = bis f m lo hi
  | 0, m, lo, hi, h1, h2 => by rw [bis_stop (n := m) (by omega)]; rfl
  | n + 1, 0, lo, hi, h1, h2 => by rw [bis_stop (n := n + 1) (by omega)]; rfl
  | n + 1, m + 1, lo, hi, h1, h2 => by
    unfold bis
    split
    · rw [bis_more n m ((lo + hi) / 2) hi (by omega) (by omega), bis_more n m lo ((lo + hi) / 2) (by omega) (by omega)]
    · rfl

theorem bis_spec {f : Int → Bool} : ∀ (n : Nat) (lo hi : Int), lo < hi → (hi - lo).toNat ≤ n + 1 →
    lo ≤ bis f n lo hi ∧ bis f n lo hi < hi ∧ (bis f n lo hi = lo ∨ f (bis f n lo hi) = true) ∧ (bis f n lo hi + 1 = hi ∨ f (bis f n lo hi + 1) = false)
  | 0, lo, hi, h0, h1 => by
    have : hi = lo + 1 := by omega
    subst this
    exact ⟨Int.le_refl _, by simp [bis]; omega, Or.inl rfl, Or.inl rfl⟩
  | n + 1, lo, hi, h0, h1 => by
    unfold bis
    split
    · split
      · rename_i hf
        obtain ⟨k1, k2, k3, k4⟩ := bis_spec n ((lo + hi) / 2) hi (by omega) (by omega)
        refine ⟨by omega, k2, ?_, k4⟩
        rcases k3 with k3 | k3
        · rw [k3]; exact Or.inr hf
        · exact Or.inr k3
      · rename_i hf
        obtain ⟨k1, k2, k3, k4⟩ := bis_spec (f := f) n lo ((lo + hi) / 2) (by omega) (by omega)
        refine ⟨k1, by omega, k3, ?_⟩
        rcases k4 with k4 | k4
        · rw [k4]; exact Or.inr (by simpa using hf)
        · exact Or.inr k4
    · exact ⟨by omega, by omega, Or.inl rfl, Or.inl (by omega)⟩

def gap (a b c d : Spot) : Int := bis (fun r => decide (0 ≤ apart a b c d r)) 5000 0 5001

theorem dotS_self (a b : Spot) : dotS a b a b = sqd a b := by
  have h1 : (b.X - a.X) * (b.X - a.X) = (a.X - b.X) * (a.X - b.X) := by rw [← Int.neg_mul_neg]; congr 1 <;> omega
  have h2 : (b.Y - a.Y) * (b.Y - a.Y) = (a.Y - b.Y) * (a.Y - b.Y) := by rw [← Int.neg_mul_neg]; congr 1 <;> omega
  simp only [dotS, sqd, h1, h2]
theorem dotS_nn (a b : Spot) : 0 ≤ dotS a b a b := by
  have := sq_nn (b.X - a.X)
  have := sq_nn (b.Y - a.Y)
  unfold dotS; omega

theorem dotS_bd {a b c d : Spot} (ha : spotB a = true) (hb : spotB b = true) (hc : spotB c = true) (hd : spotB d = true) : -800000000000000 ≤ dotS a b c d ∧ dotS a b c d ≤ 800000000000000 := by
  rw [spotB_iff] at ha hb hc hd
  have h1 := mul_bd (a := b.X - a.X) (b := d.X - c.X) (A := 20000000) (B := 20000000) (by omega) (by omega) (by omega) (by omega)
  have h2 := mul_bd (a := b.Y - a.Y) (b := d.Y - c.Y) (A := 20000000) (B := 20000000) (by omega) (by omega) (by omega) (by omega)
  unfold dotS; omega
theorem crossS_bd {a b c d : Spot} (ha : spotB a = true) (hb : spotB b = true) (hc : spotB c = true) (hd : spotB d = true) : -800000000000000 ≤ crossS a b c d ∧ crossS a b c d ≤ 800000000000000 := by
  rw [spotB_iff] at ha hb hc hd
  have h1 := mul_bd (a := b.X - a.X) (b := d.Y - c.Y) (A := 20000000) (B := 20000000) (by omega) (by omega) (by omega) (by omega)
  have h2 := mul_bd (a := b.Y - a.Y) (b := d.X - c.X) (A := 20000000) (B := 20000000) (by omega) (by omega) (by omega) (by omega)
  unfold crossS; omega

theorem lag (x y u v : Int) : (x * v - y * u) * (x * v - y * u) + (x * u + y * v) * (x * u + y * v) = (x * x + y * y) * (u * u + v * v) := by
  simp only [Int.mul_sub, Int.sub_mul, Int.mul_add, Int.add_mul]
  have e1 : x * v * (x * v) = x * x * (v * v) := by ac_rfl
  have e2 : y * u * (y * u) = y * y * (u * u) := by ac_rfl
  have e3 : x * v * (y * u) = x * u * (y * v) := by ac_rfl
  have e4 : y * u * (x * v) = x * u * (y * v) := by ac_rfl
  have e5 : y * v * (x * u) = x * u * (y * v) := by ac_rfl
  have e6 : x * u * (x * u) = x * x * (u * u) := by ac_rfl
  have e7 : y * v * (y * v) = y * y * (v * v) := by ac_rfl
  omega

/-- Lagrange's identity. -/
theorem lagrange (a b c d : Spot) : crossS a b c d * crossS a b c d + dotS a b c d * dotS a b c d = dotS a b a b * dotS c d c d := by
  simp only [crossS, dotS]
  exact lag _ _ _ _

/-- The far end, where the way along the segment is the whole one. -/
theorem far_end (a b p : Spot) : dotS b p b p = dotS a p a p - 2 * dotS a b a p + dotS a b a b := by
  simp only [dotS]
  have hx : p.X - b.X = (p.X - a.X) - (b.X - a.X) := by omega
  have hy : p.Y - b.Y = (p.Y - a.Y) - (b.Y - a.Y) := by omega
  rw [hx, hy]
  generalize p.X - a.X = x
  generalize p.Y - a.Y = y
  generalize b.X - a.X = u
  generalize b.Y - a.Y = v
  simp only [Int.mul_sub, Int.sub_mul]
  have e1 : x * u = u * x := Int.mul_comm _ _
  have e2 : y * v = v * y := Int.mul_comm _ _
  omega

theorem cmpI_mul {a b k : Int} (h : 0 < k) : cmpI (k * a) (k * b) = cmpI a b := by
  unfold cmpI
  simp only [Int.mul_lt_mul_left h]

/-- At the end of the segment the line's distance is the end's. -/
theorem spotted_edge {a b p : Spot} {d : Int} (h : dotS a b a p = dotS a b a b) (h0 : 0 < dotS a b a b) : cmpI (crossS a b a p * crossS a b a p) (d * d * dotS a b a b) = cmpI (dotS b p b p) (d * d) := by
  have e1 := lagrange a b a p
  have e2 := far_end a b p
  rw [h] at e1 e2
  have e3 : crossS a b a p * crossS a b a p = dotS a b a b * dotS b p b p := by
    have : dotS b p b p = dotS a p a p - dotS a b a b := by omega
    rw [this, Int.mul_sub]; omega
  rw [e3, Int.mul_comm (d * d), cmpI_mul h0]

theorem crossing_comm (a b c d : Spot) : crossing a b c d = crossing c d a b := by
  unfold crossing; exact Bool.and_comm _ _
theorem min4_np {a b c d : Int} : min4 a b c d ≤ 0 ↔ (a ≤ 0 ∨ b ≤ 0 ∨ c ≤ 0 ∨ d ≤ 0) := by unfold min4; omega
theorem min4_neg {a b c d : Int} : min4 a b c d < 0 ↔ (a < 0 ∨ b < 0 ∨ c < 0 ∨ d < 0) := by unfold min4; omega
theorem apart_comm (a b c d : Spot) (r : Int) : apart a b c d r = apart c d a b r := by
  unfold apart
  rw [crossing_comm]
  split
  · rfl
  · unfold min4; omega
end Go.Tram
/- Products of two words, and their comparison. No condition. -/
namespace Go.Tram
open Go.AM

theorem split_mul (x y B : Int) : x * y = (x / B) * (y / B) * (B * B) + (x / B) * (y % B) * B + (x % B) * (y / B) * B + (x % B) * (y % B) := by
  have hx := Int.mul_ediv_add_emod x B
  have hy := Int.mul_ediv_add_emod y B
  generalize x / B = x1 at *
  generalize x % B = x0 at *
  generalize y / B = y1 at *
  generalize y % B = y0 at *
  subst hx hy
  simp only [Int.mul_add, Int.add_mul]
  have e1 : B * x1 * (B * y1) = x1 * y1 * (B * B) := by ac_rfl
  have e2 : B * x1 * y0 = x1 * y0 * B := by ac_rfl
  have e3 : x0 * (B * y1) = x0 * y1 * B := by ac_rfl
  omega

theorem mul_range {a b A B : Int} (h0 : 0 ≤ a) (h1 : a < A) (k0 : 0 ≤ b) (k1 : b < B) : 0 ≤ a * b ∧ a * b ≤ (A - 1) * (B - 1) :=
  ⟨Int.mul_nonneg h0 k0, Int.mul_le_mul (by omega) (by omega) k0 (by omega)⟩

/-- The high word of a product. -/
theorem mul_hi {x y : Int} (hx : 0 ≤ x) (hx' : x < 18446744073709551616) (hy : 0 ≤ y) (hy' : y < 18446744073709551616) :
    (x / 4294967296) * (y / 4294967296) + ((x / 4294967296) * (y % 4294967296) + (x % 4294967296) * (y % 4294967296) / 4294967296) / 4294967296 +
      (((x / 4294967296) * (y % 4294967296) + (x % 4294967296) * (y % 4294967296) / 4294967296) % 4294967296 + (x % 4294967296) * (y / 4294967296)) / 4294967296 = x * y / 18446744073709551616 := by
  have h := split_mul x y 4294967296
  have a1 := mul_range (a := x / 4294967296) (b := y / 4294967296) (A := 4294967296) (B := 4294967296) (by omega) (by omega) (by omega) (by omega)
  have a2 := mul_range (a := x / 4294967296) (b := y % 4294967296) (A := 4294967296) (B := 4294967296) (by omega) (by omega) (by omega) (by omega)
  have a3 := mul_range (a := x % 4294967296) (b := y / 4294967296) (A := 4294967296) (B := 4294967296) (by omega) (by omega) (by omega) (by omega)
  have a4 := mul_range (a := x % 4294967296) (b := y % 4294967296) (A := 4294967296) (B := 4294967296) (by omega) (by omega) (by omega) (by omega)
  generalize (x / 4294967296) * (y / 4294967296) = p at *
  generalize (x / 4294967296) * (y % 4294967296) = q at *
  generalize (x % 4294967296) * (y / 4294967296) = r at *
  generalize (x % 4294967296) * (y % 4294967296) = s at *
  omega

theorem cmp_words {p q : Int} (M : Int) (hM : 0 < M) : (if cmpI (p / M) (q / M) ≠ 0 then cmpI (p / M) (q / M) else cmpI (p % M) (q % M)) = cmpI p q := by
  have hp := Int.mul_ediv_add_emod p M
  have hq := Int.mul_ediv_add_emod q M
  have p0 := Int.emod_nonneg p (by omega : M ≠ 0)
  have q0 := Int.emod_nonneg q (by omega : M ≠ 0)
  have p1 := Int.emod_lt_of_pos p hM
  have q1 := Int.emod_lt_of_pos q hM
  rcases Int.lt_trichotomy (p / M) (q / M) with h | h | h
  · have : M * (p / M + 1) ≤ M * (q / M) := Int.mul_le_mul_of_nonneg_left (by omega) (by omega)
    rw [Int.mul_add] at this
    have hpq : p < q := by omega
    simp [cmpI, h, hpq]
  · rw [h] at hp
    have e1 : cmpI (p / M) (q / M) = 0 := by rw [h]; simp [cmpI]
    rw [e1]
    simp only [ne_eq, not_true_eq_false, if_false]
    have l1 : p % M < q % M ↔ p < q := by omega
    have l2 : q % M < p % M ↔ q < p := by omega
    simp only [cmpI, l1, l2]
  · have : M * (q / M + 1) ≤ M * (p / M) := Int.mul_le_mul_of_nonneg_left (by omega) (by omega)
    rw [Int.mul_add] at this
    have hpq : q < p := by omega
    have n1 : ¬ p < q := by omega
    have n2 : ¬ p / M < q / M := by omega
    simp [cmpI, h, hpq, n1, n2]

theorem mask32 {m : Int} (h0 : 0 ≤ m) (h1 : m < 18446744073709551616) : bits .and .u64 m 4294967295 = m % 4294967296 := by
  obtain ⟨n, rfl⟩ : ∃ n : Nat, m = n := ⟨m.toNat, by omega⟩
  have := bits_and_u64_nat n 4294967295 (by omega) (by omega)
  rw [show ((4294967295 : Nat) : Int) = 4294967295 from rfl] at this
  rw [this, show (4294967295 : Nat) = 2 ^ 32 - 1 from rfl, Nat.and_two_pow_sub_one_eq_mod]
  omega

/-- The specification's product, in words of 62 bits. -/
theorem prod62 {a b : Int} (ha : 0 ≤ a) (ha' : a < 4611686018427387904) (hb : 0 ≤ b) (hb' : b < 4611686018427387904) :
    (a / 2147483648 * (b / 2147483648) + (a / 2147483648 * (b % 2147483648) + a % 2147483648 * (b % 2147483648) / 2147483648) / 2147483648) +
      ((a / 2147483648 * (b % 2147483648) + a % 2147483648 * (b % 2147483648) / 2147483648) % 2147483648 + a % 2147483648 * (b / 2147483648)) / 2147483648 = a * b / 4611686018427387904 ∧
    ((a / 2147483648 * (b % 2147483648) + a % 2147483648 * (b % 2147483648) / 2147483648) % 2147483648 + a % 2147483648 * (b / 2147483648)) % 2147483648 * 2147483648 + a % 2147483648 * (b % 2147483648) % 2147483648 = a * b % 4611686018427387904 := by
  have h := split_mul a b 2147483648
  have a1 := mul_range (a := a / 2147483648) (b := b / 2147483648) (A := 2147483648) (B := 2147483648) (by omega) (by omega) (by omega) (by omega)
  have a2 := mul_range (a := a / 2147483648) (b := b % 2147483648) (A := 2147483648) (B := 2147483648) (by omega) (by omega) (by omega) (by omega)
  have a3 := mul_range (a := a % 2147483648) (b := b / 2147483648) (A := 2147483648) (B := 2147483648) (by omega) (by omega) (by omega) (by omega)
  have a4 := mul_range (a := a % 2147483648) (b := b % 2147483648) (A := 2147483648) (B := 2147483648) (by omega) (by omega) (by omega) (by omega)
  generalize a / 2147483648 * (b / 2147483648) = p at *
  generalize a / 2147483648 * (b % 2147483648) = q at *
  generalize a % 2147483648 * (b / 2147483648) = r at *
  generalize a % 2147483648 * (b % 2147483648) = s at *
  constructor <;> omega
end Go.Tram
/- Strips of a plan, what is foul, clear, a zone: plain words that the program and its specification share. No condition. -/
namespace Go.Tram
open Go.AM

/-- A strip with what the sweep knows of it. -/
structure SS where
  Rail : Int
  Segment : Int
  a : Spot
  b : Spot
  bends : List Spot
  From : Int
  To : Int
  deriving Inhabited

@[simp] def SS.cells (s : SS) : List AV := [I s.Rail, I s.Segment, I s.a.X, I s.a.Y, I s.b.X, I s.b.Y, .lst 2 (s.bends.map Spot.cells), I s.From, I s.To]
abbrev SS.av (s : SS) : AV := .agg s.cells

def straightB (l : List Spot) (k : Nat) : Bool := decide (crossS (nth l (k - 1)) (nth l k) (nth l k) (nth l (k + 1)) = 0) && decide (0 < dotS (nth l (k - 1)) (nth l k) (nth l k) (nth l (k + 1)))
def bendB (l : List Spot) (k : Nat) : Bool := decide (0 < k) && (decide (k + 1 < l.length) && !straightB l k)
def bendL (l : List Spot) (k : Nat) : List Spot := if bendB l k then [nth l k] else []
def stripOf (l : List Spot) (r : Int) (k : Nat) : SS := ⟨r, k, nth l k, nth l (k + 1), bendL l k ++ bendL l (k + 1), sumTo l k, sumTo l (k + 1)⟩
def stripsTo (l : List Spot) (r : Int) (n : Nat) : List SS := (List.range n).map (stripOf l r)
def Plan.strips (p : Plan) (r : Int) : List SS := stripsTo (p.line r) r ((p.rail r).Shape.length + 1)
def sheetRows (p : Plan) (n : Nat) : List (List AV) := (List.range n).map fun (r : Nat) => [.lst 9 ((p.strips (r : Int)).map SS.cells)]
def sheet (p : Plan) : List AV := p.cells ++ [.lst 1 (sheetRows p p.Rails.length)]

def profB (x : Profile) : Bool := inr x.Half 1 2000 && inr x.Swing 0 1500
def swungB (s t : SS) (d : Int) : Bool := s.bends.any fun q => decide (spotted t.a t.b q d ≤ 0)
def bothB (s t : SS) (d : Int) : Bool := s.bends.any fun q => t.bends.any fun r => decide (dotS q r q r ≤ d * d)
def foulB (s : SS) (x : Profile) (t : SS) (y : Profile) : Bool :=
  decide (apart s.a s.b t.a t.b (x.Half + y.Half) ≤ 0) || (swungB s t (x.Half + x.Swing + y.Half) || (swungB t s (y.Half + y.Swing + x.Half) || bothB s t (x.Half + x.Swing + y.Half + y.Swing)))

/-- A strip is in order. -/
structure SS.Ok (s : SS) : Prop where
  a : spotB s.a = true
  b : spotB s.b = true
  l : s.bends.all spotB = true
  n : s.bends.length ≤ 2
  p : 0 < dotS s.a s.b s.a s.b

def stripB (p : Plan) (s : Strip) : Bool := inr s.Rail 0 (p.Rails.length - 1) && inr s.Segment 0 (p.rail s.Rail).Shape.length
def Plan.strip (p : Plan) (s : Strip) : SS := stripOf (p.line s.Rail) s.Rail s.Segment.toNat

def coverB (p : Plan) (c : Cover) : Bool := inr c.Rail 0 (p.Rails.length - 1) && (decide (0 ≤ c.From) && (decide (c.From < c.To) && decide (c.To ≤ p.len c.Rail)))
def coversB (p : Plan) (l : List Cover) : Bool := decide (l.length ≤ 100) && l.all (coverB p)
def touchedOne (p : Plan) (c : Cover) : List SS := (p.strips c.Rail).filter fun x => decide (c.From < x.To) && decide (x.From < c.To)
def touched (p : Plan) (l : List Cover) : List SS := l.flatMap (touchedOne p)
def clearB (p : Plan) (a : List Cover) (x : Profile) (b : List Cover) (y : Profile) : Bool := !(touched p a).any fun s => (touched p b).any fun t => foulB s x t y

def zoneStep (r : Int) (out : List Cover) (s : SS) : List Cover :=
  match out.getLast? with
  | some c => if c.To = s.From then out.dropLast ++ [⟨c.Rail, c.From, s.To⟩] else out ++ [⟨r, s.From, s.To⟩]
  | none => [⟨r, s.From, s.To⟩]
def zoneHit (p : Plan) (x : Profile) (b : Int) (y : Profile) (s : SS) : Bool := (p.strips b).any fun t => foulB s x t y
def zoneL (p : Plan) (a : Int) (x : Profile) (b : Int) (y : Profile) (l : List SS) : List Cover :=
  l.foldl (fun out s => if zoneHit p x b y s then zoneStep a out s else out) []
def zone (p : Plan) (a : Int) (x : Profile) (b : Int) (y : Profile) : List Cover := zoneL p a x b y (p.strips a)

theorem strips_len (p : Plan) (r : Int) : (p.strips r).length = (p.rail r).Shape.length + 1 := by simp [Plan.strips, stripsTo]
theorem strips_get {p : Plan} {r : Int} {k : Nat} (h : k < (p.rail r).Shape.length + 1) : (p.strips r)[k]? = some (stripOf (p.line r) r k) := by
  simp [Plan.strips, stripsTo, h]

/-- What a valid plan gives. -/
theorem valid_parts {p : Plan} (h : validB p = true) : (1 ≤ p.Nodes.length ∧ p.Nodes.length ≤ 300) ∧ (1 ≤ p.Rails.length ∧ p.Rails.length ≤ 400) ∧ p.Nodes.all nodeB = true ∧ p.Rails.all (railB p) = true ∧ validE p = true := by
  simp only [validB, validA, Bool.and_eq_true, inr_iff] at h
  obtain ⟨⟨⟨⟨h1, h2⟩, h3⟩, h4⟩, h5⟩ := h
  exact ⟨by omega, by omega, h3, h4, h5⟩

structure RailOk (p : Plan) (r : Int) : Prop where
  f : 0 ≤ (p.rail r).From ∧ (p.rail r).From < p.Nodes.length
  t : 0 ≤ (p.rail r).To ∧ (p.rail r).To < p.Nodes.length
  s : (p.rail r).Shape.length ≤ 30
  spots : (p.line r).all spotB = true
  spot : ∀ k, k < (p.line r).length → spotB (nth (p.line r) k) = true
  seg : ∀ k, k + 1 < (p.line r).length → 1 ≤ segLen (p.line r) k ∧ segLen (p.line r) k ≤ 1000000
  len : (p.line r).length = (p.rail r).Shape.length + 2

theorem rail_ok {p : Plan} (h : validB p = true) {r : Int} (h0 : 0 ≤ r) (h1 : r < p.Rails.length) : RailOk p r := by
  obtain ⟨_, _, hA, hR, _⟩ := valid_parts h
  have hb : railB p (p.rail r) = true := List.all_eq_true.1 hR _ (List.mem_of_getElem? (p.rail_get h0 h1))
  simp only [railB, railA, Bool.and_eq_true, inr_iff, decide_eq_true_eq] at hb
  obtain ⟨⟨b1, b2, b3, b4, b5⟩, b6, b7⟩ := hb
  have sF := nodeB_spot (node_ends hA (i := (p.rail r).From) (by omega) (by omega))
  have sT := nodeB_spot (node_ends hA (i := (p.rail r).To) (by omega) (by omega))
  have hl := line_len p r
  have hsp := line_spots (p := p) (i := r) sF sT b6
  refine ⟨by omega, by omega, b3, hsp, fun k hk => List.all_eq_true.1 hsp _ (List.mem_of_getElem? (nth_get hk)), fun k hk => ?_, hl⟩
  have := List.all_eq_true.1 b7 k (by simp; omega)
  simp only [segB, inr_iff] at this
  exact this

theorem far_pos_dot {a b : Spot} (h : 1 ≤ far a b) : 0 < dotS a b a b := by
  have h0 := dotS_nn a b
  rcases Int.lt_or_eq_of_le h0 with h1 | h1
  · exact h1
  · have hs : sqd a b = 0 := by rw [← dotS_self, ← h1]
    have : far a b = 0 := by unfold far; rw [hs]; exact isq_of ⟨by omega, by omega, by omega⟩
    omega

theorem bendL_sub {l : List Spot} {k : Nat} {s : Spot} (h : s ∈ bendL l k) : 0 < k ∧ k + 1 < l.length ∧ s = nth l k := by
  unfold bendL at h
  split at h
  · rename_i hb
    simp only [bendB, Bool.and_eq_true, decide_eq_true_eq] at hb
    exact ⟨hb.1, hb.2.1, by simpa using h⟩
  · cases h
theorem bendL_len (l : List Spot) (k : Nat) : (bendL l k).length ≤ 1 := by unfold bendL; split <;> simp

theorem strip_ok {p : Plan} {r : Int} (h : RailOk p r) {k : Nat} (hk : k < (p.rail r).Shape.length + 1) : (stripOf (p.line r) r k).Ok := by
  have hl := h.len
  refine ⟨h.spot _ (by omega), h.spot _ (by omega), ?_, ?_, ?_⟩
  · rw [List.all_eq_true]
    intro s hs
    simp only [stripOf, List.mem_append] at hs
    rcases hs with hs | hs
    · obtain ⟨_, h2, rfl⟩ := bendL_sub hs; exact h.spot _ (by omega)
    · obtain ⟨_, h2, rfl⟩ := bendL_sub hs; exact h.spot _ (by omega)
  · have := bendL_len (p.line r) k
    have := bendL_len (p.line r) (k + 1)
    simp only [stripOf, List.length_append]; omega
  · have := (h.seg k (by omega)).1
    unfold segLen at this
    exact far_pos_dot this

theorem strips_ok {p : Plan} {r : Int} (h : RailOk p r) {s : SS} (hs : s ∈ p.strips r) : s.Ok := by
  simp only [Plan.strips, stripsTo, List.mem_map, List.mem_range] at hs
  obtain ⟨k, hk, rfl⟩ := hs
  exact strip_ok h hk

theorem sumTo_bd {p : Plan} {r : Int} (h : RailOk p r) : ∀ k, k + 1 ≤ (p.line r).length → (k : Int) ≤ sumTo (p.line r) k ∧ sumTo (p.line r) k ≤ 1000000 * k
  | 0, _ => by simp [sumTo]
  | k + 1, hk => by
    have h1 := sumTo_bd h k (by omega)
    have h2 := h.seg k (by omega)
    simp only [sumTo]
    omega

/-- The specification's word for a bend. -/
theorem bend_ref {l : List Spot} {k : Nat} (h1 : 1 ≤ segLen l (k - 1)) (h2 : 1 ≤ segLen l k) (hk : 0 < k) :
    straightB l k = !(decide (crossS (nth l (k - 1)) (nth l k) (nth l k) (nth l (k + 1)) ≠ 0) || decide (dotS (nth l (k - 1)) (nth l k) (nth l k) (nth l (k + 1)) < 0)) := by
  unfold segLen at h1 h2
  rw [show k - 1 + 1 = k by omega] at h1
  have p1 := far_pos_dot h1
  have p2 := far_pos_dot h2
  have e := lagrange (nth l (k - 1)) (nth l k) (nth l k) (nth l (k + 1))
  have p3 := Int.mul_pos p1 p2
  unfold straightB
  by_cases hc : crossS (nth l (k - 1)) (nth l k) (nth l k) (nth l (k + 1)) = 0
  · have hd : dotS (nth l (k - 1)) (nth l k) (nth l k) (nth l (k + 1)) ≠ 0 := by
      intro hd
      rw [hc, hd] at e
      omega
    simp only [hc, decide_true, Bool.true_and, ne_eq, not_true_eq_false, decide_false, Bool.false_or]
    rw [← decide_not]
    exact decide_eq_decide.2 (by omega)
  · simp [hc]

theorem dotS_sym (a b : Spot) : dotS a b a b = dotS b a b a := by
  rw [dotS_self, dotS_self]
  unfold sqd
  have h1 : (a.X - b.X) * (a.X - b.X) = (b.X - a.X) * (b.X - a.X) := by rw [← Int.neg_mul_neg]; congr 1 <;> omega
  have h2 : (a.Y - b.Y) * (a.Y - b.Y) = (b.Y - a.Y) * (b.Y - a.Y) := by rw [← Int.neg_mul_neg]; congr 1 <;> omega
  rw [h1, h2]

theorem bothB_comm (s t : SS) (d : Int) : bothB s t d = bothB t s d := by
  rw [Bool.eq_iff_iff]
  simp only [bothB, List.any_eq_true, decide_eq_true_eq]
  constructor
  · rintro ⟨q, hq, r, hr, h⟩; exact ⟨r, hr, q, hq, by rw [dotS_sym]; exact h⟩
  · rintro ⟨q, hq, r, hr, h⟩; exact ⟨r, hr, q, hq, by rw [dotS_sym]; exact h⟩

theorem foulB_comm (s : SS) (x : Profile) (t : SS) (y : Profile) : foulB s x t y = foulB t y s x := by
  unfold foulB
  rw [apart_comm, Int.add_comm x.Half y.Half, bothB_comm, show x.Half + x.Swing + y.Half + y.Swing = y.Half + y.Swing + x.Half + x.Swing by omega]
  cases swungB s t (x.Half + x.Swing + y.Half) <;> cases swungB t s (y.Half + y.Swing + x.Half) <;> rfl
end Go.Tram
/- Plain laws of distances: order, symmetry, what meets. No condition. -/
namespace Go.Tram
open Go.AM
set_option linter.unusedVariables false

theorem sq_lt {a b : Int} (h0 : 0 ≤ a) (h : a < b) : a * a < b * b := by
  have h1 : a * a ≤ a * b := Int.mul_le_mul_of_nonneg_left (by omega) h0
  have h2 : a * b < b * b := Int.mul_lt_mul_of_pos_right h (by omega)
  omega

theorem spotted_strict {a b p : Spot} {r s : Int} (hp : 0 < dotS a b a b) (h0 : 0 ≤ r) (h : r < s) (hs : 0 ≤ spotted a b p s) : 0 < spotted a b p r := by
  have hq := sq_lt h0 h
  unfold spotted at hs ⊢
  split at hs
  · rename_i h1
    rw [if_pos h1, cmpI_pos]
    rw [cmpI_nn] at hs
    omega
  · rename_i h1
    rw [if_neg h1]
    split at hs
    · rename_i h2
      rw [if_pos h2, cmpI_pos]
      rw [cmpI_nn] at hs
      omega
    · rename_i h2
      rw [if_neg h2, cmpI_pos]
      rw [cmpI_nn] at hs
      have := Int.mul_lt_mul_of_pos_right hq hp
      omega

theorem apart_strict {a b c d : Spot} {r s : Int} (hp : 0 < dotS a b a b) (hq : 0 < dotS c d c d) (h0 : 0 ≤ r) (h : r < s) (hs : 0 ≤ apart a b c d s) : 0 < apart a b c d r := by
  unfold apart at hs ⊢
  split at hs
  · rw [cmpI_nn] at hs; omega
  · rename_i hc
    rw [if_neg hc]
    have h1 : 0 ≤ spotted a b c s ∧ 0 ≤ spotted a b d s ∧ 0 ≤ spotted c d a s ∧ 0 ≤ spotted c d b s := by unfold min4 at hs; omega
    have k1 := spotted_strict hp h0 h h1.1
    have k2 := spotted_strict hp h0 h h1.2.1
    have k3 := spotted_strict hq h0 h h1.2.2.1
    have k4 := spotted_strict hq h0 h h1.2.2.2
    unfold min4; omega

theorem apart_mono {a b c d : Spot} {r s : Int} (hp : 0 < dotS a b a b) (hq : 0 < dotS c d c d) (h0 : 0 ≤ r) (h : r ≤ s) (hr : apart a b c d r ≤ 0) : apart a b c d s ≤ 0 := by
  rcases Int.lt_or_le r s with hlt | hle
  · rcases Int.lt_or_le 0 (apart a b c d s) with h1 | h1
    · have := apart_strict hp hq h0 hlt (by omega); omega
    · exact h1
  · have : r = s := by omega
    rw [← this]; exact hr

theorem gap_comm (a b c d : Spot) : gap a b c d = gap c d a b := by
  unfold gap
  congr 1
  funext r
  rw [apart_comm]

theorem gap_spec (a b c d : Spot) : (0 ≤ gap a b c d ∧ gap a b c d ≤ 5000) ∧ (gap a b c d = 0 ∨ 0 ≤ apart a b c d (gap a b c d)) ∧ (gap a b c d = 5000 ∨ apart a b c d (gap a b c d + 1) < 0) := by
  obtain ⟨h1, h2, h3, h4⟩ := bis_spec (f := fun r => decide (0 ≤ apart a b c d r)) 5000 0 5001 (by omega) (by omega)
  change 0 ≤ gap a b c d at h1
  change gap a b c d < 5001 at h2
  change gap a b c d = 0 ∨ decide (0 ≤ apart a b c d (gap a b c d)) = true at h3
  change gap a b c d + 1 = 5001 ∨ decide (0 ≤ apart a b c d (gap a b c d + 1)) = false at h4
  simp only [decide_eq_true_eq, decide_eq_false_iff_not] at h3 h4
  refine ⟨⟨h1, by omega⟩, h3, ?_⟩
  rcases h4 with h4 | h4
  · left; omega
  · right; omega

theorem gap_below {a b c d : Spot} (hp : 0 < dotS a b a b) (hq : 0 < dotS c d c d) (h : 0 < gap a b c d) : 0 < apart a b c d (gap a b c d - 1) := by
  obtain ⟨_, h3, _⟩ := gap_spec a b c d
  have h4 : 0 ≤ apart a b c d (gap a b c d) := by
    rcases h3 with h3 | h3
    · omega
    · exact h3
  exact apart_strict hp hq (by omega) (by omega) h4
theorem gap_above {a b c d : Spot} (h : gap a b c d < 5000) : apart a b c d (gap a b c d + 1) ≤ 0 := by
  obtain ⟨_, _, h4⟩ := gap_spec a b c d
  rcases h4 with h4 | h4
  · omega
  · omega

theorem dotS_zero_left (a c d : Spot) : dotS a a c d = 0 := by simp [dotS]
theorem spotted_own_a {a b : Spot} {r : Int} (h : 0 < r) : spotted a b a r < 0 := by
  have h1 : dotS a b a a = 0 := by simp [dotS]
  have h2 : dotS a a a a = 0 := by simp [dotS]
  unfold spotted
  rw [if_pos (by omega), h2, cmpI_neg]
  exact Int.mul_pos h h
theorem spotted_own_b {a b : Spot} {r : Int} (hp : 0 < dotS a b a b) (h : 0 < r) : spotted a b b r < 0 := by
  have h2 : dotS b b b b = 0 := by simp [dotS]
  unfold spotted
  rw [if_neg (by omega), if_pos (by omega), h2, cmpI_neg]
  exact Int.mul_pos h h

/-- Segments that meet are at distance 0. -/
theorem apart_meet {a b c d : Spot} {r : Int} (hp : 0 < dotS a b a b) (hq : 0 < dotS c d c d) (hm : c = a ∨ c = b ∨ d = a ∨ d = b) (h : 0 < r) : apart a b c d r < 0 := by
  unfold apart
  split
  · rw [cmpI_neg]; exact h
  · rw [min4_neg]
    rcases hm with rfl | rfl | rfl | rfl
    · exact Or.inl (spotted_own_a h)
    · exact Or.inl (spotted_own_b hp h)
    · exact Or.inr (Or.inl (spotted_own_a h))
    · exact Or.inr (Or.inl (spotted_own_b hp h))
theorem gap_meet {a b c d : Spot} (hp : 0 < dotS a b a b) (hq : 0 < dotS c d c d) (hm : c = a ∨ c = b ∨ d = a ∨ d = b) : gap a b c d = 0 := by
  obtain ⟨⟨h1, _⟩, h3, _⟩ := gap_spec a b c d
  rcases h3 with h3 | h3
  · exact h3
  · rcases Int.lt_or_le 0 (gap a b c d) with h | h
    · have := apart_meet hp hq hm h; omega
    · omega
end Go.Tram
/- Rails that are foul: all pairs of strips, rails that meet, wider profiles, all that is foul in a plan, where rails come nearest. No condition. -/
namespace Go.Tram
open Go.AM
set_option linter.unusedVariables false
set_option linter.unusedSimpArgs false

/-- The strips of two rails, in pairs. -/
def pairs (p : Plan) (a b : Int) : List (SS × SS) := (p.strips a).flatMap fun s => (p.strips b).map fun t => (s, t)

theorem flatMap_at {α β γ : Type} (f : α → β → γ) (ys : List β) : ∀ (xs : List α) (k j : Nat) (x : α) (y : β), xs[k]? = some x → ys[j]? = some y → (xs.flatMap fun x => ys.map (f x))[k * ys.length + j]? = some (f x y)
  | [], k, j, x, y, h, _ => by simp at h
  | z :: xs, 0, j, x, y, h, hy => by
    simp only [List.getElem?_cons_zero, Option.some.injEq] at h
    subst h
    have hj : j < ys.length := (List.getElem?_eq_some_iff.1 hy).1
    rw [List.flatMap_cons, List.getElem?_append_left (by simp; omega)]
    simp [hy]
  | z :: xs, k + 1, j, x, y, h, hy => by
    have h' : xs[k]? = some x := by simpa using h
    rw [List.flatMap_cons, List.getElem?_append_right (by simp [Nat.succ_mul]; omega)]
    have := flatMap_at f ys xs k j x y h' hy
    rw [List.length_map, show (k + 1) * ys.length + j - ys.length = k * ys.length + j by rw [Nat.succ_mul]; omega]
    exact this

theorem pairs_at {p : Plan} {a b : Int} {k j : Nat} {s t : SS} (hs : (p.strips a)[k]? = some s) (ht : (p.strips b)[j]? = some t) : (pairs p a b)[k * (p.strips b).length + j]? = some (s, t) := flatMap_at _ _ _ _ _ _ _ hs ht
theorem pairs_len (p : Plan) (a b : Int) : (pairs p a b).length = (p.strips a).length * (p.strips b).length := by
  unfold pairs
  induction p.strips a with
  | nil => simp
  | cons x l ih => rw [List.flatMap_cons, List.length_append, ih]; simp [Nat.succ_mul]; omega
theorem pairs_mem {p : Plan} {a b : Int} {q : SS × SS} (h : q ∈ pairs p a b) : q.1 ∈ p.strips a ∧ q.2 ∈ p.strips b := by
  simp only [pairs, List.mem_flatMap, List.mem_map] at h
  obtain ⟨s, hs, t, ht, rfl⟩ := h
  exact ⟨hs, ht⟩

def meetB (p : Plan) (a b : Int) : Bool :=
  decide (a = b) || (decide ((p.rail a).From = (p.rail b).From) || (decide ((p.rail a).From = (p.rail b).To) || (decide ((p.rail a).To = (p.rail b).From) || decide ((p.rail a).To = (p.rail b).To))))
/-- Two rails are foul for two profiles. -/
def railsB (p : Plan) (a : Int) (x : Profile) (b : Int) (y : Profile) : Bool := (pairs p a b).any fun q => foulB q.1 x q.2 y

theorem strips_first (p : Plan) (r : Int) : stripOf (p.line r) r 0 ∈ p.strips r := List.mem_of_getElem? (strips_get (k := 0) (by omega))
theorem strips_last (p : Plan) (r : Int) : stripOf (p.line r) r (p.rail r).Shape.length ∈ p.strips r := List.mem_of_getElem? (strips_get (k := (p.rail r).Shape.length) (by omega))
theorem line_first (p : Plan) (r : Int) : nth (p.line r) 0 = (p.node (p.rail r).From).Spot := by simp [nth, Plan.line, lineOf]
theorem line_last (p : Plan) (r : Int) : nth (p.line r) ((p.rail r).Shape.length + 1) = (p.node (p.rail r).To).Spot := by simp [nth, Plan.line, lineOf]

theorem prof_lo {x : Profile} (h : profB x = true) : 1 ≤ x.Half ∧ 0 ≤ x.Swing := by
  simp only [profB, Bool.and_eq_true, inr_iff] at h
  omega

theorem foulB_meet {s t : SS} {x y : Profile} (hs : s.Ok) (ht : t.Ok) (hx : profB x = true) (hy : profB y = true) (hm : t.a = s.a ∨ t.a = s.b ∨ t.b = s.a ∨ t.b = s.b) : foulB s x t y = true := by
  have h1 := prof_lo hx
  have h2 := prof_lo hy
  have h3 := apart_meet hs.p ht.p hm (r := x.Half + y.Half) (by omega)
  simp only [foulB]
  rw [decide_eq_true (show apart s.a s.b t.a t.b (x.Half + y.Half) ≤ 0 by omega)]
  rfl

theorem railsB_mem {p : Plan} {a b : Int} {x y : Profile} {s t : SS} (hs : s ∈ p.strips a) (ht : t ∈ p.strips b) (h : foulB s x t y = true) : railsB p a x b y = true :=
  List.any_eq_true.2 ⟨(s, t), by simp only [pairs, List.mem_flatMap, List.mem_map]; exact ⟨s, hs, t, ht, rfl⟩, h⟩

theorem rails_meet {p : Plan} {a b : Int} {x y : Profile} (hv : validB p = true) (ha : inr a 0 (p.Rails.length - 1) = true) (hb : inr b 0 (p.Rails.length - 1) = true) (hx : profB x = true) (hy : profB y = true) (hm : meetB p a b = true) : railsB p a x b y = true := by
  have ia := inr_iff.1 ha
  have ib := inr_iff.1 hb
  have ra := rail_ok hv (r := a) (by omega) (by omega)
  have rb := rail_ok hv (r := b) (by omega) (by omega)
  have fa := strips_ok ra (strips_first p a)
  have la := strips_ok ra (strips_last p a)
  have fb := strips_ok rb (strips_first p b)
  have lb := strips_ok rb (strips_last p b)
  simp only [meetB, Bool.or_eq_true, decide_eq_true_eq] at hm
  rcases hm with rfl | h | h | h | h
  · exact railsB_mem (strips_first p a) (strips_first p a) (foulB_meet fa fa hx hy (Or.inl rfl))
  · refine railsB_mem (strips_first p a) (strips_first p b) (foulB_meet fa fb hx hy (Or.inl ?_))
    show nth (p.line b) 0 = nth (p.line a) 0
    rw [line_first, line_first, h]
  · refine railsB_mem (strips_first p a) (strips_last p b) (foulB_meet fa lb hx hy (Or.inr (Or.inr (Or.inl ?_))))
    show nth (p.line b) ((p.rail b).Shape.length + 1) = nth (p.line a) 0
    rw [line_first, line_last, h]
  · refine railsB_mem (strips_last p a) (strips_first p b) (foulB_meet la fb hx hy (Or.inr (Or.inl ?_)))
    show nth (p.line b) 0 = nth (p.line a) ((p.rail a).Shape.length + 1)
    rw [line_first, line_last, h]
  · refine railsB_mem (strips_last p a) (strips_last p b) (foulB_meet la lb hx hy (Or.inr (Or.inr (Or.inr ?_))))
    show nth (p.line b) ((p.rail b).Shape.length + 1) = nth (p.line a) ((p.rail a).Shape.length + 1)
    rw [line_last, line_last, h]

theorem spotted_mono {a b q : Spot} {r s : Int} (hp : 0 < dotS a b a b) (h0 : 0 ≤ r) (h : r ≤ s) (hr : spotted a b q r ≤ 0) : spotted a b q s ≤ 0 := by
  by_cases e : r = s
  · subst e; exact hr
  · rcases Int.lt_or_le (spotted a b q s) 0 with k | k
    · omega
    · have := spotted_strict hp h0 (show r < s by omega) k
      omega
theorem any_mono {α : Type} {l : List α} {f g : α → Bool} (h : ∀ x ∈ l, f x = true → g x = true) (hf : l.any f = true) : l.any g = true := by
  obtain ⟨x, hx, k⟩ := List.any_eq_true.1 hf
  exact List.any_eq_true.2 ⟨x, hx, h x hx k⟩
theorem sq_mono {a b : Int} (h0 : 0 ≤ a) (h : a ≤ b) : a * a ≤ b * b := Int.mul_le_mul h h h0 (by omega)

theorem foulB_mono {s t : SS} {x y x' y' : Profile} (hs : s.Ok) (ht : t.Ok) (hx : profB x = true) (hy : profB y = true) (h1 : x.Half ≤ x'.Half) (h2 : x.Swing ≤ x'.Swing) (k1 : y.Half ≤ y'.Half) (k2 : y.Swing ≤ y'.Swing)
    (h : foulB s x t y = true) : foulB s x' t y' = true := by
  have lx := prof_lo hx
  have ly := prof_lo hy
  simp only [foulB, Bool.or_eq_true, decide_eq_true_eq] at h ⊢
  rcases h with h | h | h | h
  · exact Or.inl (apart_mono hs.p ht.p (by omega) (by omega) h)
  · refine Or.inr (Or.inl (any_mono (fun q _ hq => ?_) h))
    simp only [decide_eq_true_eq] at hq ⊢
    exact spotted_mono ht.p (by omega) (by omega) hq
  · refine Or.inr (Or.inr (Or.inl (any_mono (fun q _ hq => ?_) h)))
    simp only [decide_eq_true_eq] at hq ⊢
    exact spotted_mono hs.p (by omega) (by omega) hq
  · refine Or.inr (Or.inr (Or.inr (any_mono (fun q _ hq => any_mono (fun r _ hr => ?_) hq) h)))
    simp only [decide_eq_true_eq] at hr ⊢
    exact Int.le_trans hr (sq_mono (by omega) (by omega))

theorem railsB_mono {p : Plan} {a b : Int} {x y x' y' : Profile} (hv : validB p = true) (ha : inr a 0 (p.Rails.length - 1) = true) (hb : inr b 0 (p.Rails.length - 1) = true) (hx : profB x = true) (hy : profB y = true)
    (h1 : x.Half ≤ x'.Half) (h2 : x.Swing ≤ x'.Swing) (k1 : y.Half ≤ y'.Half) (k2 : y.Swing ≤ y'.Swing) (h : railsB p a x b y = true) : railsB p a x' b y' = true := by
  have ia := inr_iff.1 ha
  have ib := inr_iff.1 hb
  have ra := rail_ok hv (r := a) (by omega) (by omega)
  have rb := rail_ok hv (r := b) (by omega) (by omega)
  refine any_mono (fun q hq hf => ?_) h
  have hm := pairs_mem hq
  exact foulB_mono (strips_ok ra hm.1) (strips_ok rb hm.2) hx hy h1 h2 k1 k2 hf

-- all that is foul in a plan: what is found so far, by loop
def pr (l : List Profile) (k : Nat) : Profile := l[k]?.getD default
theorem pr_get {l : List Profile} {k : Nat} {x : Profile} (h : l[k]? = some x) : pr l k = x := by simp [pr, h]
@[irreducible] def hitF (p : Plan) (l : List Profile) (a i b k : Nat) : Bool := (decide (a < b) || decide (i ≤ k)) && railsB p a (pr l i) b (pr l k)
def fK (p : Plan) (l : List Profile) (a i b n : Nat) : List Foul := (List.range n).flatMap fun k => if hitF p l a i b k then [⟨a, i, b, k⟩] else []
def fB (p : Plan) (l : List Profile) (a i n : Nat) : List Foul := (List.range n).flatMap fun d => fK p l a i (a + d) l.length
def fI (p : Plan) (l : List Profile) (a n : Nat) : List Foul := (List.range n).flatMap fun i => fB p l a i (p.Rails.length - a)
def fA (p : Plan) (l : List Profile) (n : Nat) : List Foul := (List.range n).flatMap fun a => fI p l a l.length
def foulsL (p : Plan) (l : List Profile) : List Foul := fA p l p.Rails.length

theorem fK_succ (p : Plan) (l : List Profile) (a i b n : Nat) : fK p l a i b (n + 1) = fK p l a i b n ++ (if hitF p l a i b n then [⟨a, i, b, n⟩] else []) := by
  simp only [fK, List.range_succ, List.flatMap_append, List.flatMap_cons, List.flatMap_nil, List.append_nil]
theorem fB_succ (p : Plan) (l : List Profile) (a i n : Nat) : fB p l a i (n + 1) = fB p l a i n ++ fK p l a i (a + n) l.length := by
  simp only [fB, List.range_succ, List.flatMap_append, List.flatMap_cons, List.flatMap_nil, List.append_nil]
theorem fI_succ (p : Plan) (l : List Profile) (a n : Nat) : fI p l a (n + 1) = fI p l a n ++ fB p l a n (p.Rails.length - a) := by
  simp only [fI, List.range_succ, List.flatMap_append, List.flatMap_cons, List.flatMap_nil, List.append_nil]
theorem fA_succ (p : Plan) (l : List Profile) (n : Nat) : fA p l (n + 1) = fA p l n ++ fI p l n l.length := by
  simp only [fA, List.range_succ, List.flatMap_append, List.flatMap_cons, List.flatMap_nil, List.append_nil]

theorem flat_len {α β : Type} (f : α → List β) (B : Nat) : ∀ (l : List α), (∀ x ∈ l, (f x).length ≤ B) → (l.flatMap f).length ≤ l.length * B
  | [], _ => by simp
  | x :: l, h => by
    rw [List.flatMap_cons, List.length_append, List.length_cons, Nat.succ_mul]
    have h1 := h x (by simp)
    have h2 := flat_len f B l fun y hy => h y (by simp [hy])
    omega
theorem range_flat_len {β : Type} (f : Nat → List β) (B n : Nat) (h : ∀ k, (f k).length ≤ B) : ((List.range n).flatMap f).length ≤ n * B := by
  have := flat_len f B (List.range n) fun x _ => h x
  rwa [List.length_range] at this
theorem fK_len (p : Plan) (l : List Profile) (a i b n : Nat) : (fK p l a i b n).length ≤ n := by
  have := range_flat_len (fun k => if hitF p l a i b k then [(⟨a, i, b, k⟩ : Foul)] else []) 1 n (fun k => by split <;> simp)
  unfold fK
  omega
theorem fB_len (p : Plan) (l : List Profile) (a i n : Nat) : (fB p l a i n).length ≤ n * l.length := range_flat_len _ _ _ fun d => fK_len p l a i (a + d) l.length
theorem fI_len (p : Plan) (l : List Profile) (a n : Nat) : (fI p l a n).length ≤ n * (p.Rails.length * l.length) :=
  range_flat_len _ _ _ fun i => Nat.le_trans (fB_len p l a i _) (Nat.mul_le_mul (by omega) (Nat.le_refl _))
theorem fA_len (p : Plan) (l : List Profile) (n : Nat) : (fA p l n).length ≤ n * (l.length * (p.Rails.length * l.length)) := range_flat_len _ _ _ fun a => fI_len p l a l.length

/-- A bound of all four loops. -/
theorem fouls_bd (p : Plan) (l : List Profile) {N a i d k : Nat} (hN : p.Rails.length ≤ N) (hl : l.length ≤ 16) (ha : a < p.Rails.length) (hi : i ≤ l.length) (hd : d ≤ p.Rails.length) (hk : k ≤ l.length) :
    (fA p l a ++ fI p l a i ++ fB p l a i d ++ fK p l a i (a + d) k).length ≤ N * (16 * (N * 16)) + 16 * (N * 16) + N * 16 + 16 := by
  have h1 := fA_len p l a
  have h2 := fI_len p l a i
  have h3 := fB_len p l a i d
  have h4 := fK_len p l a i (a + d) k
  have k1 : a * (l.length * (p.Rails.length * l.length)) ≤ N * (16 * (N * 16)) := Nat.mul_le_mul (by omega) (Nat.mul_le_mul hl (Nat.mul_le_mul hN hl))
  have k2 : i * (p.Rails.length * l.length) ≤ 16 * (N * 16) := Nat.mul_le_mul (by omega) (Nat.mul_le_mul hN hl)
  have k3 : d * l.length ≤ N * 16 := Nat.mul_le_mul (by omega) hl
  simp only [List.length_append]
  omega

theorem mem_foulsL {p : Plan} {l : List Profile} {f : Foul} : f ∈ foulsL p l ↔ ∃ a, a < p.Rails.length ∧ ∃ i, i < l.length ∧ ∃ d, d < p.Rails.length - a ∧ ∃ k, k < l.length ∧ hitF p l a i (a + d) k = true ∧ f = ⟨a, i, (a + d : Nat), k⟩ := by
  simp only [foulsL, fA, fI, fB, fK, List.mem_flatMap, List.mem_range]
  constructor
  · rintro ⟨a, ha, i, hi, d, hd, k, hk, h⟩
    refine ⟨a, ha, i, hi, d, hd, k, hk, ?_⟩
    split at h
    · rename_i e; exact ⟨e, by simpa using h⟩
    · simp at h
  · rintro ⟨a, ha, i, hi, d, hd, k, hk, h, rfl⟩
    exact ⟨a, ha, i, hi, d, hd, k, hk, by rw [if_pos h]; simp⟩

theorem mem_fouls1 {p : Plan} {x : Profile} {f : Foul} : f ∈ foulsL p [x] ↔ ∃ a b : Nat, a ≤ b ∧ b < p.Rails.length ∧ railsB p a x b x = true ∧ f = ⟨a, 0, b, 0⟩ := by
  rw [mem_foulsL]
  constructor
  · rintro ⟨a, ha, i, hi, d, hd, k, hk, h, rfl⟩
    have hi0 : i = 0 := by simpa using hi
    have hk0 : k = 0 := by simpa using hk
    subst hi0 hk0
    unfold hitF at h
    simp only [Bool.and_eq_true] at h
    exact ⟨a, a + d, by omega, by omega, by simpa [pr] using h.2, rfl⟩
  · rintro ⟨a, b, hab, hb, h, rfl⟩
    refine ⟨a, by omega, 0, by simp, b - a, by omega, 0, by simp, ?_, by rw [show a + (b - a) = b by omega]; rfl⟩
    unfold hitF
    rw [show a + (b - a) = b by omega]
    simpa [pr] using h

/-- Wider profiles. -/
theorem fouls_wider {p : Plan} {x y : Profile} (hv : validB p = true) (hx : profB x = true) (h1 : x.Half ≤ y.Half) (h2 : x.Swing ≤ y.Swing) {f : Foul} (hf : f ∈ foulsL p [x]) : f ∈ foulsL p [y] := by
  rw [mem_fouls1] at hf ⊢
  obtain ⟨a, b, hab, hb, h, rfl⟩ := hf
  exact ⟨a, b, hab, hb, railsB_mono hv (inr_iff.2 (by omega)) (inr_iff.2 (by omega)) hx hx h1 h2 h1 h2 h, rfl⟩
theorem fouls_meet {p : Plan} {x : Profile} (hv : validB p = true) (hx : profB x = true) {a b : Nat} (hab : a ≤ b) (hb : b < p.Rails.length) (hm : meetB p a b = true) : (⟨a, 0, b, 0⟩ : Foul) ∈ foulsL p [x] :=
  mem_fouls1.2 ⟨a, b, hab, hb, rails_meet hv (inr_iff.2 (by omega)) (inr_iff.2 (by omega)) hx hx hm, rfl⟩

-- where rails come nearest
structure Pair where
  a : Strip
  b : Strip
  gap : Int
  deriving Inhabited
@[simp] def Pair.cells (q : Pair) : List AV := [I q.a.Rail, I q.a.Segment, I q.b.Rail, I q.b.Segment, I q.gap]
def gapQ (q : SS × SS) : Int := gap q.1.a q.1.b q.2.a q.2.b
def pairQ (q : SS × SS) : Pair := ⟨⟨q.1.Rail, q.1.Segment⟩, ⟨q.2.Rail, q.2.Segment⟩, gapQ q⟩
def wstep (o x : Pair) : Pair := if x.gap < o.gap then x else o
def pair0 : Pair := ⟨⟨0, 0⟩, ⟨0, 0⟩, 5001⟩
def leastP (l : List Pair) : Pair := l.foldl wstep pair0
theorem wstep_first {x : Pair} (h : x.gap ≤ 5000) : wstep pair0 x = x := if_pos (show x.gap < 5001 by omega)
theorem gapQ_bd (q : SS × SS) : gapQ q ≤ 5000 := (gap_spec _ _ _ _).1.2
theorem leastP_take {l : List Pair} {k : Nat} {x : Pair} (h : l[k]? = some x) : leastP (l.take (k + 1)) = wstep (leastP (l.take k)) x := by
  rw [List.take_add_one, h]; simp [leastP]
end Go.Tram
/- A plan whose spots are moved: what is foul stays, and distances stay. No condition. -/
namespace Go.Tram
open Go.AM
set_option linter.unusedVariables false
set_option linter.unusedSimpArgs false

/-- It keeps distances; all turns stay, or all turns are mirrored. -/
structure Iso (m : Spot → Spot) : Prop where
  dot : ∀ a b c d, dotS (m a) (m b) (m c) (m d) = dotS a b c d
  cross : (∀ a b c d, crossS (m a) (m b) (m c) (m d) = crossS a b c d) ∨ ∀ a b c d, crossS (m a) (m b) (m c) (m d) = -crossS a b c d

def moveS (y : Spot) (k : Int) (s : Spot) : Spot := if k = 1 then ⟨s.Y + y.X, s.X + y.Y⟩ else if k = 2 then ⟨s.X + y.X, -s.Y + y.Y⟩ else ⟨s.X + y.X, s.Y + y.Y⟩

theorem neg_shift (a b : Int) : -b - -a = -(b - a) := by omega
theorem moveS_iso (y : Spot) (k : Int) : Iso (moveS y k) := by
  by_cases h1 : k = 1
  · have e : ∀ s, moveS y k s = ⟨s.Y + y.X, s.X + y.Y⟩ := fun s => if_pos h1
    constructor
    · intro a b c d
      simp only [e, dotS, Int.add_sub_add_right]
      exact Int.add_comm _ _
    · right
      intro a b c d
      simp only [e, crossS, Int.add_sub_add_right]
      omega
  · by_cases h2 : k = 2
    · have e : ∀ s, moveS y k s = ⟨s.X + y.X, -s.Y + y.Y⟩ := fun s => by unfold moveS; rw [if_neg h1, if_pos h2]
      constructor
      · intro a b c d
        simp only [e, dotS, Int.add_sub_add_right, neg_shift, Int.neg_mul_neg]
      · right
        intro a b c d
        simp only [e, crossS, Int.add_sub_add_right, neg_shift, Int.mul_neg, Int.neg_mul]
        first | done | omega
    · have e : ∀ s, moveS y k s = ⟨s.X + y.X, s.Y + y.Y⟩ := fun s => by unfold moveS; rw [if_neg h1, if_neg h2]
      constructor
      · intro a b c d
        simp only [e, dotS, Int.add_sub_add_right]
      · left
        intro a b c d
        simp only [e, crossS, Int.add_sub_add_right]

section
variable {m : Spot → Spot}
theorem cmpI_neg0 (c : Int) : cmpI (-c) 0 = -cmpI c 0 := by
  unfold cmpI
  split <;> split <;> (try split) <;> (try split) <;> omega
theorem iso_sides (h : Iso m) (a b c d : Spot) : sideS (m a) (m b) (m c) * sideS (m a) (m b) (m d) = sideS a b c * sideS a b d := by
  unfold sideS
  rcases h.cross with hc | hc
  · rw [hc, hc]
  · rw [hc, hc, cmpI_neg0, cmpI_neg0, Int.neg_mul_neg]
theorem iso_crossing (h : Iso m) (a b c d : Spot) : crossing (m a) (m b) (m c) (m d) = crossing a b c d := by
  unfold crossing
  rw [iso_sides h, iso_sides h]
theorem iso_spotted (h : Iso m) (a b q : Spot) (r : Int) : spotted (m a) (m b) (m q) r = spotted a b q r := by
  unfold spotted
  have hc : crossS (m a) (m b) (m a) (m q) * crossS (m a) (m b) (m a) (m q) = crossS a b a q * crossS a b a q := by
    rcases h.cross with hc | hc
    · rw [hc]
    · rw [hc, Int.neg_mul_neg]
  simp only [h.dot, hc]
theorem iso_apart (h : Iso m) (a b c d : Spot) (r : Int) : apart (m a) (m b) (m c) (m d) r = apart a b c d r := by
  unfold apart
  simp only [iso_crossing h, iso_spotted h]
theorem iso_gap (h : Iso m) (a b c d : Spot) : gap (m a) (m b) (m c) (m d) = gap a b c d := by
  unfold gap
  congr 1
  funext r
  rw [iso_apart h]
theorem iso_straight (h : Iso m) (a b c d : Spot) : (decide (crossS (m a) (m b) (m c) (m d) = 0) && decide (0 < dotS (m a) (m b) (m c) (m d))) = (decide (crossS a b c d = 0) && decide (0 < dotS a b c d)) := by
  rw [h.dot]
  congr 1
  rcases h.cross with hc | hc
  · rw [hc]
  · rw [hc]
    by_cases e : crossS a b c d = 0
    · rw [decide_eq_true e, decide_eq_true (by omega)]
    · rw [decide_eq_false e, decide_eq_false (by omega)]

def movedP (m : Spot → Spot) (p : Plan) : Plan := ⟨p.Nodes.map fun n => { n with Spot := m n.Spot }, p.Rails.map fun r => { r with Shape := r.Shape.map m }⟩

theorem moved_rails (m : Spot → Spot) (p : Plan) : (movedP m p).Rails.length = p.Rails.length := by simp [movedP]
theorem moved_rail (m : Spot → Spot) (p : Plan) {r : Int} (h0 : 0 ≤ r) (h1 : r < p.Rails.length) : (movedP m p).rail r = { p.rail r with Shape := (p.rail r).Shape.map m } := by
  have : r.toNat < p.Rails.length := by omega
  unfold Plan.rail
  simp [movedP, this]
theorem moved_node (m : Spot → Spot) (p : Plan) {i : Int} (h0 : 0 ≤ i) (h1 : i < p.Nodes.length) : (movedP m p).node i = { p.node i with Spot := m (p.node i).Spot } := by
  have : i.toNat < p.Nodes.length := by omega
  unfold Plan.node
  simp [movedP, this]
theorem moved_line (m : Spot → Spot) {p : Plan} (hv : validB p = true) {r : Int} (h0 : 0 ≤ r) (h1 : r < p.Rails.length) : (movedP m p).line r = (p.line r).map m := by
  have ro := rail_ok hv h0 h1
  unfold Plan.line lineOf
  rw [moved_rail m p h0 h1]
  simp only []
  rw [moved_node m p ro.f.1 ro.f.2, moved_node m p ro.t.1 ro.t.2]
  simp
theorem nth_map {l : List Spot} {k : Nat} (h : k < l.length) : nth (l.map m) k = m (nth l k) := by simp [nth, h]
theorem bendL_map (h : Iso m) (l : List Spot) (k : Nat) : bendL (l.map m) k = (bendL l k).map m := by
  have hb : bendB (l.map m) k = bendB l k := by
    unfold bendB
    rw [List.length_map]
    by_cases h0 : 0 < k
    · by_cases h1 : k + 1 < l.length
      · congr 3
        unfold straightB
        rw [nth_map (by omega), nth_map (by omega), nth_map (by omega), iso_straight h]
      · rw [decide_eq_false h1]; simp
    · rw [decide_eq_false h0]; simp
  unfold bendL
  rw [hb]
  by_cases e : bendB l k = true
  · rw [if_pos e, if_pos e]
    have : k < l.length := by
      simp only [bendB, Bool.and_eq_true, decide_eq_true_eq] at e
      omega
    rw [nth_map this]; rfl
  · rw [if_neg e, if_neg e]; rfl

/-- Strips that differ by a move. -/
structure Mv (m : Spot → Spot) (s s' : SS) : Prop where
  a : s'.a = m s.a
  b : s'.b = m s.b
  bends : s'.bends = s.bends.map m

theorem strip_mv (h : Iso m) (l : List Spot) (r : Int) {k : Nat} (hk : k + 1 < l.length) : Mv m (stripOf l r k) (stripOf (l.map m) r k) :=
  ⟨nth_map (by omega), nth_map hk, by show bendL _ _ ++ bendL _ _ = _; rw [bendL_map h, bendL_map h, ← List.map_append]; rfl⟩

theorem foulB_mv (h : Iso m) {s s' t t' : SS} (hs : Mv m s s') (ht : Mv m t t') (x y : Profile) : foulB s' x t' y = foulB s x t y := by
  have sw : ∀ {s s' t t' : SS} (d : Int), Mv m s s' → Mv m t t' → swungB s' t' d = swungB s t d := by
    intro s s' t t' d hs ht
    unfold swungB
    rw [hs.bends, ht.a, ht.b, List.any_map]
    congr 1
    funext q
    simp only [Function.comp_apply, iso_spotted h]
  have bo : ∀ d : Int, bothB s' t' d = bothB s t d := by
    intro d
    unfold bothB
    rw [hs.bends, ht.bends, List.any_map]
    congr 1
    funext q
    simp only [Function.comp_apply, List.any_map]
    congr 1
    funext r
    simp only [Function.comp_apply, h.dot]
  unfold foulB
  rw [sw _ hs ht, sw _ ht hs, bo, hs.a, hs.b, ht.a, ht.b, iso_apart h]

theorem any_congr' {α : Type} {l : List α} {f g : α → Bool} (h : ∀ x ∈ l, f x = g x) : l.any f = l.any g := by
  induction l with
  | nil => rfl
  | cons x l ih => rw [List.any_cons, List.any_cons, h x (by simp), ih fun y hy => h y (by simp [hy])]

theorem railsB_range (p : Plan) (a : Int) (x : Profile) (b : Int) (y : Profile) : railsB p a x b y =
    (List.range ((p.rail a).Shape.length + 1)).any fun i => (List.range ((p.rail b).Shape.length + 1)).any fun k => foulB (stripOf (p.line a) a i) x (stripOf (p.line b) b k) y := by
  unfold railsB pairs
  rw [List.any_flatMap]
  unfold Plan.strips stripsTo
  simp only [List.any_map, Function.comp_def]

theorem railsB_mv (h : Iso m) {p : Plan} (hv : validB p = true) {a b : Int} (ha : inr a 0 (p.Rails.length - 1) = true) (hb : inr b 0 (p.Rails.length - 1) = true) (x y : Profile) : railsB (movedP m p) a x b y = railsB p a x b y := by
  have ia := inr_iff.1 ha
  have ib := inr_iff.1 hb
  rw [railsB_range, railsB_range, moved_line m hv (by omega) (by omega), moved_line m hv (by omega) (by omega), moved_rail m p (by omega) (by omega), moved_rail m p (by omega) (by omega)]
  simp only [List.length_map]
  refine any_congr' fun i hi => any_congr' fun k hk => ?_
  rw [List.mem_range] at hi hk
  have la := line_len p a
  have lb := line_len p b
  exact foulB_mv h (strip_mv h _ _ (by omega)) (strip_mv h _ _ (by omega)) x y

theorem hitF_mv (h : Iso m) {p : Plan} (hv : validB p = true) (l : List Profile) {a b : Nat} (i k : Nat) (ha : a < p.Rails.length) (hb : b < p.Rails.length) : hitF (movedP m p) l a i b k = hitF p l a i b k := by
  unfold hitF
  rw [railsB_mv h hv (inr_iff.2 (by omega)) (inr_iff.2 (by omega))]
theorem flatMap_congr' {α β : Type} {l : List α} {f g : α → List β} (h : ∀ x ∈ l, f x = g x) : l.flatMap f = l.flatMap g := by
  induction l with
  | nil => rfl
  | cons x l ih => rw [List.flatMap_cons, List.flatMap_cons, h x (by simp), ih fun y hy => h y (by simp [hy])]
theorem foulsL_mv (h : Iso m) {p : Plan} (hv : validB p = true) (l : List Profile) : foulsL (movedP m p) l = foulsL p l := by
  unfold foulsL fA
  rw [moved_rails]
  refine flatMap_congr' fun a ha => ?_
  unfold fI
  rw [moved_rails]
  refine flatMap_congr' fun i hi => ?_
  unfold fB
  refine flatMap_congr' fun d hd => ?_
  unfold fK
  refine flatMap_congr' fun k hk => ?_
  rw [List.mem_range] at ha hd
  rw [hitF_mv h hv l i k ha (by omega)]

theorem stripB_mv (m : Spot → Spot) (p : Plan) (s : Strip) : stripB (movedP m p) s = stripB p s := by
  unfold stripB
  rw [moved_rails]
  cases hi : inr s.Rail 0 (p.Rails.length - 1) with
  | false => rfl
  | true =>
    have := inr_iff.1 hi
    rw [moved_rail m p (by omega) (by omega)]
    simp
theorem gap_mv (h : Iso m) {p : Plan} (hv : validB p = true) {a b : Strip} (ha : stripB p a = true) (hb : stripB p b = true) :
    gap ((movedP m p).strip a).a ((movedP m p).strip a).b ((movedP m p).strip b).a ((movedP m p).strip b).b = gap (p.strip a).a (p.strip a).b (p.strip b).a (p.strip b).b := by
  have one : ∀ s : Strip, stripB p s = true → Mv m (p.strip s) ((movedP m p).strip s) := by
    intro s hs
    simp only [stripB, Bool.and_eq_true, inr_iff] at hs
    unfold Plan.strip
    rw [moved_line m hv (by omega) (by omega)]
    have := line_len p s.Rail
    exact strip_mv h _ _ (by omega)
  have h1 := one a ha
  have h2 := one b hb
  rw [h1.a, h1.b, h2.a, h2.b, iso_gap h]
end
end Go.Tram
