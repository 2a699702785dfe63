/- Strips of a plan, what is foul, clear, a zone: plain words that the program and its specification share. No condition. -/
import Derived.Test.YteodgilndjjgdaaS2
namespace Go.Tram
open Go.AM

/-- A strip with what the sweep knows of it. -/
structure SS where
  Rail : Int
  Segment : Int
  a : Spot
  b : Spot
  bends : List Spot
  From : Int
  To : Int
  deriving Inhabited

@[simp] def SS.cells (s : SS) : List AV := [I s.Rail, I s.Segment, I s.a.X, I s.a.Y, I s.b.X, I s.b.Y, .lst 2 (s.bends.map Spot.cells), I s.From, I s.To]
abbrev SS.av (s : SS) : AV := .agg s.cells

def straightB (l : List Spot) (k : Nat) : Bool := decide (crossS (nth l (k - 1)) (nth l k) (nth l k) (nth l (k + 1)) = 0) && decide (0 < dotS (nth l (k - 1)) (nth l k) (nth l k) (nth l (k + 1)))
def bendB (l : List Spot) (k : Nat) : Bool := decide (0 < k) && (decide (k + 1 < l.length) && !straightB l k)
def bendL (l : List Spot) (k : Nat) : List Spot := if bendB l k then [nth l k] else []
def stripOf (l : List Spot) (r : Int) (k : Nat) : SS := ⟨r, k, nth l k, nth l (k + 1), bendL l k ++ bendL l (k + 1), sumTo l k, sumTo l (k + 1)⟩
def stripsTo (l : List Spot) (r : Int) (n : Nat) : List SS := (List.range n).map (stripOf l r)
def Plan.strips (p : Plan) (r : Int) : List SS := stripsTo (p.line r) r ((p.rail r).Shape.length + 1)
def sheetRows (p : Plan) (n : Nat) : List (List AV) := (List.range n).map fun (r : Nat) => [.lst 9 ((p.strips (r : Int)).map SS.cells)]
def sheet (p : Plan) : List AV := p.cells ++ [.lst 1 (sheetRows p p.Rails.length)]

def profB (x : Profile) : Bool := inr x.Half 1 2000 && inr x.Swing 0 1500
def swungB (s t : SS) (d : Int) : Bool := s.bends.any fun q => decide (spotted t.a t.b q d ≤ 0)
def bothB (s t : SS) (d : Int) : Bool := s.bends.any fun q => t.bends.any fun r => decide (dotS q r q r ≤ d * d)
def foulB (s : SS) (x : Profile) (t : SS) (y : Profile) : Bool :=
  decide (apart s.a s.b t.a t.b (x.Half + y.Half) ≤ 0) || (swungB s t (x.Half + x.Swing + y.Half) || (swungB t s (y.Half + y.Swing + x.Half) || bothB s t (x.Half + x.Swing + y.Half + y.Swing)))

/-- A strip is in order. -/
structure SS.Ok (s : SS) : Prop where
  a : spotB s.a = true
  b : spotB s.b = true
  l : s.bends.all spotB = true
  n : s.bends.length ≤ 2
  p : 0 < dotS s.a s.b s.a s.b

def stripB (p : Plan) (s : Strip) : Bool := inr s.Rail 0 (p.Rails.length - 1) && inr s.Segment 0 (p.rail s.Rail).Shape.length
def Plan.strip (p : Plan) (s : Strip) : SS := stripOf (p.line s.Rail) s.Rail s.Segment.toNat

def coverB (p : Plan) (c : Cover) : Bool := inr c.Rail 0 (p.Rails.length - 1) && (decide (0 ≤ c.From) && (decide (c.From < c.To) && decide (c.To ≤ p.len c.Rail)))
def coversB (p : Plan) (l : List Cover) : Bool := decide (l.length ≤ 100) && l.all (coverB p)
def touchedOne (p : Plan) (c : Cover) : List SS := (p.strips c.Rail).filter fun x => decide (c.From < x.To) && decide (x.From < c.To)
def touched (p : Plan) (l : List Cover) : List SS := l.flatMap (touchedOne p)
def clearB (p : Plan) (a : List Cover) (x : Profile) (b : List Cover) (y : Profile) : Bool := !(touched p a).any fun s => (touched p b).any fun t => foulB s x t y

def zoneStep (r : Int) (out : List Cover) (s : SS) : List Cover :=
  match out.getLast? with
  | some c => if c.To = s.From then out.dropLast ++ [⟨c.Rail, c.From, s.To⟩] else out ++ [⟨r, s.From, s.To⟩]
  | none => [⟨r, s.From, s.To⟩]
def zoneHit (p : Plan) (x : Profile) (b : Int) (y : Profile) (s : SS) : Bool := (p.strips b).any fun t => foulB s x t y
def zoneL (p : Plan) (a : Int) (x : Profile) (b : Int) (y : Profile) (l : List SS) : List Cover :=
  l.foldl (fun out s => if zoneHit p x b y s then zoneStep a out s else out) []
def zone (p : Plan) (a : Int) (x : Profile) (b : Int) (y : Profile) : List Cover := zoneL p a x b y (p.strips a)

theorem strips_len (p : Plan) (r : Int) : (p.strips r).length = (p.rail r).Shape.length + 1 := by simp [Plan.strips, stripsTo]
theorem strips_get {p : Plan} {r : Int} {k : Nat} (h : k < (p.rail r).Shape.length + 1) : (p.strips r)[k]? = some (stripOf (p.line r) r k) := by
  simp [Plan.strips, stripsTo, h]

/-- What a valid plan gives. -/
theorem valid_parts {p : Plan} (h : validB p = true) : (1 ≤ p.Nodes.length ∧ p.Nodes.length ≤ 300) ∧ (1 ≤ p.Rails.length ∧ p.Rails.length ≤ 400) ∧ p.Nodes.all nodeB = true ∧ p.Rails.all (railB p) = true ∧ validE p = true := by
  simp only [validB, validA, Bool.and_eq_true, inr_iff] at h
  obtain ⟨⟨⟨⟨h1, h2⟩, h3⟩, h4⟩, h5⟩ := h
  exact ⟨by omega, by omega, h3, h4, h5⟩

structure RailOk (p : Plan) (r : Int) : Prop where
  f : 0 ≤ (p.rail r).From ∧ (p.rail r).From < p.Nodes.length
  t : 0 ≤ (p.rail r).To ∧ (p.rail r).To < p.Nodes.length
  s : (p.rail r).Shape.length ≤ 30
  spots : (p.line r).all spotB = true
  spot : ∀ k, k < (p.line r).length → spotB (nth (p.line r) k) = true
  seg : ∀ k, k + 1 < (p.line r).length → 1 ≤ segLen (p.line r) k ∧ segLen (p.line r) k ≤ 1000000
  len : (p.line r).length = (p.rail r).Shape.length + 2

theorem rail_ok {p : Plan} (h : validB p = true) {r : Int} (h0 : 0 ≤ r) (h1 : r < p.Rails.length) : RailOk p r := by
  obtain ⟨_, _, hA, hR, _⟩ := valid_parts h
  have hb : railB p (p.rail r) = true := List.all_eq_true.1 hR _ (List.mem_of_getElem? (p.rail_get h0 h1))
  simp only [railB, railA, Bool.and_eq_true, inr_iff, decide_eq_true_eq] at hb
  obtain ⟨⟨b1, b2, b3, b4, b5⟩, b6, b7⟩ := hb
  have sF := nodeB_spot (node_ends hA (i := (p.rail r).From) (by omega) (by omega))
  have sT := nodeB_spot (node_ends hA (i := (p.rail r).To) (by omega) (by omega))
  have hl := line_len p r
  have hsp := line_spots (p := p) (i := r) sF sT b6
  refine ⟨by omega, by omega, b3, hsp, fun k hk => List.all_eq_true.1 hsp _ (List.mem_of_getElem? (nth_get hk)), fun k hk => ?_, hl⟩
  have := List.all_eq_true.1 b7 k (by simp; omega)
  simp only [segB, inr_iff] at this
  exact this

theorem far_pos_dot {a b : Spot} (h : 1 ≤ far a b) : 0 < dotS a b a b := by
  have h0 := dotS_nn a b
  rcases Int.lt_or_eq_of_le h0 with h1 | h1
  · exact h1
  · have hs : sqd a b = 0 := by rw [← dotS_self, ← h1]
    have : far a b = 0 := by unfold far; rw [hs]; exact isq_of ⟨by omega, by omega, by omega⟩
    omega

theorem bendL_sub {l : List Spot} {k : Nat} {s : Spot} (h : s ∈ bendL l k) : 0 < k ∧ k + 1 < l.length ∧ s = nth l k := by
  unfold bendL at h
  split at h
  · rename_i hb
    simp only [bendB, Bool.and_eq_true, decide_eq_true_eq] at hb
    exact ⟨hb.1, hb.2.1, by simpa using h⟩
  · cases h
theorem bendL_len (l : List Spot) (k : Nat) : (bendL l k).length ≤ 1 := by unfold bendL; split <;> simp

theorem strip_ok {p : Plan} {r : Int} (h : RailOk p r) {k : Nat} (hk : k < (p.rail r).Shape.length + 1) : (stripOf (p.line r) r k).Ok := by
  have hl := h.len
  refine ⟨h.spot _ (by omega), h.spot _ (by omega), ?_, ?_, ?_⟩
  · rw [List.all_eq_true]
    intro s hs
    simp only [stripOf, List.mem_append] at hs
    rcases hs with hs | hs
    · obtain ⟨_, h2, rfl⟩ := bendL_sub hs; exact h.spot _ (by omega)
    · obtain ⟨_, h2, rfl⟩ := bendL_sub hs; exact h.spot _ (by omega)
  · have := bendL_len (p.line r) k
    have := bendL_len (p.line r) (k + 1)
    simp only [stripOf, List.length_append]; omega
  · have := (h.seg k (by omega)).1
    unfold segLen at this
    exact far_pos_dot this

theorem strips_ok {p : Plan} {r : Int} (h : RailOk p r) {s : SS} (hs : s ∈ p.strips r) : s.Ok := by
  simp only [Plan.strips, stripsTo, List.mem_map, List.mem_range] at hs
  obtain ⟨k, hk, rfl⟩ := hs
  exact strip_ok h hk

theorem sumTo_bd {p : Plan} {r : Int} (h : RailOk p r) : ∀ k, k + 1 ≤ (p.line r).length → (k : Int) ≤ sumTo (p.line r) k ∧ sumTo (p.line r) k ≤ 1000000 * k
  | 0, _ => by simp [sumTo]
  | k + 1, hk => by
    have h1 := sumTo_bd h k (by omega)
    have h2 := h.seg k (by omega)
    simp only [sumTo]
    omega

/-- The specification's word for a bend. -/
theorem bend_ref {l : List Spot} {k : Nat} (h1 : 1 ≤ segLen l (k - 1)) (h2 : 1 ≤ segLen l k) (hk : 0 < k) :
    straightB l k = !(decide (crossS (nth l (k - 1)) (nth l k) (nth l k) (nth l (k + 1)) ≠ 0) || decide (dotS (nth l (k - 1)) (nth l k) (nth l k) (nth l (k + 1)) < 0)) := by
  unfold segLen at h1 h2
  rw [show k - 1 + 1 = k by omega] at h1
  have p1 := far_pos_dot h1
  have p2 := far_pos_dot h2
  have e := lagrange (nth l (k - 1)) (nth l k) (nth l k) (nth l (k + 1))
  have p3 := Int.mul_pos p1 p2
  unfold straightB
  by_cases hc : crossS (nth l (k - 1)) (nth l k) (nth l k) (nth l (k + 1)) = 0
  · have hd : dotS (nth l (k - 1)) (nth l k) (nth l k) (nth l (k + 1)) ≠ 0 := by
      intro hd
      rw [hc, hd] at e
      omega
    simp only [hc, decide_true, Bool.true_and, ne_eq, not_true_eq_false, decide_false, Bool.false_or]
    rw [← decide_not]
    exact decide_eq_decide.2 (by omega)
  · simp [hc]

theorem dotS_sym (a b : Spot) : dotS a b a b = dotS b a b a := by
  rw [dotS_self, dotS_self]
  unfold sqd
  have h1 : (a.X - b.X) * (a.X - b.X) = (b.X - a.X) * (b.X - a.X) := by rw [← Int.neg_mul_neg]; congr 1 <;> omega
  have h2 : (a.Y - b.Y) * (a.Y - b.Y) = (b.Y - a.Y) * (b.Y - a.Y) := by rw [← Int.neg_mul_neg]; congr 1 <;> omega
  rw [h1, h2]

theorem bothB_comm (s t : SS) (d : Int) : bothB s t d = bothB t s d := by
  rw [Bool.eq_iff_iff]
  simp only [bothB, List.any_eq_true, decide_eq_true_eq]
  constructor
  · rintro ⟨q, hq, r, hr, h⟩; exact ⟨r, hr, q, hq, by rw [dotS_sym]; exact h⟩
  · rintro ⟨q, hq, r, hr, h⟩; exact ⟨r, hr, q, hq, by rw [dotS_sym]; exact h⟩

theorem foulB_comm (s : SS) (x : Profile) (t : SS) (y : Profile) : foulB s x t y = foulB t y s x := by
  unfold foulB
  rw [apart_comm, Int.add_comm x.Half y.Half, bothB_comm, show x.Half + x.Swing + y.Half + y.Swing = y.Half + y.Swing + x.Half + x.Swing by omega]
  cases swungB s t (x.Half + x.Swing + y.Half) <;> cases swungB t s (y.Half + y.Swing + x.Half) <;> rfl
end Go.Tram
