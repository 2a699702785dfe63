/- The data of the tramways as the abstract machine holds them, and small lemmas. No condition. -/
import Derived.Test.YtdabjdajemiagaaTds
namespace Go.Tram
open Go.AM

structure Spot where
  X : Int
  Y : Int
  deriving DecidableEq, Inhabited
structure REnd where
  Rail : Int
  Last : Bool
  deriving DecidableEq, Inhabited
structure Node where
  Spot : Spot
  Kind : Int
  Ends : List REnd
  Normal : Int
  deriving Inhabited
structure Rail where
  From : Int
  To : Int
  Shape : List Spot
  Limit : Int
  Slope : Int
  deriving Inhabited
structure Plan where
  Nodes : List Node
  Rails : List Rail
  deriving Inhabited
structure Strip where
  Rail : Int
  Segment : Int
  deriving DecidableEq, Inhabited
structure Profile where
  Half : Int
  Swing : Int
  deriving DecidableEq, Inhabited
structure Cover where
  Rail : Int
  From : Int
  To : Int
  deriving DecidableEq, Inhabited
structure Foul where
  RailA : Int
  ProfileA : Int
  RailB : Int
  ProfileB : Int
  deriving DecidableEq, Inhabited

@[simp] def Spot.cells (s : Spot) : List AV := [I s.X, I s.Y]
@[simp] def REnd.cells (s : REnd) : List AV := [I s.Rail, Bo s.Last]
@[simp] def Node.cells (n : Node) : List AV := [I n.Spot.X, I n.Spot.Y, I n.Kind, .lst 2 (n.Ends.map REnd.cells), I n.Normal]
@[simp] def Rail.cells (r : Rail) : List AV := [I r.From, I r.To, .lst 2 (r.Shape.map Spot.cells), I r.Limit, I r.Slope]
@[simp] def Plan.cells (p : Plan) : List AV := [.lst 5 (p.Nodes.map Node.cells), .lst 5 (p.Rails.map Rail.cells)]
@[simp] def Strip.cells (s : Strip) : List AV := [I s.Rail, I s.Segment]
@[simp] def Profile.cells (s : Profile) : List AV := [I s.Half, I s.Swing]
@[simp] def Cover.cells (s : Cover) : List AV := [I s.Rail, I s.From, I s.To]
@[simp] def Foul.cells (s : Foul) : List AV := [I s.RailA, I s.ProfileA, I s.RailB, I s.ProfileB]

abbrev Spot.av (s : Spot) : AV := .agg s.cells
abbrev Plan.av (s : Plan) : AV := .agg s.cells
abbrev Strip.av (s : Strip) : AV := .agg s.cells
abbrev Profile.av (s : Profile) : AV := .agg s.cells
abbrev Node.av (s : Node) : AV := .agg s.cells
abbrev Rail.av (s : Rail) : AV := .agg s.cells
abbrev REnd.av (s : REnd) : AV := .agg s.cells
abbrev Cover.av (s : Cover) : AV := .agg s.cells
abbrev Foul.av (s : Foul) : AV := .agg s.cells

/-- An int's number stays where it fits. -/
theorem wrap_in {n : Int} (h1 : -9223372036854775808 ≤ n) (h2 : n ≤ 9223372036854775807) : IntKind.i64.wrap n = n := IntWalk.i64_in n ⟨h1, h2⟩

theorem mul_bd {a b A B : Int} (ha : -A ≤ a) (ha' : a ≤ A) (hb : -B ≤ b) (hb' : b ≤ B) : -(A * B) ≤ a * b ∧ a * b ≤ A * B := by
  have hA : 0 ≤ A := by omega
  have hB : 0 ≤ B := by omega
  have h1 : (a * b).natAbs ≤ (A * B).natAbs := by
    rw [Int.natAbs_mul, Int.natAbs_mul]
    exact Nat.mul_le_mul (by omega) (by omega)
  have h2 : 0 ≤ A * B := Int.mul_nonneg hA hB
  omega

theorem sq_nn (a : Int) : 0 ≤ a * a := by
  rcases Int.le_total 0 a with h | h
  · exact Int.mul_nonneg h h
  · have := Int.mul_nonneg (show 0 ≤ -a by omega) (show 0 ≤ -a by omega)
    rwa [Int.neg_mul_neg] at this

/-- Within a range. -/
def inr (x lo hi : Int) : Bool := decide (lo ≤ x) && decide (x ≤ hi)
theorem inr_iff {x lo hi : Int} : inr x lo hi = true ↔ lo ≤ x ∧ x ≤ hi := by simp [inr]

/-- The integer part of a square root. -/
def IsSq (n r : Int) : Prop := 0 ≤ r ∧ r * r ≤ n ∧ n < (r + 1) * (r + 1)
def isqN : Nat → Nat
  | 0 => 0
  | n + 1 => if (isqN n + 1) * (isqN n + 1) ≤ n + 1 then isqN n + 1 else isqN n
@[irreducible] def isq (n : Int) : Int := (isqN n.toNat : Int)

theorem isqN_spec : ∀ n : Nat, isqN n * isqN n ≤ n ∧ n < (isqN n + 1) * (isqN n + 1)
  | 0 => by simp [isqN]
  | n + 1 => by
    obtain ⟨h1, h2⟩ := isqN_spec n
    simp only [isqN]
    split
    · rename_i h
      refine ⟨h, ?_⟩
      have : (isqN n + 1) * (isqN n + 1) < (isqN n + 1 + 1) * (isqN n + 1 + 1) := Nat.mul_lt_mul'' (by omega) (by omega)
      omega
    · exact ⟨by omega, by omega⟩

theorem isq_spec {n : Int} (h : 0 ≤ n) : IsSq n (isq n) := by
  obtain ⟨h1, h2⟩ := isqN_spec n.toNat
  refine ⟨by simp [isq], ?_, ?_⟩
  · have : ((isqN n.toNat * isqN n.toNat : Nat) : Int) ≤ n := by omega
    simpa [isq] using this
  · have : n < (((isqN n.toNat + 1) * (isqN n.toNat + 1) : Nat) : Int) := by omega
    simpa [isq] using this

theorem isSq_unique {n r s : Int} (h : IsSq n r) (k : IsSq n s) : r = s := by
  obtain ⟨h1, h2, h3⟩ := h
  obtain ⟨k1, k2, k3⟩ := k
  rcases Int.lt_trichotomy r s with h | h | h
  · have : (r + 1) * (r + 1) ≤ s * s := Int.mul_le_mul (by omega) (by omega) (by omega) (by omega)
    omega
  · exact h
  · have : (s + 1) * (s + 1) ≤ r * r := Int.mul_le_mul (by omega) (by omega) (by omega) (by omega)
    omega

theorem isq_of {n r : Int} (h : IsSq n r) : isq n = r := by
  have h0 : 0 ≤ n := Int.le_trans (Int.mul_nonneg h.1 h.1) h.2.1
  exact isSq_unique (isq_spec h0) h

def spotB (s : Spot) : Bool := inr s.X (-10000000) 10000000 && inr s.Y (-10000000) 10000000
def sqd (a b : Spot) : Int := (a.X - b.X) * (a.X - b.X) + (a.Y - b.Y) * (a.Y - b.Y)
def far (a b : Spot) : Int := isq (sqd a b)

theorem spotB_iff {s : Spot} : spotB s = true ↔ (-10000000 ≤ s.X ∧ s.X ≤ 10000000) ∧ -10000000 ≤ s.Y ∧ s.Y ≤ 10000000 := by simp [spotB, inr_iff]

theorem sqd_bd {a b : Spot} (ha : spotB a = true) (hb : spotB b = true) : 0 ≤ sqd a b ∧ sqd a b ≤ 800000000000000 := by
  rw [spotB_iff] at ha hb
  have h1 := mul_bd (a := a.X - b.X) (b := a.X - b.X) (A := 20000000) (B := 20000000) (by omega) (by omega) (by omega) (by omega)
  have h2 := mul_bd (a := a.Y - b.Y) (b := a.Y - b.Y) (A := 20000000) (B := 20000000) (by omega) (by omega) (by omega) (by omega)
  have h3 := sq_nn (a.X - b.X)
  have h4 := sq_nn (a.Y - b.Y)
  unfold sqd
  omega

theorem far_bd {a b : Spot} (ha : spotB a = true) (hb : spotB b = true) : 0 ≤ far a b ∧ far a b < 30000000 := by
  obtain ⟨h1, h2⟩ := sqd_bd ha hb
  obtain ⟨k1, k2, k3⟩ := isq_spec h1
  refine ⟨k1, ?_⟩
  unfold far
  rcases Int.lt_or_le (isq (sqd a b)) 30000000 with h | h
  · exact h
  · have : (30000000 : Int) * 30000000 ≤ isq (sqd a b) * isq (sqd a b) := Int.mul_le_mul h h (by omega) (by omega)
    omega

@[irreducible] def Plan.node (p : Plan) (i : Int) : Node := p.Nodes[i.toNat]?.getD default
@[irreducible] def Plan.rail (p : Plan) (i : Int) : Rail := p.Rails[i.toNat]?.getD default

theorem get_of {α : Type} [Inhabited α] {l : List α} {i : Int} (h0 : 0 ≤ i) (h1 : i < l.length) : l[i.toNat]? = some (l[i.toNat]?.getD default) := by
  have : i.toNat < l.length := by omega
  simp [this]

theorem Plan.node_get {p : Plan} {i : Int} (h0 : 0 ≤ i) (h1 : i < p.Nodes.length) : p.Nodes[i.toNat]? = some (p.node i) := by unfold Plan.node; exact get_of h0 h1
theorem Plan.rail_get {p : Plan} {i : Int} (h0 : 0 ≤ i) (h1 : i < p.Rails.length) : p.Rails[i.toNat]? = some (p.rail i) := by unfold Plan.rail; exact get_of h0 h1

def endsN (k : Int) : Int := if k = 1 then 1 else if k = 2 then 2 else if k = 3 then 4 else if k = 4 ∨ k = 5 ∨ k = 6 then 3 else 0

/-- The line of a rail. -/
def lineOf (p : Plan) (r : Rail) : List Spot := (p.node r.From).Spot :: (r.Shape ++ [(p.node r.To).Spot])
def Plan.line (p : Plan) (i : Int) : List Spot := lineOf p (p.rail i)

/-- The node of an end. -/
def Plan.at (p : Plan) (e : REnd) : Int := if e.Last then (p.rail e.Rail).To else (p.rail e.Rail).From

def nth (l : List Spot) (k : Nat) : Spot := l[k]?.getD default
@[irreducible] def segLen (l : List Spot) (k : Nat) : Int := far (nth l k) (nth l (k + 1))
def sumTo (l : List Spot) : Nat → Int
  | 0 => 0
  | k + 1 => sumTo l k + segLen l k
/-- The length of a rail. -/
@[irreducible] def Plan.len (p : Plan) (i : Int) : Int := sumTo (p.line i) ((p.rail i).Shape.length + 1)

theorem nth_get {l : List Spot} {k : Nat} (h : k < l.length) : l[k]? = some (nth l k) := by simp [nth, h]
theorem line_len (p : Plan) (i : Int) : (p.line i).length = (p.rail i).Shape.length + 2 := by simp [Plan.line, lineOf]

def nodeB (n : Node) : Bool := (if n.Kind = 5 ∨ n.Kind = 6 then inr n.Normal 1 2 else decide (n.Normal = 0)) && (spotB n.Spot && (decide (endsN n.Kind ≠ 0) && decide ((n.Ends.length : Int) = endsN n.Kind)))
def segB (l : List Spot) (k : Nat) : Bool := inr (segLen l k) 1 1000000
def railA (p : Plan) (r : Rail) : Bool := inr r.From 0 (p.Nodes.length - 1) && (inr r.To 0 (p.Nodes.length - 1) && (decide (r.Shape.length ≤ 30) && (inr r.Limit 1 50000 && inr r.Slope (-120) 120)))
def railB (p : Plan) (r : Rail) : Bool := railA p r && (r.Shape.all spotB && (List.range (r.Shape.length + 1)).all (segB (lineOf p r)))
def endsOf (p : Plan) : Nat → List (Nat × REnd)
  | 0 => []
  | k + 1 => endsOf p k ++ (p.node k).Ends.map fun e => (k, e)
def endB (p : Plan) (x : Nat × REnd) : Bool := inr x.2.Rail 0 (p.Rails.length - 1) && decide (p.at x.2 = (x.1 : Int))
def validA (p : Plan) : Bool := inr p.Nodes.length 1 300 && inr p.Rails.length 1 400 && p.Nodes.all nodeB && p.Rails.all (railB p)
def validE (p : Plan) : Bool := (endsOf p p.Nodes.length).all (endB p) && (decide ((endsOf p p.Nodes.length).map (·.2)).Nodup && decide ((endsOf p p.Nodes.length).length = 2 * p.Rails.length))
/-- A plan is valid. -/
def validB (p : Plan) : Bool := validA p && validE p

theorem take_all {α : Type} [Inhabited α] {l : List α} {f : α → Bool} {k : Nat} (h : k < l.length) : (l.take (k + 1)).all f = ((l.take k).all f && f (l[k]?.getD default)) := by
  rw [List.take_add_one, List.all_append]
  simp [h]

theorem take_all' {α : Type} {l : List α} {f : α → Bool} {k : Nat} {x : α} (h : l[k]? = some x) : (l.take (k + 1)).all f = ((l.take k).all f && f x) := by
  rw [List.take_add_one, List.all_append, h]
  simp
theorem all_of_take {α : Type} {l : List α} {f : α → Bool} {k : Nat} (hk : l.length ≤ k) (h : (l.take k).all f = true) : l.all f = true := by rwa [List.take_of_length_le hk] at h
theorem all_ff {α : Type} {l : List α} {f : α → Bool} {k : Nat} {x : α} (h : l[k]? = some x) (hf : f x = false) : l.all f = false := by
  rw [List.all_eq_false]
  exact ⟨x, List.mem_of_getElem? h, by simp [hf]⟩
theorem valid_ff_node {p : Plan} {k : Nat} {n : Node} (h : p.Nodes[k]? = some n) (hf : nodeB n = false) : validB p = false := by simp [validB, validA, all_ff h hf]
theorem valid_ff_rail {p : Plan} {k : Nat} {r : Rail} (h : p.Rails[k]? = some r) (hf : railB p r = false) : validB p = false := by simp [validB, validA, all_ff h hf]

def curE (p : Plan) (i j : Nat) : List (Nat × REnd) := endsOf p i ++ ((p.node i).Ends.take j).map fun e => (i, e)
@[simp] def eCells (l : List (Nat × REnd)) : List (List AV) := l.map fun x => x.2.cells
theorem curE_zero (p : Plan) (i : Nat) : curE p i 0 = endsOf p i := by simp [curE]
theorem curE_succ {p : Plan} {i j : Nat} {e : REnd} (he : (p.node i).Ends[j]? = some e) : curE p i (j + 1) = curE p i j ++ [(i, e)] := by
  simp [curE, List.take_add_one, he]
theorem curE_all {p : Plan} {i j : Nat} (h : (p.node i).Ends.length ≤ j) : curE p i j = endsOf p (i + 1) := by
  simp [curE, endsOf, List.take_of_length_le h]
theorem endsOf_prefix (p : Plan) (i : Nat) : ∀ d, ∃ rest, endsOf p (i + d) = endsOf p i ++ rest
  | 0 => ⟨[], by simp⟩
  | d + 1 => by
    obtain ⟨r, hr⟩ := endsOf_prefix p i d
    exact ⟨r ++ (p.node ((i + d : Nat) : Int)).Ends.map fun e => (i + d, e), by rw [← Nat.add_assoc]; simp only [endsOf]; rw [hr, List.append_assoc]⟩
theorem E_prefix {p : Plan} {i j : Nat} (hi : i < p.Nodes.length) {e : REnd} (he : (p.node i).Ends[j]? = some e) : ∃ rest, endsOf p p.Nodes.length = curE p i j ++ (i, e) :: rest := by
  obtain ⟨r, hr⟩ := endsOf_prefix p (i + 1) (p.Nodes.length - (i + 1))
  rw [show i + 1 + (p.Nodes.length - (i + 1)) = p.Nodes.length by omega] at hr
  refine ⟨((p.node i).Ends.drop (j + 1)).map (fun e => (i, e)) ++ r, ?_⟩
  rw [hr]
  have hj : j < (p.node i).Ends.length := (List.getElem?_eq_some_iff.1 he).1
  have he' : (p.node i).Ends[j] = e := (List.getElem?_eq_some_iff.1 he).2
  have : (p.node i).Ends = (p.node i).Ends.take j ++ e :: (p.node i).Ends.drop (j + 1) := by
    rw [← he', List.getElem_cons_drop, List.take_append_drop]
  simp only [endsOf, curE]
  conv => lhs; rw [this]
  simp
theorem valid_ff_end {p : Plan} {i j : Nat} (hi : i < p.Nodes.length) {e : REnd} (he : (p.node i).Ends[j]? = some e) (hf : endB p (i, e) = false) : validB p = false := by
  obtain ⟨r, hr⟩ := E_prefix hi he
  simp [validB, validE, hr, hf]
theorem valid_ff_dup {p : Plan} {i j m : Nat} (hi : i < p.Nodes.length) {e : REnd} (he : (p.node i).Ends[j]? = some e) {x : Nat × REnd} (hx : (curE p i j)[m]? = some x) (hxe : x.2 = e) : validB p = false := by
  obtain ⟨r, hr⟩ := E_prefix hi he
  have hm : e ∈ (curE p i j).map (·.2) := by rw [← hxe]; exact List.mem_map_of_mem (List.mem_of_getElem? hx)
  have : ¬ ((endsOf p p.Nodes.length).map (·.2)).Nodup := by
    rw [hr, List.map_append, List.map_cons, List.nodup_append]
    rintro ⟨_, _, h⟩
    exact h _ hm _ (by simp) rfl
  simp [validB, validE, this]
theorem node_ends {p : Plan} (h : p.Nodes.all nodeB = true) {i : Int} (h0 : 0 ≤ i) (h1 : i < p.Nodes.length) : nodeB (p.node i) = true := List.all_eq_true.1 h _ (List.mem_of_getElem? (p.node_get h0 h1))
theorem nodeB_spot {n : Node} (h : nodeB n = true) : spotB n.Spot = true := by simp [nodeB] at h; exact h.2.1
theorem nodeB_len {n : Node} (h : nodeB n = true) : n.Ends.length ≤ 4 := by
  simp only [nodeB, Bool.and_eq_true, decide_eq_true_eq] at h
  have h2 := h.2.2.2
  unfold endsN at h2
  repeat (split at h2; omega)
  omega
theorem endsOf_len {p : Plan} (h : p.Nodes.all nodeB = true) : ∀ i, i ≤ p.Nodes.length → (endsOf p i).length ≤ 4 * i
  | 0, _ => by simp [endsOf]
  | i + 1, hi => by
    have := endsOf_len h i (by omega)
    have h2 := nodeB_len (node_ends h (i := (i : Int)) (by omega) (by omega))
    simp only [endsOf, List.length_append, List.length_map]
    omega
theorem curE_len {p : Plan} (h : p.Nodes.all nodeB = true) {i j : Nat} (hi : i < p.Nodes.length) : (curE p i j).length ≤ 4 * i + 4 := by
  have h1 := endsOf_len h i (by omega)
  have h2 := nodeB_len (node_ends h (i := (i : Int)) (by omega) (by omega))
  simp only [curE, List.length_append, List.length_map, List.length_take]
  omega
theorem line_spots {p : Plan} {i : Int} (hf : spotB (p.node (p.rail i).From).Spot = true) (ht : spotB (p.node (p.rail i).To).Spot = true) (hs : (p.rail i).Shape.all spotB = true) : (p.line i).all spotB = true := by
  simp only [Plan.line, lineOf, List.all_cons, List.all_append, List.all_nil, hf, ht, hs, Bool.and_self]

end Go.Tram
