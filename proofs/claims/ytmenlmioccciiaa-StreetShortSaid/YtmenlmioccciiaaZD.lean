/- Walks: the search for the shortest tour, one step. -/
import Derived.Test.YtmenlmioccciiaaZC
namespace Go.Street
open Go.AM Go.Proofs
set_option maxRecDepth 10000
set_option maxHeartbeats 8000000
set_option linter.unusedVariables false
set_option linter.unusedSimpArgs false

/-- What the search has found. -/
structure Bs where
  best : Option (List Int)
  least : Int
def bestAV : Option (List Int) → AV
  | none => .v (.slice none 0 0)
  | some t => iL t
@[simp] theorem bestAV_none : bestAV none = .v (.slice none 0 0) := rfl
@[simp] theorem bestAV_some (t : List Int) : bestAV (some t) = iL t := rfl
@[simp] theorem bestAV_ren (g : List (Option Nat)) (n : Nat) (b : Option (List Int)) : renAV g n (bestAV b) = bestAV b := by
  cases b <;> cases n <;> rfl
abbrev bRow (s : Bs) : Option ARow := some (.els 1 [[bestAV s.best]])
abbrev lRow (s : Bs) : Option ARow := some (.els 1 [[I s.least]])

/-- The variable that holds the branch, so deep. -/
def bAV (j : Jn) (l : List Int) : Nat → AV
  | 0 => .vptr [.any]
  | n + 1 => .vptr [.clo 47 [.vptr [.clo 49 [.ptr 0 0 0, .ptr 1 0 0, .iptr [iL l], .iptr j.cells, bAV j l n]]]]
theorem bAV_ren (j : Jn) (l : List Int) (G : List (Option Nat)) (h0 : newName G 0 = some 0) (h1 : newName G 1 = some 1) : ∀ n k, 4 * n + 1 ≤ k → renAV G k (bAV j l n) = bAV j l n
  | 0, k, h => by
    obtain ⟨k, rfl⟩ : ∃ m, k = m + 1 := ⟨k - 1, by omega⟩
    show AV.vptr [renAV G k .any] = _
    cases k <;> rfl
  | n + 1, k, h => by
    obtain ⟨k, rfl⟩ : ∃ m, k = m + 4 := ⟨k - 4, by omega⟩
    have ih := bAV_ren j l G h0 h1 n k (by omega)
    have p0 : renAV G k (.ptr 0 0 0) = .ptr 0 0 0 := by
      have e : renAV G k (.ptr 0 0 0) = match newName G 0 with | some q => .ptr q 0 0 | none => .any := by cases k <;> rfl
      rw [e, h0]
    have p1 : renAV G k (.ptr 1 0 0) = .ptr 1 0 0 := by
      have e : renAV G k (.ptr 1 0 0) = match newName G 1 with | some q => .ptr q 0 0 | none => .any := by cases k <;> rfl
      rw [e, h1]
    have p2 : renAV G k (.iptr [iL l]) = .iptr [iL l] := by cases k <;> rfl
    have p3 : renAV G k (.iptr j.cells) = .iptr j.cells := by cases k <;> rfl
    show AV.vptr [.clo 47 [.vptr [.clo 49 [renAV G k (.ptr 0 0 0), renAV G k (.ptr 1 0 0), renAV G k (.iptr [iL l]), renAV G k (.iptr j.cells), renAV G k (bAV j l n)]]]] = _
    rw [ih, p0, p1, p2, p3]; rfl
theorem bAV_renC (j : Jn) (l : List Int) (H : Nat → Option ARow) : ∀ n k, 4 * n + 1 ≤ k → renC H [0, 1] k (bAV j l n) = bAV j l n
  | 0, k, h => by
    obtain ⟨k, rfl⟩ : ∃ m, k = m + 1 := ⟨k - 1, by omega⟩
    show AV.vptr [renC H [0, 1] k .any] = _
    cases k <;> rfl
  | n + 1, k, h => by
    obtain ⟨k, rfl⟩ : ∃ m, k = m + 1 + 4 := ⟨k - 5, by omega⟩
    have ih := bAV_renC j l H n (k + 1) (by omega)
    have p0 : renC H [0, 1] (k + 1) (.ptr 0 0 0) = .ptr 0 0 0 := rfl
    have p1 : renC H [0, 1] (k + 1) (.ptr 1 0 0) = .ptr 1 0 0 := rfl
    have p2 : renC H [0, 1] (k + 1) (.iptr [iL l]) = .iptr [iL l] := rfl
    have p3 : renC H [0, 1] (k + 1) (.iptr j.cells) = .iptr j.cells := rfl
    show AV.vptr [.clo 47 [.vptr [.clo 49 [renC H [0, 1] (k + 1) (.ptr 0 0 0), renC H [0, 1] (k + 1) (.ptr 1 0 0), renC H [0, 1] (k + 1) (.iptr [iL l]), renC H [0, 1] (k + 1) (.iptr j.cells), renC H [0, 1] (k + 1) (bAV j l n)]]]] = _
    rw [ih, p0, p1, p2, p3]; rfl

def hopeB (s : Bs) (len : Int) : Bool := s.best.isSome && decide (s.least ≤ len)
def lastI (t : List Int) : Int := at0 t ((t.length : Int) - 1)
def stepLen (j : Jn) (t : List Int) (len x : Int) : Int := len + clr j (lastI t) x + (strm j x).Least
def lpF (g : Bs → Int → Option Bs) : List Int → Bs → Option Bs
  | [], s => some s
  | x :: l, s => (g s x).bind (lpF g l)
/-- A branch that is given up leaves all as it is. -/
def orG (s : Bs) (len : Int) (r : Option Bs) : Option Bs := if hopeB s len then some s else r
/-- The search; none: it is given up, or goes deeper than it may. -/
def srF (j : Jn) (l : List Int) : Nat → Bs → List Int → Int → Option Bs
  | 0, _, _, _ => none
  | n + 1, s, t, len =>
    if hopeB s len then none
    else if t.length = l.length then
      some (if s.best.isNone || decide (len + clr j (lastI t) (at0 t 0) < s.least) then ⟨some t, len + clr j (lastI t) (at0 t 0)⟩ else s)
    else lpF (fun s x => if x ∈ t then some s else orG s (stepLen j t len x) (srF j l n s (t ++ [x]) (stepLen j t len x))) l s

theorem lpF_append (g : Bs → Int → Option Bs) : ∀ (a b : List Int) (s : Bs), lpF g (a ++ b) s = (lpF g a s).bind (lpF g b)
  | [], b, s => rfl
  | x :: a, b, s => by
    simp only [List.cons_append, lpF]
    cases g s x with
    | none => rfl
    | some s1 => simp only [Option.bind_some]; exact lpF_append g a b s1
theorem lpF_take {g : Bs → Int → Option Bs} {l : List Int} {s s' : Bs} (h : lpF g l s = some s') (k : Nat) : ∃ sk, lpF g (l.take k) s = some sk ∧ lpF g (l.drop k) sk = some s' := by
  rw [← List.take_append_drop k l, lpF_append] at h
  cases hk : lpF g (l.take k) s with
  | none => rw [hk] at h; cases h
  | some sk => rw [hk] at h; exact ⟨sk, rfl, h⟩
theorem lpF_step {g : Bs → Int → Option Bs} {l : List Int} {s sk : Bs} {k : Nat} {x : Int} (h : lpF g (l.take k) s = some sk) (hx : l[k]? = some x) : lpF g (l.take (k + 1)) s = g sk x := by
  rw [List.take_add_one, hx, lpF_append, h]
  simp only [Option.toList_some, Option.bind_some, lpF]
  cases g sk x <;> rfl

/-- What the search has found is a tour that is not empty, and its length is small. -/
structure BsOk (s : Bs) : Prop where
  ne : ∀ t, s.best = some t → t ≠ []
  lo : -10000 ≤ s.least
  hi : s.least ≤ 10000
/-- A tour so far. -/
structure TrOk (j : Jn) (t : List Int) (len : Int) : Prop where
  n1 : 1 ≤ t.length
  n2 : t.length ≤ 12
  bd : ∀ x ∈ t, 0 ≤ x ∧ x < j.n
  lo : -200 * (t.length : Int) ≤ len
  hi : len ≤ 200 * (t.length : Int)
theorem TrOk.last {j : Jn} {t : List Int} {len : Int} (h : TrOk j t len) : t[t.length - 1]? = some (lastI t) ∧ 0 ≤ lastI t ∧ lastI t < j.n := by
  have h1 := h.n1
  have := at0_nat (l := t) (k := t.length - 1) (by omega)
  have e : lastI t = at0 t (t.length - 1 : Nat) := by unfold lastI; congr 1; omega
  rw [← e] at this
  exact ⟨this, h.bd _ (List.mem_of_getElem? this)⟩
theorem TrOk.snoc {j : Jn} (ho : JOk j) {t : List Int} {len x : Int} (h : TrOk j t len) (hn : t.length ≤ 11) (x0 : 0 ≤ x) (x1 : x < j.n) : TrOk j (t ++ [x]) (stepLen j t len x) := by
  obtain ⟨_, l0, l1⟩ := h.last
  have h1 := ho.cl (lastI t) x l0 l1 x0 x1
  have h2 := ho.strm x x0 x1
  have := h.lo; have := h.hi
  refine ⟨by simp, by simp; omega, fun y hy => ?_, ?_, ?_⟩
  · rcases List.mem_append.1 hy with hy | hy
    · exact h.bd y hy
    · simp at hy; subst hy; exact ⟨x0, x1⟩
  · simp only [stepLen, List.length_append, List.length_singleton]; omega
  · simp only [stepLen, List.length_append, List.length_singleton]; omega

theorem srF_ok {j : Jn} (ho : JOk j) {l : List Int} (hl : ∀ x ∈ l, 0 ≤ x ∧ x < j.n) : ∀ (n : Nat) (s : Bs) (t : List Int) (len : Int) (s' : Bs), srF j l n s t len = some s' → BsOk s → TrOk j t len → t.length + n ≤ 12 → BsOk s'
  | 0, s, t, len, s', h, _, _, _ => by cases h
  | n + 1, s, t, len, s', h, hs, ht, hn => by
    simp only [srF] at h
    split at h
    · cases h
    · split at h
      · simp only [Option.some.injEq] at h
        subst h
        split
        · obtain ⟨_, l0, l1⟩ := ht.last
          have h1 := ht.n1
          have g0 := at0_nat (l := t) (k := 0) (by omega)
          have h0 := ht.bd _ (List.mem_of_getElem? g0)
          have hc := ho.cl (lastI t) (at0 t 0) l0 l1 h0.1 h0.2
          have := ht.lo; have := ht.hi; have := ht.n2
          refine ⟨fun u hu => ?_, ?_, ?_⟩
          · simp only [Option.some.injEq] at hu; subst hu; intro e; rw [e] at h1; simp at h1
          · simp only; omega
          · simp only; omega
        · exact hs
      · have gen : ∀ (m : List Int) (s s' : Bs), (∀ x ∈ m, x ∈ l) → BsOk s → lpF (fun s x => if x ∈ t then some s else orG s (stepLen j t len x) (srF j l n s (t ++ [x]) (stepLen j t len x))) m s = some s' → BsOk s' := by
          intro m
          induction m with
          | nil => intro s s' _ hs h; simp only [lpF, Option.some.injEq] at h; subst h; exact hs
          | cons x m ih =>
            intro s s' hm hs h
            simp only [lpF, Option.bind_eq_some_iff] at h
            obtain ⟨s1, h1, h2⟩ := h
            refine ih s1 s' (fun y hy => hm y (by simp [hy])) ?_ h2
            split at h1
            · simp only [Option.some.injEq] at h1; subst h1; exact hs
            · have hx := hl x (hm x (by simp))
              unfold orG at h1
              split at h1
              · simp only [Option.some.injEq] at h1; subst h1; exact hs
              exact srF_ok ho hl n s _ _ s1 h1 hs (ht.snoc ho (by omega) hx.1 hx.2) (by simp; omega)
        exact gen l s s' (fun x hx => hx) hs h
theorem orG_ok {j : Jn} (ho : JOk j) {l : List Int} (hl : ∀ x ∈ l, 0 ≤ x ∧ x < j.n) (n : Nat) (s : Bs) (t : List Int) (len : Int) (s' : Bs) (h : orG s len (srF j l n s t len) = some s') (hs : BsOk s) (ht : TrOk j t len) (hn : t.length + n ≤ 12) : BsOk s' := by
  unfold orG at h
  split at h
  · simp only [Option.some.injEq] at h; subst h; exact hs
  · exact srF_ok ho hl n s t len s' h hs ht hn

abbrev srArgs (j : Jn) (l t : List Int) (len : Int) (b : AV) : List AV := [iL t, I len, .ptr 0 0 0, .ptr 1 0 0, .iptr [iL l], .iptr j.cells, b]
abbrev brArgs (j : Jn) (l t : List Int) (len : Int) (b : AV) : List AV := [iL t, I len, .vptr [.clo 49 [.ptr 0 0 0, .ptr 1 0 0, .iptr [iL l], .iptr j.cells, b]]]
end Go.Street
