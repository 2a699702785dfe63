/- The abstract machine, part X: results of which less is said. No condition. -/
import Derived.Test.YteodgilndjjgdaaAmR
namespace Go.AM
set_option linter.unusedVariables false
set_option linter.unusedSimpArgs false

/-- Literals and nil slices as slices like any other ('z': an element's cells of the nil slices). -/
def wkN (z : Nat) : Nat → AV → AV
  | _, .v (.slice none 0 0) => .lst z []
  | n + 1, .full s e => .lst s (e.map fun el => el.map (wkN z n))
  | n + 1, .lst s e => .lst s (e.map fun el => el.map (wkN z n))
  | n + 1, .iptr c => .iptr (c.map (wkN z n))
  | n + 1, .agg c => .agg (c.map (wkN z n))
  | n + 1, .tup c => .tup (c.map (wkN z n))
  | _, x => x

theorem wkN_rep {w : World} {S : Nat → Prop} (z : Nat) : ∀ (n : Nat) (x : AV) (y : Value), RepP w S x y → RepP w S (wkN z n x) y := by
  have vcase : ∀ (n : Nat) (u : Value), RepP w S (wkN z n (.v u)) u := by
    intro n u
    by_cases hu : u = .slice none 0 0
    · subst hu
      have e : wkN z n (.v (.slice none 0 0)) = .lst z [] := by cases n <;> rfl
      rw [e]; exact .lstNil _ _ _
    · have e : wkN z n (.v u) = .v u := by
        cases n <;> (unfold wkN; split <;> first | rfl | (rename_i h; simp at h; exact absurd h hu) | (rename_i h _; simp at h; exact absurd h hu) | simp_all)
      rw [e]; exact .v _
  intro n
  induction n with
  | zero => intro x y h; cases h <;> first | exact vcase 0 _ | exact .any _ | exact .mayF _ _ (by assumption) | (constructor <;> assumption) | skip
  | succ n ih =>
    have cells : ∀ (cs : List AV) (vs : List Value), (∀ (i : Nat) c x, cs[i]? = some c → vs[i]? = some x → RepP w S c x) → ∀ (i : Nat) c x, (cs.map (wkN z n))[i]? = some c → vs[i]? = some x → RepP w S c x := by
      intro cs vs h i c x h1 h2
      simp only [List.getElem?_map, Option.map_eq_some_iff] at h1
      obtain ⟨c', h1, rfl⟩ := h1
      exact ih c' x (h i c' x h1 h2)
    have flat : ∀ (els : List (List AV)), (els.map fun el => el.map (wkN z n)).flatten = els.flatten.map (wkN z n) := by intro els; rw [List.map_flatten]
    intro x y h
    cases h with
    | v => exact vcase _ _
    | any => exact .any _
    | agg cs vs hl hc h => exact .agg _ vs (by simpa using hl) hc (cells cs vs h)
    | tup cs vs hl h => exact .tup _ vs (by simpa using hl) (cells cs vs h)
    | lst sz els b off cap vs hS hb hcap hel hl hv h =>
      have := RepP.lst (w := w) (S := S) sz (els.map fun el => el.map (wkN z n)) b off cap vs hS hb (by simpa using hcap) (by
        intro e he
        obtain ⟨e', he', rfl⟩ := List.mem_map.1 he
        simpa using hel e' he') (by rw [flat, List.length_map]; exact hl) hv (by rw [flat]; exact cells _ vs h)
      simpa [wkN] using this
    | lstNil sz a cap => exact .lstNil _ _ _
    | full sz els b off vs hS hb hel hl hv h =>
      have := RepP.lst (w := w) (S := S) sz (els.map fun el => el.map (wkN z n)) b off els.length vs hS hb (by simp) (by
        intro e he
        obtain ⟨e', he', rfl⟩ := List.mem_map.1 he
        simpa using hel e' he') (by rw [flat, List.length_map]; exact hl) hv (by rw [flat]; exact cells _ vs h)
      simpa [wkN] using this
    | iptr cs b off vs hS hb hl hv h => exact .iptr _ b off vs hS hb (by simpa using hl) hv (cells cs vs h)
    | clo f cs vs hl h => exact .clo f _ vs hl h
    | mpc ag kts kvs b hS hb h => exact .mpc ag kts kvs b hS hb h
    | mayT l x y ht h => exact .mayT l x y ht h
    | mayF l x hf => exact .mayF l x hf

/-- A contract with a result of which less is said. -/
theorem PureCall.res {P : Program} {f : FuncId} {args : List AV} {res res' : AV} (h : PureCall P f args res) (hr : ∀ (w : World) (S : Nat → Prop) (y : Value), RepP w S res y → RepP w S res' y) : PureCall P f args res' := by
  rcases h with ⟨h1, h2⟩ | h2
  · exact Or.inl ⟨h1, fun S0 w vs a b c => (h2 S0 w vs a b c).mono fun e w' ⟨v, q1, q2, q3⟩ => ⟨v, q1, hr _ _ _ q2, q3⟩⟩
  · exact Or.inr fun S0 w vs a b => by
      obtain ⟨v, q1, q2⟩ := h2 S0 w vs a b
      exact ⟨v, q1, hr _ _ _ q2⟩
end Go.AM
