/- The abstract machine, part W: arguments of which less is said. No condition. -/
import Derived.Test.YteodgilndjjgdaaAmO
namespace Go.AM
set_option linter.unusedVariables false
set_option linter.unusedSimpArgs false

/-- Literals as slices like any other. -/
def wk : Nat → AV → AV
  | n + 1, .full s e => .lst s (e.map fun el => el.map (wk n))
  | n + 1, .lst s e => .lst s (e.map fun el => el.map (wk n))
  | n + 1, .iptr c => .iptr (c.map (wk n))
  | n + 1, .agg c => .agg (c.map (wk n))
  | n + 1, .tup c => .tup (c.map (wk n))
  | n + 1, .clo f c => .clo f (c.map (wk n))
  | _, x => x

theorem wk_rep {w : World} {S : Nat → Prop} : ∀ (n : Nat) (x : AV) (y : Value), RepP w S x y → RepP w S (wk n x) y := by
  intro n
  induction n with
  | zero => intro x y h; cases x <;> exact h
  | succ n ih =>
    have cells : ∀ (cs : List AV) (vs : List Value), (∀ (i : Nat) c x, cs[i]? = some c → vs[i]? = some x → RepP w S c x) → ∀ (i : Nat) c x, (cs.map (wk n))[i]? = some c → vs[i]? = some x → RepP w S c x := by
      intro cs vs h i c x h1 h2
      simp only [List.getElem?_map, Option.map_eq_some_iff] at h1
      obtain ⟨c', h1, rfl⟩ := h1
      exact ih c' x (h i c' x h1 h2)
    have flat : ∀ (els : List (List AV)), (els.map fun el => el.map (wk n)).flatten = els.flatten.map (wk n) := by intro els; rw [List.map_flatten]
    intro x y h
    cases h with
    | v => exact .v _
    | any => exact .any _
    | agg cs vs hl hc h => exact .agg _ vs (by simpa using hl) hc (cells cs vs h)
    | tup cs vs hl h => exact .tup _ vs (by simpa using hl) (cells cs vs h)
    | lst sz els b off cap vs hS hb hcap hel hl hv h =>
      have := RepP.lst (w := w) (S := S) sz (els.map fun el => el.map (wk n)) b off cap vs hS hb (by simpa using hcap) (by
        intro e he
        obtain ⟨e', he', rfl⟩ := List.mem_map.1 he
        simpa using hel e' he') (by rw [flat, List.length_map]; exact hl) hv (by rw [flat]; exact cells _ vs h)
      simpa [wk] using this
    | lstNil sz a cap => exact .lstNil _ _ _
    | full sz els b off vs hS hb hel hl hv h =>
      have := RepP.lst (w := w) (S := S) sz (els.map fun el => el.map (wk n)) b off els.length vs hS hb (by simp) (by
        intro e he
        obtain ⟨e', he', rfl⟩ := List.mem_map.1 he
        simpa using hel e' he') (by rw [flat, List.length_map]; exact hl) hv (by rw [flat]; exact cells _ vs h)
      simpa [wk] using this
    | iptr cs b off vs hS hb hl hv h => exact .iptr _ b off vs hS hb (by simpa using hl) hv (cells cs vs h)
    | clo f cs vs hl h => exact .clo f _ vs (by simpa using hl) (cells cs vs h)
    | mpc ag kts kvs b hS hb h => exact .mpc ag kts kvs b hS hb h
    | mayT l x y ht h => exact .mayT l x y ht h
    | mayF l x hf => exact .mayF l x hf

/-- A contract for less is one for more. -/
theorem PureCall.wk {P : Program} {f : FuncId} {args args' : List AV} {res : AV} (h : PureCall P f args' res) (he : args.map (wk 4) = args') : PureCall P f args res := by
  subst he
  have hr : ∀ {w : World} {S0 : Nat → Prop} {vs : List Value}, (∀ (i : Nat) c x, args[i]? = some c → vs[i]? = some x → RepP w S0 c x) → ∀ (i : Nat) c x, (args.map (AM.wk 4))[i]? = some c → vs[i]? = some x → RepP w S0 c x := by
    intro w S0 vs h i c x h1 h2
    simp only [List.getElem?_map, Option.map_eq_some_iff] at h1
    obtain ⟨c', h1, rfl⟩ := h1
    exact wk_rep 4 c' x (h i c' x h1 h2)
  rcases h with ⟨h1, h2⟩ | h2
  · exact Or.inl ⟨h1, fun S0 w vs hlow hl hrep => h2 S0 w vs hlow (by simpa using hl) (hr hrep)⟩
  · exact Or.inr fun S0 w vs hl hrep => h2 S0 w vs (by simpa using hl) (hr hrep)
end Go.AM
