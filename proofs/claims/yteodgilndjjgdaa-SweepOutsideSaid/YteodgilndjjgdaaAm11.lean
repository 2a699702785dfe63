/- The abstract machine, part 11: code, loops, what may be forgotten, and a function's contract out of its body. No condition. -/
import Derived.Test.YteodgilndjjgdaaAm10
namespace Go.AM
set_option linter.unusedVariables false
set_option linter.unusedSimpArgs false

def AWp (P : Program) (nt : Nat) (c : Code) (T : Tm) (H : Hp) (Q : Exit → Tm → Hp → Prop) : Prop :=
  ∀ w0 B S0 a w, St w0 B S0 nt T H a w → c.wp P (fun e a' w' => ∃ T' H', Q e T' H' ∧ St w0 B S0 nt T' H' a' w') a w

def thenA (next : Tm → Hp → Prop) (Q : Exit → Tm → Hp → Prop) : Exit → Tm → Hp → Prop
  | .normal => next
  | e => Q e

def inBlockA (id : Nat) (Q : Exit → Tm → Hp → Prop) : Exit → Tm → Hp → Prop
  | .exit k => if k = id then Q .normal else Q (.exit k)
  | e => Q e

/-- What stands for a state stands for one of which less is said. -/
def Sub (nt : Nat) (T : Tm) (H : Hp) (T' : Tm) (H' : Hp) : Prop := ∀ w0 B S0 a w, St w0 B S0 nt T H a w → St w0 B S0 nt T' H' a w

theorem Sub.refl (nt : Nat) (T : Tm) (H : Hp) : Sub nt T H T H := fun _ _ _ _ _ h => h
theorem Sub.trans {nt : Nat} {T T' T'' : Tm} {H H' H'' : Hp} (h : Sub nt T H T' H') (k : Sub nt T' H' T'' H'') : Sub nt T H T'' H'' := fun w0 B S0 a w s => k w0 B S0 a w (h w0 B S0 a w s)

section
variable {P : Program} {nt : Nat} {T : Tm} {H : Hp} {Q : Exit → Tm → Hp → Prop}

theorem awp_mono {c : Code} {Q' : Exit → Tm → Hp → Prop} (h : AWp P nt c T H Q) (hq : ∀ e T H, Q e T H → Q' e T H) : AWp P nt c T H Q' :=
  fun w0 B S0 a w hs => wp_mono (h w0 B S0 a w hs) fun e a' w' ⟨T', H', q, s⟩ => ⟨T', H', hq _ _ _ q, s⟩

theorem awp_weak {c : Code} {T' : Tm} {H' : Hp} (hs : Sub nt T H T' H') (h : AWp P nt c T' H' Q) : AWp P nt c T H Q :=
  fun w0 B S0 a w s => h w0 B S0 a w (hs w0 B S0 a w s)

theorem awp_skip (h : Q .normal T H) : AWp P nt .skip T H Q := fun w0 B S0 a w hs => wp_skip ⟨T, H, h, hs⟩
theorem awp_ret (h : Q .ret T H) : AWp P nt .ret T H Q := fun w0 B S0 a w hs => wp_ret ⟨T, H, h, hs⟩
theorem awp_exit {id : Nat} (h : Q (.exit id) T H) : AWp P nt (.exit id) T H Q := fun w0 B S0 a w hs => wp_exit ⟨T, H, h, hs⟩

theorem awp_seq {x y : Code} (h : AWp P nt x T H (thenA (fun T' H' => AWp P nt y T' H' Q) Q)) : AWp P nt (.seq x y) T H Q := by
  intro w0 B S0 a w hs
  refine wp_seq (wp_mono (h w0 B S0 a w hs) ?_)
  rintro e a' w' ⟨T', H', q, s⟩
  cases e with
  | normal => exact q w0 B S0 a' w' s
  | exit id => exact ⟨T', H', q, s⟩
  | goto l => exact ⟨T', H', q, s⟩
  | ret => exact ⟨T', H', q, s⟩
  | panic c => exact ⟨T', H', q, s⟩
  | outgrown => exact ⟨T', H', q, s⟩

/-- What stands behind, held under a name. -/
theorem awp_seq_k {x y : Code} (h : ∀ K : Tm → Hp → Prop, (∀ T' H', AWp P nt y T' H' Q → K T' H') → AWp P nt x T H (thenA K Q)) : AWp P nt (.seq x y) T H Q :=
  awp_seq (h _ fun _ _ h => h)

theorem awp_block {id : Nat} {c : Code} (h : AWp P nt c T H (inBlockA id Q)) : AWp P nt (.block id c) T H Q := by
  intro w0 B S0 a w hs
  refine wp_block (wp_mono (h w0 B S0 a w hs) ?_)
  rintro e a' w' ⟨T', H', q, s⟩
  cases e with
  | exit k =>
    simp only [inBlockA] at q
    simp only [Exit.inBlock]
    split
    · rename_i e; rw [if_pos e] at q; exact ⟨T', H', q, s⟩
    · rename_i e; rw [if_neg e] at q; exact ⟨T', H', q, s⟩
  | normal => exact ⟨T', H', q, s⟩
  | goto l => exact ⟨T', H', q, s⟩
  | ret => exact ⟨T', H', q, s⟩
  | panic c => exact ⟨T', H', q, s⟩
  | outgrown => exact ⟨T', H', q, s⟩

theorem awp_cond {c : Operand} {x y : Code} {b : Bool} (hc : evT (look T) c = .v (.bool b)) (hx : b = true → AWp P nt x T H Q) (hy : b = false → AWp P nt y T H Q) : AWp P nt (.cond c x y) T H Q := by
  intro w0 B S0 a w hs
  have hv : a.eval c = .bool b := by
    obtain ⟨⟨ρ, L, hc', _⟩, _⟩ := hs
    cases c with
    | tmp t =>
      have := hc'.tmps t
      simp only [evT] at hc
      rw [hc] at this
      exact exact_v this
    | const v =>
      simp only [evT] at hc
      have := constAV_rep (w := w) (S := fun _ => False) v
      rw [hc] at this
      cases this
      rfl
    | global g => simp only [evT] at hc; cases hc
    | func f => simp only [evT] at hc; cases hc
  exact wp_cond_split hv (fun h => hx h w0 B S0 a w hs) (fun h => hy h w0 B S0 a w hs)

theorem awp_region {id : Nat} {l : List Oper} {dsts : List (Option Tmp)} (hd : l.map (·.dst) = dsts) (h : vcOps P nt dsts l T H (Q .normal)) : AWp P nt (.region id l.toArray false) T H Q := by
  intro w0 B S0 a w hs
  refine wp_region_lit ?_
  refine vcOps_sound (ops := l.toArray) (dsts := dsts) (nt := nt) (w0 := w0) (B := B) (S0 := S0) ?_ (K := Q .normal) (fun T H a w q s => ⟨T, H, q, s⟩) l T H a w h hs
  intro j
  rw [← hd]
  simp

theorem awp_loop {c : Code} {α : Type} (st : α → Tm × Hp) (inv : α → Prop) (μ : α → Nat) (x0 : α) (h0 : inv x0) (hs0 : Sub nt T H (st x0).1 (st x0).2)
    (round : ∀ x, inv x → AWp P nt c (st x).1 (st x).2 (thenA (fun T' H' => ∃ y, inv y ∧ μ y < μ x ∧ Sub nt T' H' (st y).1 (st y).2) Q)) : AWp P nt (.loop c) T H Q := by
  intro w0 B S0 a w hs b k cs
  have key : ∀ n x a w, μ x = n → inv x → St w0 B S0 nt (st x).1 (st x).2 a w →
      ∃ e a' w', (∃ T' H', Q e T' H' ∧ St w0 B S0 nt T' H' a' w') ∧ Arrives P (lone (b.at a (.code c :: .inLoop c :: k)) cs w) b k cs e a' w' := by
    intro n
    induction n using Nat.strongRecOn with
    | _ n ih =>
      intro x a w hn hI hst
      obtain ⟨e, a₁, w₁, ⟨T1, H1, hq, hst1⟩, harr⟩ := round x hI w0 B S0 a w hst b (.inLoop c :: k) cs
      cases e with
      | normal =>
        obtain ⟨y, hy, hlt, hsub⟩ := hq
        obtain ⟨e₂, a₂, w₂, hq₂, harr₂⟩ := ih (μ y) (hn ▸ hlt) y a₁ w₁ rfl hy (hsub w0 B S0 a₁ w₁ hst1)
        exact ⟨e₂, a₂, w₂, hq₂, .of_steps (Steps.trans harr (.one step_inLoop)) harr₂⟩
      | exit id => exact ⟨_, a₁, w₁, ⟨T1, H1, hq, hst1⟩, .pass (x := .inLoop c) rfl (fun _ _ => .inl (by simp)) harr⟩
      | goto l => exact ⟨_, a₁, w₁, ⟨T1, H1, hq, hst1⟩, .pass (x := .inLoop c) rfl (fun _ _ => .inl (by simp)) harr⟩
      | ret => exact ⟨_, a₁, w₁, ⟨T1, H1, hq, hst1⟩, .pass (x := .inLoop c) rfl (fun _ _ => .inl (by simp)) harr⟩
      | panic ch => exact ⟨_, a₁, w₁, ⟨T1, H1, hq, hst1⟩, .pass (x := .inLoop c) rfl (fun _ _ => .inl (by simp)) harr⟩
      | outgrown => exact ⟨_, a₁, w₁, ⟨T1, H1, hq, hst1⟩, .pass (x := .inLoop c) rfl (fun _ _ => .inl (by simp)) harr⟩
  obtain ⟨e, a', w', hq, harr⟩ := key _ x0 a w rfl h0 (hs0 w0 B S0 a w hs)
  exact ⟨e, a', w', hq, .of_steps (.one step_loop) harr⟩
end

/-- The new name of an old row. -/
def newName (g : List (Option Nat)) (r : Nat) : Option Nat := g.findIdx? (· == some r)

def renAV (g : List (Option Nat)) : Nat → AV → AV
  | _, .row r i n => match newName g r with | some q => .row q i n | none => .any
  | _, .ptr r i o => match newName g r with | some q => .ptr q i o | none => .any
  | _, .mp r => match newName g r with | some q => .mp q | none => .any
  | n + 1, .agg cs => .agg (cs.map (renAV g n))
  | n + 1, .tup cs => .tup (cs.map (renAV g n))
  | n + 1, .clo f cs => .clo f (cs.map (renAV g n))
  | n + 1, .may l x => .may l (renAV g n x)
  | 0, .agg _ => .any
  | 0, .tup _ => .any
  | 0, .clo _ _ => .any
  | 0, .may _ _ => .any
  | _, x => x

def renRow (g : List (Option Nat)) : ARow → ARow
  | .els sz es => .els sz (es.map fun e => e.map (renAV g 3))
  | .map ag kts kvs => .map ag kts kvs

def renH (H : Hp) (g : List (Option Nat)) : Hp := g.map fun q => match q with | some r => (hget H r).map (renRow g) | none => none

/-- The slots that are kept, renamed. -/
def subT (g : List (Option Nat)) (T : Tm) : Tm → Prop
  | [] => True
  | (i, x) :: r => (x = .any ∨ renAV g 3 (look T i) = x) ∧ subT g T r

def renρ (ρ : Nat → Option Loc) (g : List (Option Nat)) (r : Nat) : Option Loc := match g[r]? with | some (some q) => ρ q | _ => none

theorem newName_spec {g : List (Option Nat)} {r q : Nat} (h : newName g r = some q) : g[q]? = some (some r) := by
  unfold newName at h
  rw [List.findIdx?_eq_some_iff_getElem] at h
  obtain ⟨h1, h2, _⟩ := h
  rw [List.getElem?_eq_getElem h1]
  simpa using h2

theorem renAV_rep {w : World} {S S' : Nat → Prop} {ρ : Nat → Option Loc} {L : Nat → Prop} {g : List (Option Nat)} (hS : ∀ b, S' b → S b) : ∀ (n : Nat) (x : AV) (y : Value), RepV w S ρ L x y →
    RepV w S' (renρ ρ g) (fun r => r < g.length) (renAV g n x) y := by
  have hP : ∀ {x y}, RepP w S x y → RepP w S' x y := fun h => h.ext (Nat.le_refl _) (fun b _ hn => ⟨rfl, fun k => hn (hS b k)⟩)
  have row : ∀ n r i k y, RepV w S ρ L (.row r i k) y → RepV w S' (renρ ρ g) (fun r => r < g.length) (renAV g n (.row r i k)) y := by
    intro n r i k y h
    have e : renAV g n (.row r i k) = match newName g r with | some q => .row q i k | none => .any := by cases n <;> rfl
    rw [e]
    split
    · rename_i q hq
      have hg := newName_spec hq
      cases h with
      | pure _ _ h => cases h
      | row _ _ _ _ h1 h2 h3 =>
        refine .row _ _ _ _ (List.getElem?_eq_some_iff.1 hg).1 h2 (fun l hl => h3 l ?_)
        simp only [renρ, hg] at hl
        exact hl
    · exact .pure _ _ (.any _)
  have ptr : ∀ n r i k y, RepV w S ρ L (.ptr r i k) y → RepV w S' (renρ ρ g) (fun r => r < g.length) (renAV g n (.ptr r i k)) y := by
    intro n r i k y h
    have e : renAV g n (.ptr r i k) = match newName g r with | some q => .ptr q i k | none => .any := by cases n <;> rfl
    rw [e]
    split
    · rename_i q hq
      have hg := newName_spec hq
      cases h with
      | pure _ _ h => cases h
      | ptr _ _ _ _ h1 h2 h3 =>
        refine .ptr _ _ _ _ (List.getElem?_eq_some_iff.1 hg).1 h2 (fun l hl => h3 l ?_)
        simp only [renρ, hg] at hl
        exact hl
    · exact .pure _ _ (.any _)
  have mp : ∀ n r y, RepV w S ρ L (.mp r) y → RepV w S' (renρ ρ g) (fun r => r < g.length) (renAV g n (.mp r)) y := by
    intro n r y h
    have e : renAV g n (.mp r) = match newName g r with | some q => .mp q | none => .any := by cases n <;> rfl
    rw [e]
    split
    · rename_i q hq
      have hg := newName_spec hq
      cases h with
      | pure _ _ h => cases h
      | mp _ _ h1 h2 h3 =>
        refine .mp _ _ (List.getElem?_eq_some_iff.1 hg).1 h2 (fun l hl => h3 l ?_)
        simp only [renρ, hg] at hl
        exact hl
    · exact .pure _ _ (.any _)
  have atom : ∀ n x y, (match x with | .v _ => True | .lst _ _ => True | .full _ _ => True | .iptr _ => True | .mpc _ _ _ => True | .any => True | _ => False) → RepV w S ρ L x y → RepV w S' (renρ ρ g) (fun r => r < g.length) (renAV g n x) y := by
    intro n x y hx h
    cases x <;> simp only at hx <;> (cases h; rename_i h; cases n <;> exact .pure _ _ (hP h))
  intro n
  induction n with
  | zero =>
    intro x y h
    cases x with
    | row r i k => exact row 0 r i k y h
    | ptr r i k => exact ptr 0 r i k y h
    | mp r => exact mp 0 r y h
    | agg cs => exact .pure _ _ (.any _)
    | tup cs => exact .pure _ _ (.any _)
    | clo f cs => exact .pure _ _ (.any _)
    | may l x => exact .pure _ _ (.any _)
    | _ => exact atom 0 _ y trivial h
  | succ n ih =>
    intro x y h
    cases x with
    | row r i k => exact row _ r i k y h
    | ptr r i k => exact ptr _ r i k y h
    | mp r => exact mp _ r y h
    | agg cs =>
      obtain ⟨vs, rfl, hl, hc⟩ := agg_cells h
      refine .agg _ vs (by simpa using hl) (fun u hu => ?_) (fun i c u h1 h2 => ?_)
      · obtain ⟨i, hi, rfl⟩ := List.getElem_of_mem hu
        exact (hc i _ _ (List.getElem?_eq_getElem (by omega)) (List.getElem?_eq_getElem hi)).1
      · simp only [List.getElem?_map, Option.map_eq_some_iff] at h1
        obtain ⟨c', h1, rfl⟩ := h1
        exact ih c' u (hc i c' u h1 h2).2
    | tup cs =>
      obtain ⟨vs, rfl, hl, hc⟩ := tup_cells h
      refine .tup _ vs (by simpa using hl) (fun i c u h1 h2 => ?_)
      simp only [List.getElem?_map, Option.map_eq_some_iff] at h1
      obtain ⟨c', h1, rfl⟩ := h1
      exact ih c' u (hc i c' u h1 h2)
    | clo f cs =>
      obtain ⟨vs, rfl, hl, hc⟩ := clo_cells h
      refine .clo f _ vs (by simpa using hl) (fun i c u h1 h2 => ?_)
      simp only [List.getElem?_map, Option.map_eq_some_iff] at h1
      obtain ⟨c', h1, rfl⟩ := h1
      exact ih c' u (hc i c' u h1 h2)
    | may l x =>
      cases h with
      | pure _ _ h => cases h with
        | mayT _ _ _ ht h => exact .mayT _ _ _ ht (ih x y (.pure _ _ h))
        | mayF _ _ hf => exact .mayF _ _ hf
      | mayT _ _ _ ht h => exact .mayT _ _ _ ht (ih x y h)
      | mayF _ _ hf => exact .mayF _ _ hf
    | _ => exact atom _ _ y trivial h

theorem renρ_spec {ρ : Nat → Option Loc} {g : List (Option Nat)} {r : Nat} {l : Loc} (h : renρ ρ g r = some l) : ∃ q, g[r]? = some (some q) ∧ ρ q = some l := by
  unfold renρ at h
  split at h
  · rename_i q hq; exact ⟨q, hq, h⟩
  · cases h

theorem hget_map {β : Type} (f : β → Option ARow) : ∀ (g : List β) (r : Nat), hget (g.map f) r = match g[r]? with | some q => f q | none => none
  | [], r => by cases r <;> rfl
  | x :: xs, 0 => rfl
  | x :: xs, n + 1 => by simp only [List.map_cons, hget, List.getElem?_cons_succ]; exact hget_map f xs n

/-- FORGETTING AND RENAMING: 'g': for each new name the old one. -/
theorem sub_ren {nt : Nat} {T T' : Tm} {H H' : Hp} (g : List (Option Nat)) (hn : ∀ (i j q : Nat), g[i]? = some (some q) → g[j]? = some (some q) → i = j) (hT : subT g T T') (hH : renH H g = H') : Sub nt T H T' H' := by
  rintro w0 B S0 a w ⟨⟨ρ, L, hc, hL⟩, hext⟩
  subst hH
  have hS : ∀ b, Sx S0 (renρ ρ g) b → Sx S0 ρ b := by
    rintro b (h | ⟨r, l, h1, h2⟩)
    · exact Or.inl h
    · obtain ⟨q, _, h3⟩ := renρ_spec h1
      exact Or.inr ⟨q, l, h3, h2⟩
  refine ⟨⟨renρ ρ g, fun r => r < g.length, ⟨⟨?_, ?_, ?_, hc.wf.low, hc.wf.new⟩, hc.size, hc.defers, ?_, ?_, ?_⟩, ?_⟩, hext⟩
  · intro r r' l l' b h1 h2 k1 k2
    obtain ⟨q, g1, p1⟩ := renρ_spec h1
    obtain ⟨q', g2, p2⟩ := renρ_spec h2
    have := hc.wf.inj q q' l l' b p1 p2 k1 k2
    subst this
    exact hn _ _ _ g1 g2
  · intro r l b h1 k1
    obtain ⟨q, g1, p1⟩ := renρ_spec h1
    exact hc.wf.own q l b p1 k1
  · intro r l h1
    obtain ⟨q, g1, p1⟩ := renρ_spec h1
    exact (List.getElem?_eq_some_iff.1 g1).1
  · intro t
    have gen : ∀ (T' : Tm), subT g T T' → RepV w (Sx S0 (renρ ρ g)) (renρ ρ g) (fun r => r < g.length) (look T' t) (a.tmps.getD t undef) := by
      intro T'
      induction T' with
      | nil => intro _; exact .pure _ _ (.any _)
      | cons p T' ih =>
        obtain ⟨i, x⟩ := p
        rintro ⟨h1, h2⟩
        simp only [look]
        split
        · rename_i e
          subst e
          rcases h1 with rfl | rfl
          · exact .pure _ _ (.any _)
          · exact renAV_rep hS 3 _ _ (hc.tmps t)
        · exact ih h2
    exact gen T' hT
  · intro r row hr
    simp only [renH, hget_map] at hr
    split at hr
    · rename_i q hq
      split at hr
      · rename_i q' 
        simp only [Option.map_eq_some_iff] at hr
        obtain ⟨row0, h0, rfl⟩ := hr
        obtain ⟨l, hl, hrow⟩ := hc.rows q' row0 h0
        refine ⟨l, by simp only [renρ, hq]; exact hl, ?_⟩
        cases row0 with
        | map kvs => exact hrow
        | els sz es =>
          obtain ⟨h1, h2, h3, h4⟩ := hrow
          refine ⟨h1, ?_, fun hb => by rw [h3 hb]; rfl, fun b hb => ?_⟩
          · intro e he
            simp only [List.mem_map] at he
            obtain ⟨e', he', rfl⟩ := he
            simpa using h2 e' he'
          · obtain ⟨c, t, k1, k2, k3, k4⟩ := h4 b hb
            refine ⟨c, t, k1, k2, by simpa using k3, fun i av hi => ?_⟩
            rw [← List.map_flatten] at hi
            simp only [List.getElem?_map, Option.map_eq_some_iff] at hi
            obtain ⟨av0, hi, rfl⟩ := hi
            obtain ⟨x, p1, p2, p3⟩ := k4 i av0 hi
            exact ⟨x, p1, p2, renAV_rep hS 3 _ _ p3⟩
      · cases hr
    · cases hr
  · intro r hr
    simp only [renH, hget_map] at hr
    simp only [renρ]
    split
    · rename_i q hq
      rw [hq] at hr
      simp only [Option.map_eq_none_iff] at hr
      exact hc.dead q hr
    · rfl
  · intro r hr; simpa [renH] using hr

/-- A nil slice as a row of none. -/
theorem sub_nil {nt : Nat} {T : Tm} {H : Hp} (t sz : Nat) (h : look T t = .v (.slice none 0 0)) : Sub nt T H ((t, .row H.length 0 0) :: T) (H ++ [some (.els sz [])]) := by
  rintro w0 B S0 a w ⟨⟨ρ, L, hc, hL⟩, hext⟩
  have hN : ¬ L H.length := fun h => Nat.lt_irrefl _ (hL _ h)
  let l : Loc := ⟨none, 0, sz, 0⟩
  have hnone : ∀ r l', Loc.fresh ρ H.length l r = some l' → l'.b ≠ none → ρ r = some l' := by
    intro r l' h1 h2
    simp only [Loc.fresh] at h1
    split at h1
    · simp only [Option.some.injEq] at h1; subst h1; exact absurd rfl h2
    · exact h1
  have hS : ∀ b, Sx S0 (Loc.fresh ρ H.length l) b → Sx S0 ρ b := by
    rintro b (h1 | ⟨r, l', h1, h2⟩)
    · exact Or.inl h1
    · exact Or.inr ⟨r, l', hnone r l' h1 (by rw [h2]; simp), h2⟩
  have hk : ∀ x y, RepV w (Sx S0 ρ) ρ L x y → RepV w (Sx S0 (Loc.fresh ρ H.length l)) (Loc.fresh ρ H.length l) (fun r => L r ∨ r = H.length) x y := fun x y k =>
    k.ext (Nat.le_refl _) (fun b _ hn => ⟨rfl, fun q => hn (hS b q)⟩) (fun r => Or.inl) (fun r l' hr hl' => by
      simp only [Loc.fresh] at hl'
      split at hl'
      · rename_i e; subst e; exact absurd hr hN
      · exact hl')
  have hwf := wf_fresh hc.wf hN l (w' := w) (Nat.le_refl _) (by intro b hb; cases hb)
  have hap : ∀ r, hget (H ++ [some (.els sz [])]) r = if r = H.length then some (.els sz []) else hget H r := by
    have gen : ∀ (H : Hp) (r : Nat), hget (H ++ [some (.els sz [])]) r = if r = H.length then some (.els sz []) else hget H r := by
      intro H
      induction H with
      | nil => intro r; cases r <;> simp [hget]
      | cons x xs ih =>
        intro r
        cases r with
        | zero => simp [hget]
        | succ r => simp only [List.cons_append, hget, List.length_cons, Nat.add_right_cancel_iff]; exact ih r
    exact gen H
  refine ⟨⟨Loc.fresh ρ H.length l, fun r => L r ∨ r = H.length, ⟨hwf, hc.size, hc.defers, ?_, ?_, ?_⟩, ?_⟩, hext⟩
  · intro t'
    simp only [look]
    split
    · rename_i e
      subst e
      have := hc.tmps t'
      rw [h] at this
      rw [exact_v this]
      refine .row _ _ _ _ (Or.inr rfl) rfl (fun l' hl' => ?_)
      simp only [Loc.fresh, if_true, Option.some.injEq] at hl'
      subst hl'
      exact ⟨fun _ => ⟨rfl, rfl, rfl⟩, fun b hb => by cases hb⟩
    · exact hk _ _ (hc.tmps t')
  · intro r row hr
    rw [hap] at hr
    split at hr
    · rename_i e
      simp only [Option.some.injEq] at hr
      subst hr
      exact ⟨l, by simp [Loc.fresh, e], rfl, by simp, by simp, by intro b hb; cases hb⟩
    · rename_i e
      obtain ⟨l', hl', hrow⟩ := hc.rows r row hr
      refine ⟨l', by simp [Loc.fresh, e, hl'], hrow.ext (Nat.le_refl _) (fun b _ hn => ⟨rfl, fun q => hn (hS b q)⟩) (fun r => Or.inl) (fun r l' hr hl' => by
        simp only [Loc.fresh] at hl'
        split at hl'
        · rename_i e; subst e; exact absurd hr hN
        · exact hl') (fun _ _ => rfl)⟩
  · intro r hr
    rw [hap] at hr
    split at hr
    · cases hr
    · rename_i e; simp [Loc.fresh, e, hc.dead r hr]
  · rintro r (hr | rfl)
    · simp; have := hL r hr; omega
    · simp

/-- By content: what a value is when the rows that it leads to are written no more. -/
def frzP (H : Hp) : Nat → AV → AV
  | n + 1, .row r i k => match hget H r with
    | some (.els sz es) => if i + k ≤ es.length ∧ sz ≠ 0 then .lst sz (((es.drop i).take k).map fun e => e.map (frzP H n)) else .any
    | _ => .any
  | n + 1, .ptr r i o => match hget H r with
    | some (.els sz es) => match es[i]? with
      | some e => if o ≤ e.length then .iptr ((e.drop o).map (frzP H n)) else .any
      | none => .any
    | _ => .any
  | n + 1, .agg cs => .agg (cs.map (frzP H n))
  | n + 1, .tup cs => .tup (cs.map (frzP H n))
  | n + 1, .clo f cs => .clo f (cs.map (frzP H n))
  | n + 1, .may l x => .may l (frzP H n x)
  | _, .v x => .v x
  | _, .lst sz els => .lst sz els
  | _, .full sz els => .full sz els
  | _, .iptr cs => .iptr cs
  | _, .mpc ag kts kvs => .mpc ag kts kvs
  | _, .mp r => match hget H r with
    | some (.map ag kts kvs) => .mpc ag kts kvs
    | _ => .any
  | _, _ => .any

theorem frzP_rep {w : World} {S0 : Nat → Prop} {B : Nat → Prop} {ρ : Nat → Option Loc} {L : Nat → Prop} {H : Hp} (hw : WF B S0 w ρ L) (hrows : ∀ r row, hget H r = some row → ∃ l, ρ r = some l ∧ RowRep w (Sx S0 ρ) ρ L l row) :
    ∀ (n : Nat) (x : AV) (y : Value), RepV w (Sx S0 ρ) ρ L x y → RepP w S0 (frzP H n x) y := by
  have hP : ∀ {x y}, RepP w (Sx S0 ρ) x y → RepP w S0 x y := fun h => h.ext (Nat.le_refl _) (fun b _ hn => ⟨rfl, fun k => hn (Or.inl k)⟩)
  have mp : ∀ (n r : Nat) (y : Value), RepV w (Sx S0 ρ) ρ L (.mp r) y → RepP w S0 (frzP H n (.mp r)) y := by
    intro n r y h
    have e : frzP H n (.mp r) = match hget H r with | some (.map ag kts kvs) => .mpc ag kts kvs | _ => .any := by cases n <;> rfl
    rw [e]
    split
    · rename_i ag kts kvs hH
      obtain ⟨l, hl, b, hb, hm⟩ := hrows r _ hH
      cases h with
      | pure _ _ h => cases h
      | mp _ _ h1 h2 h3 =>
        obtain ⟨b', hb', rfl⟩ := h3 l hl
        rw [hb] at hb'
        simp only [Option.some.injEq] at hb'
        subst hb'
        exact .mpc _ _ _ b (hw.own r l b hl hb).2.1 (hw.own r l b hl hb).1 hm
    · exact .any _
  intro n
  induction n with
  | zero =>
    intro x y h
    cases x with
    | v x => cases h with | pure _ _ h => exact hP h
    | lst sz els => cases h with | pure _ _ h => exact hP h
    | full sz els => cases h with | pure _ _ h => exact hP h
    | iptr cs => cases h with | pure _ _ h => exact hP h
    | mpc ag kts kvs => cases h with | pure _ _ h => exact hP h
    | mp r => exact mp _ r y h
    | _ => exact .any _
  | succ n ih =>
    intro x y h
    cases x with
    | v x => cases h with | pure _ _ h => exact hP h
    | lst sz els => cases h with | pure _ _ h => exact hP h
    | full sz els => cases h with | pure _ _ h => exact hP h
    | iptr cs => cases h with | pure _ _ h => exact hP h
    | mpc ag kts kvs => cases h with | pure _ _ h => exact hP h
    | mp r => exact mp _ r y h
    | any => exact .any _
    | row r i k =>
      simp only [frzP]
      split
      · rename_i sz es hH
        split
        · rename_i hc
          obtain ⟨hin, hsz⟩ := hc
          obtain ⟨l, hl, hrow⟩ := hrows r _ hH
          have hz := hrow.1
          subst hz
          have hlen : ((es.drop i).take k).length = k := by rw [List.length_take, List.length_drop, Nat.min_eq_left]; omega
          cases h with
          | pure _ _ h => cases h
          | row _ _ _ _ h1 h2 h3 =>
            obtain ⟨h4, h5⟩ := h3 l hl
            cases hb : l.b with
            | none =>
              obtain ⟨rfl, rfl, rfl⟩ := h4 hb
              simp only [List.drop_zero, List.take_zero, List.map_nil]
              exact .lstNil _ _ _
            | some b =>
              obtain ⟨off, cap, rfl, hcap, hoff⟩ := h5 b hb
              by_cases hk0 : k = 0
              · subst hk0; simp only [List.take_zero, List.map_nil]; exact .lstNil _ _ _
              · obtain ⟨rfl, _⟩ := hoff.resolve_left (by omega)
                have hlies := row_lies hrow hsz hin hb
                obtain ⟨g1, g2⟩ := hlies
                rcases g2 with g2 | ⟨b', off', vs, g2, g3, g4, g5⟩
                · rw [g2] at hlen; simp at hlen; omega
                · simp only [Option.some.injEq, Addr.mk.injEq] at g2
                  obtain ⟨rfl, rfl, _⟩ := g2
                  have hlen' : (((es.drop i).take k).map fun e => e.map (frzP H n)).length = k := by rw [List.length_map]; exact hlen
                  have := RepP.lst (w := w) (S := S0) l.sz (((es.drop i).take k).map fun e => e.map (frzP H n)) b (l.o + i * l.sz) cap vs (hw.own r l b hl hb).2.1 (hw.own r l b hl hb).1 (by omega) (by
                    intro e he
                    simp only [List.mem_map] at he
                    obtain ⟨e', he', rfl⟩ := he
                    simpa using g1 e' he') (by rw [← List.map_flatten, List.length_map, length_flatten g1, g3]) g4 (by
                    intro j c u hj hu
                    rw [← List.map_flatten] at hj
                    simp only [List.getElem?_map, Option.map_eq_some_iff] at hj
                    obtain ⟨c', hj, rfl⟩ := hj
                    exact ih c' u (g5 j c' u hj hu))
                  rw [hlen'] at this
                  exact this
        · exact .any _
      · exact .any _
    | ptr r i o =>
      simp only [frzP]
      split
      · rename_i sz es hH
        split
        · rename_i e he
          split
          · rename_i ho
            obtain ⟨l, hl, hrow⟩ := hrows r _ hH
            obtain ⟨b, hb⟩ := row_live hrow he
            obtain ⟨c, t, k1, k2, k3, k4⟩ := row_cells hrow he hb
            cases h with
            | pure _ _ h => cases h
            | ptr _ _ _ _ h1 h2 h3 =>
              obtain ⟨b', hb', rfl⟩ := h3 l hl
              rw [hb] at hb'
              simp only [Option.some.injEq] at hb'
              subst hb'
              have hsz : (i + 1) * sz = i * sz + sz := Nat.succ_mul _ _
              refine .iptr _ b (l.o + i * l.sz + o) ((c.toList.drop (l.o + i * sz + o)).take (e.length - o)) (hw.own r l b hl hb).2.1 (hw.own r l b hl hb).1 ?_ ?_ ?_
              · have hcl : (c.toList.drop (l.o + i * sz + o)).length = c.size - (l.o + i * sz + o) := by rw [List.length_drop, Array.length_toList]
                have hel : (e.drop o).length = e.length - o := List.length_drop ..
                rw [List.length_map, hel, List.length_take, hcl, Nat.min_eq_left]; omega
              · intro j u hj
                rw [List.getElem?_take] at hj
                split at hj
                · rename_i hjl
                  rw [List.getElem?_drop] at hj
                  obtain ⟨x, p1, p2, p3, p4⟩ := k4 (o + j) _ (List.getElem?_eq_getElem (by omega))
                  have hju : c[l.o + i * sz + o + j]? = some u := by simpa using hj
                  rw [← Nat.add_assoc] at p1
                  rw [hju] at p1
                  simp only [Option.some.injEq] at p1
                  subst p1
                  refine ⟨?_, p3⟩
                  rw [hrow.1]
                  rw [← Nat.add_assoc] at p2
                  exact p2
                · cases hj
              · intro j cc u hj hu
                simp only [List.getElem?_map, Option.map_eq_some_iff] at hj
                obtain ⟨c', hj, rfl⟩ := hj
                rw [List.getElem?_drop] at hj
                rw [List.getElem?_take] at hu
                split at hu
                · rw [List.getElem?_drop] at hu
                  obtain ⟨x, p1, p2, p3, p4⟩ := k4 (o + j) c' hj
                  have hju : c[l.o + i * sz + o + j]? = some u := by simpa using hu
                  rw [← Nat.add_assoc] at p1
                  rw [hju] at p1
                  simp only [Option.some.injEq] at p1
                  subst p1
                  exact ih c' u p4
                · cases hu
          · exact .any _
        · exact .any _
      · exact .any _
    | agg cs =>
      obtain ⟨vs, rfl, hl, hc⟩ := agg_cells h
      refine .agg _ vs (by simpa using hl) (fun u hu => ?_) (fun i c u h1 h2 => ?_)
      · obtain ⟨i, hi, rfl⟩ := List.getElem_of_mem hu
        exact (hc i _ _ (List.getElem?_eq_getElem (by omega)) (List.getElem?_eq_getElem hi)).1
      · simp only [List.getElem?_map, Option.map_eq_some_iff] at h1
        obtain ⟨c', h1, rfl⟩ := h1
        exact ih c' u (hc i c' u h1 h2).2
    | tup cs =>
      obtain ⟨vs, rfl, hl, hc⟩ := tup_cells h
      refine .tup _ vs (by simpa using hl) (fun i c u h1 h2 => ?_)
      simp only [List.getElem?_map, Option.map_eq_some_iff] at h1
      obtain ⟨c', h1, rfl⟩ := h1
      exact ih c' u (hc i c' u h1 h2)
    | clo f cs =>
      obtain ⟨vs, rfl, hl, hc⟩ := clo_cells h
      refine .clo f _ vs (by simpa using hl) (fun i c u h1 h2 => ?_)
      simp only [List.getElem?_map, Option.map_eq_some_iff] at h1
      obtain ⟨c', h1, rfl⟩ := h1
      exact ih c' u (hc i c' u h1 h2)
    | may l x =>
      cases h with
      | pure _ _ h => cases h with
        | mayT _ _ _ ht h => exact .mayT _ _ _ ht (ih x y (.pure _ _ h))
        | mayF _ _ hf => exact .mayF _ _ hf
      | mayT _ _ _ ht h => exact .mayT _ _ _ ht (ih x y h)
      | mayF _ _ hf => exact .mayF _ _ hf

end Go.AM
