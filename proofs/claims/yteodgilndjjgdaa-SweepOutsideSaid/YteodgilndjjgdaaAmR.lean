/- The abstract machine, part R: rows that are written no more become values by content. No condition. -/
import Derived.Test.YteodgilndjjgdaaAm14
namespace Go.AM
set_option linter.unusedVariables false
set_option linter.unusedSimpArgs false

/-- Renaming, where rows without a new name become values by content. -/
def renF (H : Nat → Option ARow) (g : List (Option Nat)) : Nat → AV → AV
  | _, .row r i n => match newName g r with | some q => .row q i n | none => frz H 1 (.row r i n)
  | _, .ptr r i o => match newName g r with | some q => .ptr q i o | none => frz H 1 (.ptr r i o)
  | _, .mp r => match newName g r with | some q => .mp q | none => .any
  | n + 1, .agg cs => .agg (cs.map (renF H g n))
  | n + 1, .tup cs => .tup (cs.map (renF H g n))
  | n + 1, .clo f cs => .clo f (cs.map (renF H g n))
  | n + 1, .may l x => .may l (renF H g n x)
  | 0, .agg _ => .any
  | 0, .tup _ => .any
  | 0, .clo _ _ => .any
  | 0, .may _ _ => .any
  | _, x => x

def renRowF (H : Nat → Option ARow) (g : List (Option Nat)) : ARow → ARow
  | .els sz es => .els sz (es.map fun e => e.map (renF H g 3))
  | .map ag kts kvs => .map ag kts kvs

def renHF (H : Hp) (g : List (Option Nat)) : Hp := g.map fun q => match q with | some r => (hget H r).map (renRowF (hget H) g) | none => none

def subTF (H : Hp) (g : List (Option Nat)) (T : Tm) : Tm → Prop
  | [] => True
  | (i, x) :: r => (x = .any ∨ renF (hget H) g 3 (look T i) = x) ∧ subTF H g T r

theorem newName_none {g : List (Option Nat)} {r q : Nat} (h : newName g r = none) : g[q]? ≠ some (some r) := by
  intro hq
  unfold newName at h
  rw [List.findIdx?_eq_none_iff] at h
  have := h (some r) (List.mem_of_getElem? hq)
  simp at this

theorem renF_rep {w : World} {S0 B : Nat → Prop} {ρ : Nat → Option Loc} {L : Nat → Prop} {H : Nat → Option ARow} {g : List (Option Nat)} (hw : WF B S0 w ρ L)
    (hrows : ∀ r row, H r = some row → ∃ l, ρ r = some l ∧ RowRep w (Sx S0 ρ) ρ L l row) : ∀ (n : Nat) (x : AV) (y : Value), RepV w (Sx S0 ρ) ρ L x y →
    RepV w (Sx S0 (renρ ρ g)) (renρ ρ g) (fun r => r < g.length) (renF H g n x) y := by
  have hS : ∀ b, Sx S0 (renρ ρ g) b → Sx S0 ρ b := by
    rintro b (h | ⟨r, l, h1, h2⟩)
    · exact Or.inl h
    · obtain ⟨q, _, h3⟩ := renρ_spec h1
      exact Or.inr ⟨q, l, h3, h2⟩
  let ρd : Nat → Option Loc := fun r => if newName g r = none then ρ r else none
  have hd : ∀ r l, ρd r = some l → ρ r = some l ∧ newName g r = none := by
    intro r l h
    simp only [ρd] at h
    split at h
    · rename_i e; exact ⟨h, e⟩
    · cases h
  have hS2 : ∀ b, Sx S0 ρ b → Sx (Sx S0 (renρ ρ g)) ρd b := by
    rintro b (h | ⟨r, l, h1, h2⟩)
    · exact Or.inl (Or.inl h)
    · cases hn : newName g r with
      | none => exact Or.inr ⟨r, l, by simp only [ρd, hn, if_true]; exact h1, h2⟩
      | some q => exact Or.inl (Or.inr ⟨q, l, by simp only [renρ, newName_spec hn]; exact h1, h2⟩)
  have hS3 : ∀ b, Sx (Sx S0 (renρ ρ g)) ρd b → Sx S0 ρ b := by
    rintro b (h | ⟨r, l, h1, h2⟩)
    · exact hS b h
    · exact Or.inr ⟨r, l, (hd r l h1).1, h2⟩
  have hwd : WF B (Sx S0 (renρ ρ g)) w ρd L := by
    refine ⟨?_, ?_, ?_, ?_, hw.new⟩
    · intro r r' l l' b h1 h2 k1 k2
      exact hw.inj r r' l l' b (hd _ _ h1).1 (hd _ _ h2).1 k1 k2
    · intro r l b h1 k1
      obtain ⟨p1, p2⟩ := hd _ _ h1
      obtain ⟨o1, o2, o3⟩ := hw.own r l b p1 k1
      refine ⟨o1, ?_, o3⟩
      rintro (h | ⟨q, l', h2, h3⟩)
      · exact o2 h
      · obtain ⟨r', g1, g2⟩ := renρ_spec h2
        have := hw.inj r r' l l' b p1 g2 k1 h3
        subst this
        exact newName_none p2 g1
    · intro r l h1; exact hw.given r l (hd _ _ h1).1
    · rintro b (h | ⟨q, l', h2, h3⟩)
      · exact hw.low b h
      · obtain ⟨r', g1, g2⟩ := renρ_spec h2
        exact (hw.own r' l' b g2 h3).1
  have hrd : ∀ r row, newName g r = none → H r = some row → ∃ l, ρd r = some l ∧ RowRep w (Sx (Sx S0 (renρ ρ g)) ρd) ρd L l row := by
    intro r row hn hr
    obtain ⟨l, h1, h2⟩ := hrows r row hr
    exact ⟨l, by simp only [ρd, hn, if_true]; exact h1, h2.ext (Nat.le_refl _) (fun b _ hb => ⟨rfl, fun k => hb (hS3 b k)⟩) (fun _ h => h) (fun r l _ h => (hd r l h).1) (fun _ _ => rfl)⟩
  have hV : ∀ {x y}, RepV w (Sx S0 ρ) ρ L x y → RepV w (Sx (Sx S0 (renρ ρ g)) ρd) ρd L x y := fun h =>
    h.ext (Nat.le_refl _) (fun b _ hb => ⟨rfl, fun k => hb (hS3 b k)⟩) (fun _ h => h) (fun r l _ h => (hd r l h).1)
  have hP : ∀ {x y}, RepP w (Sx S0 ρ) x y → RepP w (Sx S0 (renρ ρ g)) x y := fun h => h.ext (Nat.le_refl _) (fun b _ hn => ⟨rfl, fun k => hn (hS b k)⟩)
  have row : ∀ n r i k y, RepV w (Sx S0 ρ) ρ L (.row r i k) y → RepV w (Sx S0 (renρ ρ g)) (renρ ρ g) (fun r => r < g.length) (renF H g n (.row r i k)) y := by
    intro n r i k y h
    have e : renF H g n (.row r i k) = match newName g r with | some q => .row q i k | none => frz H 1 (.row r i k) := by cases n <;> rfl
    rw [e]
    split
    · rename_i q hq
      have hg := newName_spec hq
      cases h with
      | pure _ _ h => cases h
      | row _ _ _ _ h1 h2 h3 =>
        refine .row _ _ _ _ (List.getElem?_eq_some_iff.1 hg).1 h2 (fun l hl => h3 l ?_)
        simp only [renρ, hg] at hl
        exact hl
    · rename_i hn
      exact .pure _ _ (frz_rep hwd 1 _ y (fun r' hr' row hrow => by simp only [frzRd, List.mem_singleton] at hr'; subst hr'; exact hrd _ row hn hrow) (hV h))
  have ptr : ∀ n r i k y, RepV w (Sx S0 ρ) ρ L (.ptr r i k) y → RepV w (Sx S0 (renρ ρ g)) (renρ ρ g) (fun r => r < g.length) (renF H g n (.ptr r i k)) y := by
    intro n r i k y h
    have e : renF H g n (.ptr r i k) = match newName g r with | some q => .ptr q i k | none => frz H 1 (.ptr r i k) := by cases n <;> rfl
    rw [e]
    split
    · rename_i q hq
      have hg := newName_spec hq
      cases h with
      | pure _ _ h => cases h
      | ptr _ _ _ _ h1 h2 h3 =>
        refine .ptr _ _ _ _ (List.getElem?_eq_some_iff.1 hg).1 h2 (fun l hl => h3 l ?_)
        simp only [renρ, hg] at hl
        exact hl
    · rename_i hn
      exact .pure _ _ (frz_rep hwd 1 _ y (fun r' hr' row hrow => by simp only [frzRd, List.mem_singleton] at hr'; subst hr'; exact hrd _ row hn hrow) (hV h))
  have mp : ∀ n r y, RepV w (Sx S0 ρ) ρ L (.mp r) y → RepV w (Sx S0 (renρ ρ g)) (renρ ρ g) (fun r => r < g.length) (renF H g n (.mp r)) y := by
    intro n r y h
    have e : renF H g n (.mp r) = match newName g r with | some q => .mp q | none => .any := by cases n <;> rfl
    rw [e]
    split
    · rename_i q hq
      have hg := newName_spec hq
      cases h with
      | pure _ _ h => cases h
      | mp _ _ h1 h2 h3 =>
        refine .mp _ _ (List.getElem?_eq_some_iff.1 hg).1 h2 (fun l hl => h3 l ?_)
        simp only [renρ, hg] at hl
        exact hl
    · exact .pure _ _ (.any _)
  have atom : ∀ n x y, (match x with | .v _ => True | .lst _ _ => True | .full _ _ => True | .iptr _ => True | .mpc _ _ _ => True | .any => True | _ => False) → RepV w (Sx S0 ρ) ρ L x y → RepV w (Sx S0 (renρ ρ g)) (renρ ρ g) (fun r => r < g.length) (renF H g n x) y := by
    intro n x y hx h
    cases x <;> simp only at hx <;> (cases h; rename_i h; cases n <;> exact .pure _ _ (hP h))
  intro n
  induction n with
  | zero =>
    intro x y h
    cases x with
    | row r i k => exact row 0 r i k y h
    | ptr r i k => exact ptr 0 r i k y h
    | mp r => exact mp 0 r y h
    | agg cs => exact .pure _ _ (.any _)
    | tup cs => exact .pure _ _ (.any _)
    | clo f cs => exact .pure _ _ (.any _)
    | may l x => exact .pure _ _ (.any _)
    | _ => exact atom 0 _ y trivial h
  | succ n ih =>
    intro x y h
    cases x with
    | row r i k => exact row _ r i k y h
    | ptr r i k => exact ptr _ r i k y h
    | mp r => exact mp _ r y h
    | agg cs =>
      obtain ⟨vs, rfl, hl, hc⟩ := agg_cells h
      refine .agg _ vs (by simpa using hl) (fun u hu => ?_) (fun i c u h1 h2 => ?_)
      · obtain ⟨i, hi, rfl⟩ := List.getElem_of_mem hu
        exact (hc i _ _ (List.getElem?_eq_getElem (by omega)) (List.getElem?_eq_getElem hi)).1
      · simp only [List.getElem?_map, Option.map_eq_some_iff] at h1
        obtain ⟨c', h1, rfl⟩ := h1
        exact ih c' u (hc i c' u h1 h2).2
    | tup cs =>
      obtain ⟨vs, rfl, hl, hc⟩ := tup_cells h
      refine .tup _ vs (by simpa using hl) (fun i c u h1 h2 => ?_)
      simp only [List.getElem?_map, Option.map_eq_some_iff] at h1
      obtain ⟨c', h1, rfl⟩ := h1
      exact ih c' u (hc i c' u h1 h2)
    | clo f cs =>
      obtain ⟨vs, rfl, hl, hc⟩ := clo_cells h
      refine .clo f _ vs (by simpa using hl) (fun i c u h1 h2 => ?_)
      simp only [List.getElem?_map, Option.map_eq_some_iff] at h1
      obtain ⟨c', h1, rfl⟩ := h1
      exact ih c' u (hc i c' u h1 h2)
    | may l x =>
      cases h with
      | pure _ _ h => cases h with
        | mayT _ _ _ ht h => exact .mayT _ _ _ ht (ih x y (.pure _ _ h))
        | mayF _ _ hf => exact .mayF _ _ hf
      | mayT _ _ _ ht h => exact .mayT _ _ _ ht (ih x y h)
      | mayF _ _ hf => exact .mayF _ _ hf
    | _ => exact atom _ _ y trivial h

/-- FREEZING: as sub_ren, but the rows that have no new name become values by content. -/
theorem sub_renF {nt : Nat} {T T' : Tm} {H H' : Hp} (g : List (Option Nat)) (hn : ∀ (i j q : Nat), g[i]? = some (some q) → g[j]? = some (some q) → i = j) (hT : subTF H g T T') (hH : renHF H g = H') : Sub nt T H T' H' := by
  rintro w0 B S0 a w ⟨⟨ρ, L, hc, hL⟩, hext⟩
  subst hH
  have hren := renF_rep (g := g) (H := hget H) hc.wf (fun r row hr => hc.rows r row hr)
  refine ⟨⟨renρ ρ g, fun r => r < g.length, ⟨⟨?_, ?_, ?_, hc.wf.low, hc.wf.new⟩, hc.size, hc.defers, ?_, ?_, ?_⟩, ?_⟩, hext⟩
  · intro r r' l l' b h1 h2 k1 k2
    obtain ⟨q, g1, p1⟩ := renρ_spec h1
    obtain ⟨q', g2, p2⟩ := renρ_spec h2
    have := hc.wf.inj q q' l l' b p1 p2 k1 k2
    subst this
    exact hn _ _ _ g1 g2
  · intro r l b h1 k1
    obtain ⟨q, g1, p1⟩ := renρ_spec h1
    exact hc.wf.own q l b p1 k1
  · intro r l h1
    obtain ⟨q, g1, p1⟩ := renρ_spec h1
    exact (List.getElem?_eq_some_iff.1 g1).1
  · intro t
    have gen : ∀ (T' : Tm), subTF H g T T' → RepV w (Sx S0 (renρ ρ g)) (renρ ρ g) (fun r => r < g.length) (look T' t) (a.tmps.getD t undef) := by
      intro T'
      induction T' with
      | nil => intro _; exact .pure _ _ (.any _)
      | cons p T' ih =>
        obtain ⟨i, x⟩ := p
        rintro ⟨h1, h2⟩
        simp only [look]
        split
        · rename_i e
          subst e
          rcases h1 with rfl | rfl
          · exact .pure _ _ (.any _)
          · exact hren 3 _ _ (hc.tmps t)
        · exact ih h2
    exact gen T' hT
  · intro r row hr
    simp only [renHF, hget_map] at hr
    split at hr
    · rename_i q hq
      split at hr
      · rename_i q'
        simp only [Option.map_eq_some_iff] at hr
        obtain ⟨row0, h0, rfl⟩ := hr
        obtain ⟨l, hl, hrow⟩ := hc.rows q' row0 h0
        refine ⟨l, by simp only [renρ, hq]; exact hl, ?_⟩
        cases row0 with
        | map kvs => exact hrow
        | els sz es =>
          obtain ⟨h1, h2, h3, h4⟩ := hrow
          refine ⟨h1, ?_, fun hb => by rw [h3 hb]; rfl, fun b hb => ?_⟩
          · intro e he
            simp only [List.mem_map] at he
            obtain ⟨e', he', rfl⟩ := he
            simpa using h2 e' he'
          · obtain ⟨c, t, k1, k2, k3, k4⟩ := h4 b hb
            refine ⟨c, t, k1, k2, by simpa using k3, fun i av hi => ?_⟩
            rw [← List.map_flatten] at hi
            simp only [List.getElem?_map, Option.map_eq_some_iff] at hi
            obtain ⟨av0, hi, rfl⟩ := hi
            obtain ⟨x, p1, p2, p3⟩ := k4 i av0 hi
            exact ⟨x, p1, p2, hren 3 _ _ p3⟩
      · cases hr
    · cases hr
  · intro r hr
    simp only [renHF, hget_map] at hr
    simp only [renρ]
    split
    · rename_i q hq
      rw [hq] at hr
      simp only [Option.map_eq_none_iff] at hr
      exact hc.dead q hr
    · rfl
  · intro r hr; simpa [renHF] using hr

theorem sub_rf {nt : Nat} {T T' : Tm} {H H' : Hp} (g : List (Option Nat)) (hn : nodupB g = true) (hT : subTF H g T T') (hH : renHF H g = H') : Sub nt T H T' H' := sub_renF g (nodupB_spec g hn) hT hH

theorem hget_set : ∀ (H : Hp) (r : Nat) (x : Option ARow) (q : Nat), r < H.length → hget (H.set r x) q = if q = r then x else hget H q
  | [], r, x, q, h => by simp at h
  | y :: H, 0, x, 0, h => by simp [hget]
  | y :: H, 0, x, q + 1, h => by simp [hget]
  | y :: H, r + 1, x, 0, h => by simp [hget]
  | y :: H, r + 1, x, q + 1, h => by
    simp only [List.set_cons_succ, hget, Nat.add_right_cancel_iff]
    exact hget_set H r x q (by simpa using h)
theorem hget_lt : ∀ {H : Hp} {r : Nat} {row : ARow}, hget H r = some row → r < H.length
  | [], r, row, h => by cases r <;> simp [hget] at h
  | y :: H, 0, row, h => by simp
  | y :: H, r + 1, row, h => by simp only [hget] at h; have := hget_lt h; simp; omega
theorem hget_snoc (H : Hp) (x : Option ARow) (r : Nat) : hget (H ++ [x]) r = if r = H.length then x else hget H r := by
  induction H generalizing r with
  | nil => cases r <;> simp [hget]
  | cons y ys ih =>
    cases r with
    | zero => simp [hget]
    | succ r => simp only [List.cons_append, hget, List.length_cons, Nat.add_right_cancel_iff]; exact ih r

/-- A nil slice in a cell as a row of none. -/
theorem sub_nilc {nt : Nat} {T : Tm} {H : Hp} (r i j sz : Nat) {sz0 : Nat} {es : List (List AV)} {e : List AV} (hr : hget H r = some (.els sz0 es)) (he : es[i]? = some e) (hj : e[j]? = some (.v (.slice none 0 0))) :
    Sub nt T H T (H.set r (some (.els sz0 (es.set i (e.set j (.row H.length 0 0))))) ++ [some (.els sz [])]) := by
  rintro w0 B S0 a w ⟨⟨ρ, L, hc, hL⟩, hext⟩
  have hrl := hget_lt hr
  have hN : ¬ L H.length := fun h => Nat.lt_irrefl _ (hL _ h)
  let l : Loc := ⟨none, 0, sz, 0⟩
  have hnone : ∀ r l', Loc.fresh ρ H.length l r = some l' → l'.b ≠ none → ρ r = some l' := by
    intro r l' h1 h2
    simp only [Loc.fresh] at h1
    split at h1
    · simp only [Option.some.injEq] at h1; subst h1; exact absurd rfl h2
    · exact h1
  have hS : ∀ b, Sx S0 (Loc.fresh ρ H.length l) b → Sx S0 ρ b := by
    rintro b (h1 | ⟨r, l', h1, h2⟩)
    · exact Or.inl h1
    · exact Or.inr ⟨r, l', hnone r l' h1 (by rw [h2]; simp), h2⟩
  have hk : ∀ x y, RepV w (Sx S0 ρ) ρ L x y → RepV w (Sx S0 (Loc.fresh ρ H.length l)) (Loc.fresh ρ H.length l) (fun r => L r ∨ r = H.length) x y := fun x y k =>
    k.ext (Nat.le_refl _) (fun b _ hn => ⟨rfl, fun q => hn (hS b q)⟩) (fun r => Or.inl) (fun r l' hr hl' => by
      simp only [Loc.fresh] at hl'
      split at hl'
      · rename_i e; subst e; exact absurd hr hN
      · exact hl')
  have hnew : RepV w (Sx S0 (Loc.fresh ρ H.length l)) (Loc.fresh ρ H.length l) (fun r => L r ∨ r = H.length) (.row H.length 0 0) (.slice none 0 0) := by
    refine .row _ _ _ _ (Or.inr rfl) rfl (fun l' hl' => ?_)
    simp only [Loc.fresh, if_true, Option.some.injEq] at hl'
    subst hl'
    exact ⟨fun _ => ⟨rfl, rfl, rfl⟩, fun b hb => by cases hb⟩
  have hwf := wf_fresh hc.wf hN l (w' := w) (Nat.le_refl _) (by intro b hb; cases hb)
  have hrowk : ∀ r row, hget H r = some row → ∃ l', Loc.fresh ρ H.length l r = some l' ∧ RowRep w (Sx S0 (Loc.fresh ρ H.length l)) (Loc.fresh ρ H.length l) (fun r => L r ∨ r = H.length) l' row := by
    intro r row hr
    obtain ⟨l', hl', hrow⟩ := hc.rows r row hr
    have hne : r ≠ H.length := by have := hget_lt hr; omega
    refine ⟨l', by simp [Loc.fresh, hne, hl'], hrow.ext (Nat.le_refl _) (fun b _ hn => ⟨rfl, fun q => hn (hS b q)⟩) (fun r => Or.inl) (fun r l' hr hl' => by
        simp only [Loc.fresh] at hl'
        split at hl'
        · rename_i e; subst e; exact absurd hr hN
        · exact hl') (fun _ _ => rfl)⟩
  refine ⟨⟨Loc.fresh ρ H.length l, fun r => L r ∨ r = H.length, ⟨hwf, hc.size, hc.defers, fun t' => hk _ _ (hc.tmps t'), ?_, ?_⟩, ?_⟩, hext⟩
  · intro q row hq
    rw [hget_snoc, List.length_set] at hq
    split at hq
    · rename_i e
      simp only [Option.some.injEq] at hq
      subst hq
      exact ⟨l, by simp [Loc.fresh, e], rfl, by simp, by simp, by intro b hb; cases hb⟩
    · rename_i e'
      rw [hget_set H r _ q hrl] at hq
      split at hq
      · rename_i e''
        subst e''
        simp only [Option.some.injEq] at hq
        subst hq
        obtain ⟨l', hl', hrow⟩ := hrowk q _ hr
        refine ⟨l', hl', ?_⟩
        obtain ⟨h1, h2, h3, h4⟩ := hrow
        have hil : i < es.length := (List.getElem?_eq_some_iff.1 he).1
        have helen := h2 e (List.mem_of_getElem? he)
        have hjl : j < e.length := (List.getElem?_eq_some_iff.1 hj).1
        have hset : ∀ x ∈ es.set i (e.set j (.row H.length 0 0)), x.length = sz0 := by
          intro x hx
          rcases List.mem_or_eq_of_mem_set hx with hx | rfl
          · exact h2 x hx
          · simpa using helen
        refine ⟨h1, hset, fun hb => by have := h3 hb; subst this; simp at hil, fun b hb => ?_⟩
        obtain ⟨c, t, k1, k2, k3, k4⟩ := h4 b hb
        refine ⟨c, t, k1, k2, by simpa using k3, fun u av hu => ?_⟩
        have key : (es.set i (e.set j (.row H.length 0 0))).flatten = es.flatten.set (i * sz0 + j) (.row H.length 0 0) := by
          apply List.ext_getElem?
          intro m
          by_cases hm : m < es.length * sz0
          · have hpos : 0 < sz0 := by rcases Nat.eq_zero_or_pos sz0 with h | h; · rw [h] at hm; simp at hm
                                      · exact h
            have hq : m / sz0 < es.length := by rw [Nat.div_lt_iff_lt_mul hpos]; exact hm
            have hmod := Nat.mod_lt m hpos
            have hme : m = m / sz0 * sz0 + m % sz0 := by rw [Nat.mul_comm]; exact (Nat.div_add_mod m sz0).symm
            obtain ⟨x, hx⟩ : ∃ x, es[m / sz0]? = some x := ⟨_, List.getElem?_eq_getElem hq⟩
            by_cases hmi : m / sz0 = i
            · have hx' : (es.set i (e.set j (.row H.length 0 0)))[m / sz0]? = some (e.set j (.row H.length 0 0)) := by rw [hmi]; simp [hil]
              rw [hmi, he] at hx
              simp only [Option.some.injEq] at hx
              subst hx
              have f1 := flatten_get hset hx' (m % sz0) hmod
              have f2 := flatten_get h2 (by rw [hmi]; exact he : es[m / sz0]? = some e) (m % sz0) hmod
              rw [← hme] at f1 f2
              rw [f1, List.getElem?_set, List.getElem?_set]
              by_cases hjm : j = m % sz0
              · have : i * sz0 + j = m := by rw [← hmi, hjm]; exact hme.symm
                rw [if_pos hjm, if_pos this]
                have hml : m < es.flatten.length := by rw [length_flatten h2]; exact hm
                have hjm' : m % sz0 < e.length := by rw [← hjm]; exact hjl
                rw [if_pos (by omega), if_pos (by omega)]
              · have : i * sz0 + j ≠ m := by
                  intro h; apply hjm
                  have h' : i * sz0 + j = i * sz0 + m % sz0 := by rw [h, ← hmi]; exact hme
                  omega
                rw [if_neg hjm, if_neg this, f2]
            · have hx' : (es.set i (e.set j (.row H.length 0 0)))[m / sz0]? = some x := by rw [List.getElem?_set, if_neg (fun h => hmi h.symm)]; exact hx
              have f1 := flatten_get hset hx' (m % sz0) hmod
              have f2 := flatten_get h2 hx (m % sz0) hmod
              rw [← hme] at f1 f2
              have : i * sz0 + j ≠ m := by
                intro h; apply hmi
                have hj' : j < sz0 := by omega
                rw [← h, Nat.mul_comm, Nat.mul_add_div hpos, Nat.div_eq_of_lt hj', Nat.add_zero]
              rw [f1, List.getElem?_set, if_neg this, f2]
          · have l1 : (es.set i (e.set j (.row H.length 0 0))).flatten.length ≤ m := by rw [length_flatten hset, List.length_set]; omega
            have l2 : (es.flatten.set (i * sz0 + j) (.row H.length 0 0)).length ≤ m := by rw [List.length_set, length_flatten h2]; omega
            rw [List.getElem?_eq_none l1, List.getElem?_eq_none l2]
        rw [key, List.getElem?_set] at hu
        split at hu
        · rename_i hu'
          split at hu
          · simp only [Option.some.injEq] at hu
            subst hu
            have f2 := flatten_get h2 he j (by omega)
            rw [hj, hu'] at f2
            obtain ⟨x, p1, p2, p3⟩ := k4 u _ f2
            refine ⟨x, p1, p2, ?_⟩
            rw [exact_v p3]
            exact hnew
          · cases hu
        · exact k4 u av hu
      · exact hrowk q row hq
  · intro q hq
    rw [hget_snoc, List.length_set] at hq
    split at hq
    · cases hq
    · rename_i e'
      rw [hget_set H r _ q hrl] at hq
      split at hq
      · cases hq
      · simp [Loc.fresh, e', hc.dead q hq]
  · rintro q (hq | rfl)
    · have := hL q hq; simp; omega
    · simp

def noGotoA (Q : Exit → Tm → Hp → Prop) : Exit → Tm → Hp → Prop
  | .goto _ => fun _ _ => False
  | e => Q e

theorem awp_scope {P : Program} {nt : Nat} {c : Code} {T : Tm} {H : Hp} {Q : Exit → Tm → Hp → Prop} (h : AWp P nt c T H (noGotoA Q)) : AWp P nt (.scope c) T H Q := by
  intro w0 B S0 a w hs
  refine wp_scope_straight (wp_mono (h w0 B S0 a w hs) ?_)
  rintro e a' w' ⟨T', H', q, s⟩
  cases e with
  | goto l => exact q.elim
  | normal => exact ⟨T', H', q, s⟩
  | exit id => exact ⟨T', H', q, s⟩
  | ret => exact ⟨T', H', q, s⟩
  | panic c => exact ⟨T', H', q, s⟩
  | outgrown => exact ⟨T', H', q, s⟩

theorem awp_sl {P : Program} {nt l : Nat} {c : Code} {T : Tm} {H : Hp} {Q : Exit → Tm → Hp → Prop} (h : AWp P nt c T H Q) : AWp P nt (.seq (.label l) c) T H Q := by
  refine awp_seq ?_
  intro w0 B S0 a w hs
  exact wp_label ⟨T, H, h, hs⟩

@[simp] theorem one_int (k : IntKind) (n : Int) : (Value.int k n).oneCell' = true := rfl
@[simp] theorem one_bool (b : Bool) : (Value.bool b).oneCell' = true := rfl
@[simp] theorem one_slice (a : Option Addr) (n m : Nat) : (Value.slice a n m).oneCell' = true := rfl
@[simp] theorem one_ptr (a : Option Addr) : (Value.pointer a).oneCell' = true := rfl
attribute [simp] noGotoA subTF renF renHF renRowF
end Go.AM
