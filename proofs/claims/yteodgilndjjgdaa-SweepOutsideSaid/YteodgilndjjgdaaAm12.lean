/- The abstract machine, part 12: a function's contract out of its body. No condition. -/
import Derived.Test.YteodgilndjjgdaaAm11
namespace Go.AM
set_option linter.unusedVariables false
set_option linter.unusedSimpArgs false

/-- The slots at a call's beginning. -/
def argT : Nat → List AV → Tm
  | _, [] => []
  | k, x :: xs => (k, x) :: argT (k + 1) xs

theorem look_argT : ∀ (xs : List AV) (k t : Nat), look (argT k xs) t = if k ≤ t then (xs[t - k]?).getD .any else .any
  | [], k, t => by simp [argT, look]
  | x :: xs, k, t => by
    simp only [argT, look]
    split
    · rename_i e; subst e; simp
    · rename_i e
      rw [look_argT xs (k + 1) t]
      by_cases h : k ≤ t
      · rw [if_pos (by omega), if_pos h, show t - k = t - (k + 1) + 1 by omega, List.getElem?_cons_succ]
      · rw [if_neg (by omega), if_neg h]

def tupOf : List AV → AV
  | [x] => x
  | xs => .tup xs

/-- What the result variables hold. -/
def resP (P : Program) (T : Tm) (H : Hp) : List ResultVar → (List AV → Prop) → Prop
  | [], K => K []
  | .tmp t :: rest, K => resP P T H rest fun xs => K (look T t :: xs)
  | .cell a t :: rest, K => aLoad (tdOf P t) (look T a) (hget H) fun e => resP P T H rest fun xs => K (e.av :: xs)

/-- The end of a call: what it hands back, by content. -/
def retQ (P : Program) (rs : List ResultVar) (res : AV) : Exit → Tm → Hp → Prop
  | .ret, T, H => resP P T H rs fun xs => frzP H 6 (tupOf xs) = res
  | .normal, T, H => resP P T H rs fun xs => frzP H 6 (tupOf xs) = res
  | _, _, _ => False

section
variable {P : Program}

/-- A load by its address. -/
theorem aLoad_run {B S0 : Nat → Prop} {nt : Nat} {w : World} {ρ : Nat → Option Loc} {L : Nat → Prop} {T : Nat → AV} {H : Nat → Option ARow} {a : Act} (hc : Core B S0 nt w ρ L T H a) {s : Nat} {t : TypeId} {K : Eff → Prop}
    (h : aLoad (tdOf P t) (T s) H K) : ∃ ad v e, a.tmps.getD s undef = .pointer (some ad) ∧ (loadVar t ad).run P w = .ok v w ∧ RepV w (Sx S0 ρ) ρ L e.av v ∧ K e := by
  obtain ⟨hne, h⟩ := h
  have hr := hc.tmps s
  split at h
  · rename_i r i off hx
    rw [hx] at hr
    split at h
    · rename_i sz es hH
      split at h
      · rename_i e he
        obtain ⟨l, hl, hrow⟩ := hc.rows r _ hH
        obtain ⟨ad, v, h1, h2, h3⟩ := load_row_run (P := P) hne hr hl hrow he h.1
        exact ⟨ad, v, _, h1, h2, h3, h.2⟩
      · exact h.elim
    · exact h.elim
  · rename_i cs hx
    rw [hx] at hr
    obtain ⟨ad, v, h1, h2, h3⟩ := load_iptr_run (P := P) hne hr h.1
    exact ⟨ad, v, _, h1, h2, h3, h.2⟩
  · exact h.elim

theorem run_results {B S0 : Nat → Prop} {nt : Nat} {w : World} {ρ : Nat → Option Loc} {L : Nat → Prop} {T : Tm} {H : Hp} {a : Act} (hc : Core B S0 nt w ρ L (look T) (hget H) a) :
    ∀ (rs : List ResultVar) (K : List AV → Prop), resP P T H rs K →
      ∃ (xs : List AV) (vs : List Value), (rs.mapM (fun (x : ResultVar) => (match x with
        | .tmp t => pure (a.tmps.getD t undef)
        | .cell ad t => do loadVar t (← asAddr (a.tmps.getD ad undef)) : Sem Value)) : Sem (List Value)).run P w = .ok vs w ∧ xs.length = vs.length ∧
        (∀ (i : Nat) c x, xs[i]? = some c → vs[i]? = some x → RepV w (Sx S0 ρ) ρ L c x) ∧ xs.length = rs.length ∧ K xs
  | [], K, h => ⟨[], [], by simp, rfl, by simp, rfl, h⟩
  | .tmp t :: rest, K, h => by
    obtain ⟨xs, vs, h1, h2, h3, h4, h5⟩ := run_results hc rest _ h
    refine ⟨look T t :: xs, a.tmps.getD t undef :: vs, ?_, by simp [h2], ?_, by simp [h4], h5⟩
    · simp only [List.mapM_cons, Sem.run_bind, Sem.run_pure, Result.andThen_ok, h1]
    · intro i c x q1 q2
      cases i with
      | zero => simp only [List.getElem?_cons_zero, Option.some.injEq] at q1 q2; subst q1 q2; exact hc.tmps t
      | succ i => exact h3 i c x q1 q2
  | .cell ad t :: rest, K, h => by
    obtain ⟨adr, v, e, k1, k2, k3, k4⟩ := aLoad_run hc h
    obtain ⟨xs, vs, h1, h2, h3, h4, h5⟩ := run_results hc rest _ k4
    refine ⟨e.av :: xs, v :: vs, ?_, by simp [h2], ?_, by simp [h4], h5⟩
    · have ka : (asAddr (a.tmps.getD ad undef)).run P w = .ok adr w := by rw [k1]; rfl
      simp only [List.mapM_cons, Sem.run_bind, Sem.run_pure, Result.andThen_ok, ka, k2, h1]
    · intro i c x q1 q2
      cases i with
      | zero => simp only [List.getElem?_cons_zero, Option.some.injEq] at q1 q2; subst q1 q2; exact k3
      | succ i => exact h3 i c x q1 q2

/-- A CONTRACT OUT OF A BODY. -/
theorem PureCall.of_body {f : FuncId} {fn : Func} {c : Code} {args : List AV} {res : AV} (hf : P.funcs[f]? = some fn) (hb : fn.body = some c) (hname : (fn.name == "runtime.NumGoroutine") = false) (hnt : args.length ≤ fn.ntmps)
    (h : AWp P fn.ntmps c (argT 0 args) [] (retQ P fn.results.toList res)) : PureCall P f args res := by
  have hn' : ¬ fn.name = "runtime.NumGoroutine" := by simpa using hname
  refine Or.inl ⟨fun w vs => by simp [callFunc, hf, hn', hb], ?_⟩
  intro S0 w vs hlow hlen hrep
  refine calls_of_wp hf hb ?_
  let ρ : Nat → Option Loc := fun _ => none
  have hS : ∀ b, Sx S0 ρ b ↔ S0 b := by
    intro b
    constructor
    · rintro (h | ⟨r, l, h1, _⟩)
      · exact h
      · cases h1
    · exact Or.inl
  have hsize : vs.toArray.size = args.length := by simp [hlen]
  have hst : St w (fun b => w.heap.size ≤ b) S0 fn.ntmps (argT 0 args) [] { tmps := vs.toArray ++ Array.replicate (fn.ntmps - vs.toArray.size) undef, defers := [] } w := by
    refine ⟨⟨ρ, fun _ => False, ⟨⟨?_, ?_, ?_, hlow, fun b h => h⟩, ?_, rfl, ?_, ?_, ?_⟩, fun r hr => hr.elim⟩, Ext.refl _ _⟩
    · intro r r' l l' b h1; cases h1
    · intro r l b h1; cases h1
    · intro r l h1; cases h1
    · rw [Array.size_append, Array.size_replicate, hsize]; omega
    · intro t
      rw [look_argT]
      simp only [Nat.zero_le, if_true, Nat.sub_zero]
      cases hx : args[t]? with
      | none => exact .pure _ _ (.any _)
      | some x =>
        have ht : t < args.length := (List.getElem?_eq_some_iff.1 hx).1
        have ht' : t < vs.length := by omega
        have hget : (vs.toArray ++ Array.replicate (fn.ntmps - vs.toArray.size) undef).getD t undef = vs[t] := by
          rw [Array.getD_eq_getD_getElem?, Array.getElem?_append_left (by simpa using ht')]
          simp [ht']
        rw [hget]
        exact .pure _ _ ((hrep t x _ hx (List.getElem?_eq_getElem ht')).ext (Nat.le_refl _) (fun b _ hn => ⟨rfl, fun k => hn ((hS b).1 k)⟩))
    · intro r row hr; cases r <;> cases hr
    · intro r _; rfl
  refine wp_mono (h w _ S0 _ w hst) ?_
  rintro e a' w' ⟨T', H', q, ⟨⟨ρ', L', hc, hL⟩, hext⟩⟩
  have hfin : (resP P T' H' fn.results.toList fun xs => frzP H' 6 (tupOf xs) = res) → a'.defers = [] ∧ ∃ v, (results fn a'.tmps).run P w' = .ok v w' ∧ ∃ v', Ending.returned v = .returned v' ∧ RepP w' S0 res v' ∧ Ext (fun _ => False) w w' := by
    intro hr
    obtain ⟨xs, vs', h1, h2, h3, h4, h5⟩ := run_results hc fn.results.toList _ hr
    refine ⟨hc.defers, ?_⟩
    have hm : (fn.results.mapM fun (x : ResultVar) => (match x with
        | .tmp t => pure (a'.tmps.getD t undef)
        | .cell ad t => do loadVar t (← asAddr (a'.tmps.getD ad undef)) : Sem Value)).run P w' = .ok vs'.toArray w' := by
      rw [Array.mapM_eq_mapM_toList, Sem.run_map, h1]; rfl
    have hrun : (results fn a'.tmps).run P w' = .ok (if h : vs'.toArray.size = 1 then vs'.toArray[0] else .tuple vs'.toArray) w' := by
      unfold results
      rw [Sem.run_bind]
      exact congrArg (fun (r : Result (Array Value)) => r.andThen fun a w' => Sem.run P (pure (if h : a.size = 1 then a[0] else Value.tuple a)) w') hm
    refine ⟨_, hrun, _, rfl, ?_, ⟨hext.os, hext.tape, hext.output, hext.size, fun b hb _ => hext.block b hb (by omega)⟩⟩
    rw [← h5]
    refine frzP_rep hc.wf hc.rows 6 _ _ ?_
    match xs, vs', h2, h3 with
    | [], [], _, _ => simp only [tupOf]; rw [dif_neg (by simp)]; exact .tup [] [] rfl (by simp)
    | [x], [v], _, h3 => simp only [tupOf]; rw [dif_pos (by simp)]; exact h3 0 x v rfl rfl
    | x :: y :: xs, v :: u :: vs', h2, h3 => simp only [tupOf]; rw [dif_neg (by simp)]; exact .tup _ (v :: u :: vs') h2 h3
  cases e with
  | ret => exact hfin q
  | normal => exact hfin q
  | exit id => exact q.elim
  | goto l => exact q.elim
  | panic ch => exact q.elim
  | outgrown => exact q.elim


/-- The end of a call that hands back a row of its own. -/
def retO (rs : List ResultVar) (i k sz : Nat) (es : List (List AV)) : Exit → Tm → Hp → Prop
  | .ret, T, H => ∃ t r, rs = [.tmp t] ∧ look T t = .row r i k ∧ hget H r = some (.els sz es)
  | _, _, _ => False

theorem OwnCall.of_body {f : FuncId} {fn : Func} {c : Code} {args : List AV} {i k sz : Nat} {es : List (List AV)} (hf : P.funcs[f]? = some fn) (hb : fn.body = some c) (hname : (fn.name == "runtime.NumGoroutine") = false) (hnt : args.length ≤ fn.ntmps)
    (hpl : plainEls es = true) (hne : es ≠ []) (h : AWp P fn.ntmps c (argT 0 args) [] (retO fn.results.toList i k sz es)) : OwnCall P f args i k sz es := by
  have hn' : ¬ fn.name = "runtime.NumGoroutine" := by simpa using hname
  refine ⟨fun w vs => by simp [callFunc, hf, hn', hb], hpl, ?_⟩
  intro S0 w vs hlow hlen hrep
  refine calls_of_wp hf hb ?_
  let ρ : Nat → Option Loc := fun _ => none
  have hS : ∀ b, Sx S0 ρ b ↔ S0 b := by
    intro b
    constructor
    · rintro (h | ⟨r, l, h1, _⟩)
      · exact h
      · cases h1
    · exact Or.inl
  have hsize : vs.toArray.size = args.length := by simp [hlen]
  have hst : St w (fun b => w.heap.size ≤ b) S0 fn.ntmps (argT 0 args) [] { tmps := vs.toArray ++ Array.replicate (fn.ntmps - vs.toArray.size) undef, defers := [] } w := by
    refine ⟨⟨ρ, fun _ => False, ⟨⟨?_, ?_, ?_, hlow, fun b h => h⟩, ?_, rfl, ?_, ?_, ?_⟩, fun r hr => hr.elim⟩, Ext.refl _ _⟩
    · intro r r' l l' b h1; cases h1
    · intro r l b h1; cases h1
    · intro r l h1; cases h1
    · rw [Array.size_append, Array.size_replicate, hsize]; omega
    · intro t
      rw [look_argT]
      simp only [Nat.zero_le, if_true, Nat.sub_zero]
      cases hx : args[t]? with
      | none => exact .pure _ _ (.any _)
      | some x =>
        have ht : t < args.length := (List.getElem?_eq_some_iff.1 hx).1
        have ht' : t < vs.length := by omega
        have hget : (vs.toArray ++ Array.replicate (fn.ntmps - vs.toArray.size) undef).getD t undef = vs[t] := by
          rw [Array.getD_eq_getD_getElem?, Array.getElem?_append_left (by simpa using ht')]
          simp [ht']
        rw [hget]
        exact .pure _ _ ((hrep t x _ hx (List.getElem?_eq_getElem ht')).ext (Nat.le_refl _) (fun b _ hn => ⟨rfl, fun k => hn ((hS b).1 k)⟩))
    · intro r row hr; cases r <;> cases hr
    · intro r _; rfl
  refine wp_mono (h w _ S0 _ w hst) ?_
  rintro e a' w' ⟨T', H', q, ⟨⟨ρ', L', hc, hL⟩, hext⟩⟩
  cases e with
  | ret =>
    obtain ⟨t, r, hrs, ht, hH⟩ := q
    refine ⟨hc.defers, ?_⟩
    have hrun : (results fn a'.tmps).run P w' = .ok (a'.tmps.getD t undef) w' := by
      have hrs' : fn.results = #[.tmp t] := by apply Array.ext'; simpa using hrs
      unfold results
      rw [hrs']
      simp
    have hv := hc.tmps t
    rw [ht] at hv
    obtain ⟨l, hl, hrow⟩ := hc.rows r _ hH
    obtain ⟨el, hel⟩ : ∃ el, es[0]? = some el := by
      cases es with
      | nil => exact absurd rfl hne
      | cons x l => exact ⟨x, rfl⟩
    obtain ⟨b, hb'⟩ := row_live hrow hel
    have hown := hc.wf.own r l b hl hb'
    have hSx : ∀ c, Sx S0 (ρ1 l) c → Sx S0 ρ' c := by
      rintro c (h1 | ⟨r', l', h1, h2⟩)
      · exact Or.inl h1
      · simp only [ρ1] at h1
        split at h1
        · simp only [Option.some.injEq] at h1; subst h1; exact Or.inr ⟨r, l, hl, h2⟩
        · cases h1
    refine ⟨_, hrun, _, l, b, rfl, hb', hown.2.2, hown.1, ⟨hext.os, hext.tape, hext.output, hext.size, fun b hb _ => hext.block b hb (by omega)⟩, ?_, ?_⟩
    · cases hv with
      | pure _ _ h => cases h
      | row _ _ _ _ h1 h2 h3 =>
        refine .row _ _ _ _ rfl h2 (fun l' hl' => ?_)
        simp only [ρ1, if_true, Option.some.injEq] at hl'
        subst hl'
        exact h3 l hl
    · obtain ⟨q1, q2, q3, q4⟩ := hrow
      refine ⟨q1, q2, q3, fun c hc' => ?_⟩
      obtain ⟨cs, t', p1, p2, p3, p4⟩ := q4 c hc'
      refine ⟨cs, t', p1, p2, p3, fun j av hj => ?_⟩
      obtain ⟨y, g1, g2, g3⟩ := p4 j av hj
      refine ⟨y, g1, g2, ?_⟩
      have hmem := List.mem_of_getElem? hj
      rw [List.mem_flatten] at hmem
      obtain ⟨el', hel', hcel⟩ := hmem
      simp only [plainEls, List.all_eq_true] at hpl
      exact .pure _ _ ((noRef_rep 2 av y (hpl el' hel' av hcel) g3).ext (Nat.le_refl _) (fun c _ hnc => ⟨rfl, fun h => hnc (hSx c h)⟩))
  | normal => exact q.elim
  | exit id => exact q.elim
  | goto l => exact q.elim
  | panic ch => exact q.elim
  | outgrown => exact q.elim

end
end Go.AM
