/- The abstract machine, part F: what a call is handed by content, and a call whose result holds no reference. No condition. -/
import Derived.Test.YteodgilndjjgdaaAm8
import Derived.Laws.Externs
namespace Go.AM
set_option linter.unusedVariables false
set_option linter.unusedSimpArgs false

/-- All elements are without a reference to a row. -/
def plainEls (es : List (List AV)) : Bool := es.all fun e => e.all (AV.noRef 2)

/-- By content, for one that only reads: rows whose elements hold no reference. -/
def frz (H : Nat → Option ARow) : Nat → AV → AV
  | n + 1, .row r i k => match H r with
    | some (.els sz es) => if i + k ≤ es.length ∧ sz ≠ 0 ∧ plainEls es = true then .lst sz ((es.drop i).take k) else .any
    | _ => .any
  | n + 1, .ptr r i o => match H r with
    | some (.els sz es) => match es[i]? with
      | some e => if o ≤ e.length ∧ e.all (AV.noRef 2) = true then .iptr (e.drop o) else .any
      | none => .any
    | _ => .any
  | n + 1, .agg cs => .agg (cs.map (frz H n))
  | n + 1, .tup cs => .tup (cs.map (frz H n))
  | n + 1, .clo f cs => .clo f (cs.map (frz H n))
  | _, .v x => .v x
  | _, .lst sz els => .lst sz els
  | _, .full sz els => .full sz els
  | _, .iptr cs => .iptr cs
  | _, .mpc ag kts kvs => .mpc ag kts kvs
  | _, _ => .any

/-- The rows that are read for it. -/
def frzRd : Nat → AV → List Nat
  | n + 1, .row r _ _ => [r]
  | n + 1, .ptr r _ _ => [r]
  | n + 1, .agg cs => cs.flatMap (frzRd n)
  | n + 1, .tup cs => cs.flatMap (frzRd n)
  | n + 1, .clo _ cs => cs.flatMap (frzRd n)
  | _, _ => []

theorem frz_rep {w : World} {S0 : Nat → Prop} {B : Nat → Prop} {ρ : Nat → Option Loc} {L : Nat → Prop} {H : Nat → Option ARow} (hw : WF B S0 w ρ L) :
    ∀ (n : Nat) (x : AV) (y : Value), (∀ r ∈ frzRd n x, ∀ row, H r = some row → ∃ l, ρ r = some l ∧ RowRep w (Sx S0 ρ) ρ L l row) → RepV w (Sx S0 ρ) ρ L x y → RepP w S0 (frz H n x) y := by
  have hP : ∀ {x y}, RepP w (Sx S0 ρ) x y → RepP w S0 x y := fun h => h.ext (Nat.le_refl _) (fun b _ hn => ⟨rfl, fun k => hn (Or.inl k)⟩)
  intro n
  induction n with
  | zero =>
    intro x y _ h
    cases x with
    | v x => cases h with | pure _ _ h => exact hP h
    | lst sz els => cases h with | pure _ _ h => exact hP h
    | full sz els => cases h with | pure _ _ h => exact hP h
    | iptr cs => cases h with | pure _ _ h => exact hP h
    | mpc ag kts kvs => cases h with | pure _ _ h => exact hP h
    | _ => exact .any _
  | succ n ih =>
    intro x y hrows h
    cases x with
    | v x => cases h with | pure _ _ h => exact hP h
    | lst sz els => cases h with | pure _ _ h => exact hP h
    | full sz els => cases h with | pure _ _ h => exact hP h
    | iptr cs => cases h with | pure _ _ h => exact hP h
    | mpc ag kts kvs => cases h with | pure _ _ h => exact hP h
    | any => exact .any _
    | mp r => exact .any _
    | may l x => exact .any _
    | row r i k =>
      simp only [frz]
      split
      · rename_i sz es hH
        split
        · rename_i hc
          obtain ⟨hin, hsz, hpl⟩ := hc
          obtain ⟨l, hl, hrow⟩ := hrows r (by simp [frzRd]) _ hH
          have hz := hrow.1
          subst hz
          have hlen : ((es.drop i).take k).length = k := by rw [List.length_take, List.length_drop, Nat.min_eq_left]; omega
          cases h with
          | pure _ _ h => cases h
          | row _ _ _ _ h1 h2 h3 =>
            obtain ⟨h4, h5⟩ := h3 l hl
            cases hb : l.b with
            | none =>
              obtain ⟨rfl, rfl, rfl⟩ := h4 hb
              simp only [List.drop_zero, List.take_zero]
              exact .lstNil _ _ _
            | some b =>
              obtain ⟨off, cap, rfl, hcap, hoff⟩ := h5 b hb
              by_cases hk0 : k = 0
              · subst hk0; simp only [List.take_zero]; exact .lstNil _ _ _
              · obtain ⟨rfl, _⟩ := hoff.resolve_left (by omega)
                have hlies := row_lies hrow hsz hin hb
                obtain ⟨g1, g2⟩ := hlies
                rcases g2 with g2 | ⟨b', off', vs, g2, g3, g4, g5⟩
                · rw [g2] at hlen; simp at hlen; omega
                · simp only [Option.some.injEq, Addr.mk.injEq] at g2
                  obtain ⟨rfl, rfl, _⟩ := g2
                  have := RepP.lst (w := w) (S := S0) l.sz ((es.drop i).take k) b (l.o + i * l.sz) cap vs (hw.own r l b hl hb).2.1 (hw.own r l b hl hb).1 (by omega) g1 (by rw [length_flatten g1, g3]) g4 (by
                    intro j c u hj hu
                    have hmem := List.mem_of_getElem? hj
                    rw [List.mem_flatten] at hmem
                    obtain ⟨el, hel, hcel⟩ := hmem
                    have hel' : el ∈ es := List.mem_of_mem_drop (List.mem_of_mem_take hel)
                    simp only [plainEls, List.all_eq_true] at hpl
                    exact hP (noRef_rep 2 c u (hpl el hel' c hcel) (g5 j c u hj hu)))
                  rw [hlen] at this
                  exact this
        · exact .any _
      · exact .any _
    | ptr r i o =>
      simp only [frz]
      split
      · rename_i sz es hH
        split
        · rename_i e he
          split
          · rename_i ho
            obtain ⟨ho, hpl⟩ := ho
            obtain ⟨l, hl, hrow⟩ := hrows r (by simp [frzRd]) _ hH
            obtain ⟨b, hb⟩ := row_live hrow he
            obtain ⟨c, t, k1, k2, k3, k4⟩ := row_cells hrow he hb
            cases h with
            | pure _ _ h => cases h
            | ptr _ _ _ _ h1 h2 h3 =>
              obtain ⟨b', hb', rfl⟩ := h3 l hl
              rw [hb] at hb'
              simp only [Option.some.injEq] at hb'
              subst hb'
              have hsz : (i + 1) * sz = i * sz + sz := Nat.succ_mul _ _
              refine .iptr _ b (l.o + i * l.sz + o) ((c.toList.drop (l.o + i * sz + o)).take (e.length - o)) (hw.own r l b hl hb).2.1 (hw.own r l b hl hb).1 ?_ ?_ ?_
              · have hcl : (c.toList.drop (l.o + i * sz + o)).length = c.size - (l.o + i * sz + o) := by rw [List.length_drop, Array.length_toList]
                have hel : (e.drop o).length = e.length - o := List.length_drop ..
                rw [hel, List.length_take, hcl, Nat.min_eq_left]; omega
              · intro j u hj
                rw [List.getElem?_take] at hj
                split at hj
                · rename_i hjl
                  rw [List.getElem?_drop] at hj
                  obtain ⟨x, p1, p2, p3, p4⟩ := k4 (o + j) _ (List.getElem?_eq_getElem (by omega))
                  have hju : c[l.o + i * sz + o + j]? = some u := by simpa using hj
                  rw [← Nat.add_assoc] at p1
                  rw [hju] at p1
                  simp only [Option.some.injEq] at p1
                  subst p1
                  refine ⟨?_, p3⟩
                  rw [hrow.1]
                  rw [← Nat.add_assoc] at p2
                  exact p2
                · cases hj
              · intro j cc u hj hu
                rw [List.getElem?_drop] at hj
                rw [List.getElem?_take] at hu
                split at hu
                · rw [List.getElem?_drop] at hu
                  obtain ⟨x, p1, p2, p3, p4⟩ := k4 (o + j) cc hj
                  have hju : c[l.o + i * sz + o + j]? = some u := by simpa using hu
                  rw [← Nat.add_assoc] at p1
                  rw [hju] at p1
                  simp only [Option.some.injEq] at p1
                  subst p1
                  simp only [List.all_eq_true] at hpl
                  exact hP (noRef_rep 2 cc u (hpl cc (List.mem_of_getElem? hj)) p4)
                · cases hu
          · exact .any _
        · exact .any _
      · exact .any _
    | agg cs =>
      obtain ⟨vs, rfl, hl, hc⟩ := agg_cells h
      refine .agg _ vs (by simpa using hl) (fun u hu => ?_) (fun i c u h1 h2 => ?_)
      · obtain ⟨i, hi, rfl⟩ := List.getElem_of_mem hu
        exact (hc i _ _ (List.getElem?_eq_getElem (by omega)) (List.getElem?_eq_getElem hi)).1
      · simp only [List.getElem?_map, Option.map_eq_some_iff] at h1
        obtain ⟨c', h1, rfl⟩ := h1
        exact ih c' u (fun r hr => hrows r (by simp only [frzRd, List.mem_flatMap]; exact ⟨c', List.mem_of_getElem? h1, hr⟩)) (hc i c' u h1 h2).2
    | tup cs =>
      obtain ⟨vs, rfl, hl, hc⟩ := tup_cells h
      refine .tup _ vs (by simpa using hl) (fun i c u h1 h2 => ?_)
      simp only [List.getElem?_map, Option.map_eq_some_iff] at h1
      obtain ⟨c', h1, rfl⟩ := h1
      exact ih c' u (fun r hr => hrows r (by simp only [frzRd, List.mem_flatMap]; exact ⟨c', List.mem_of_getElem? h1, hr⟩)) (hc i c' u h1 h2)
    | clo f cs =>
      obtain ⟨vs, rfl, hl, hc⟩ := clo_cells h
      refine .clo f _ vs (by simpa using hl) (fun i c u h1 h2 => ?_)
      simp only [List.getElem?_map, Option.map_eq_some_iff] at h1
      obtain ⟨c', h1, rfl⟩ := h1
      exact ih c' u (fun r hr => hrows r (by simp only [frzRd, List.mem_flatMap]; exact ⟨c', List.mem_of_getElem? h1, hr⟩)) (hc i c' u h1 h2)

/-- What holds no reference stays as it is when it is frozen. -/
theorem frz_plain {w : World} {S : Nat → Prop} {ρ : Nat → Option Loc} {L : Nat → Prop} {H : Nat → Option ARow} (hlow : ∀ b, S b → b < w.heap.size) {x : AV} {y : Value} (hnr : x.noRef 2 = true) (h : RepV w S ρ L x y) : RepP w S (frz H 3 x) y := by
  have hr := noRef_rep (ρ := ρ) (L := L) 2 x y hnr h
  have gen : ∀ (n m : Nat) (z : AV), m ≤ n → z.noRef m = true → ∀ k, frzRd k z = [] := by
    intro n
    induction n with
    | zero =>
      intro m z hm hz k
      have : m = 0 := by omega
      subst this
      cases z <;> simp [AV.noRef] at hz <;> cases k <;> simp [frzRd]
    | succ n ih =>
      intro m z hm hz k
      cases m with
      | zero => cases z <;> simp [AV.noRef] at hz <;> cases k <;> simp [frzRd]
      | succ m =>
        cases z <;> simp only [AV.noRef, List.all_eq_true, Bool.false_eq_true] at hz <;> cases k <;> simp only [frzRd]
        all_goals
          rw [List.flatMap_eq_nil_iff]
          intro c hc
          exact ih m c (by omega) (hz c hc) _
  refine frz_rep (S0 := S) (B := fun _ => True) (ρ := fun _ => none) (L := L) (H := H) (w := w) ⟨(by intro r r' l l' b h; cases h), (by intro r l b h; cases h), (by intro r l h; cases h), hlow, fun _ _ => trivial⟩ 3 x y (by
    intro r hr' row _
    exfalso
    rw [gen 2 2 x (Nat.le_refl _) hnr 3] at hr'
    cases hr') (.pure _ _ (hr.ext (Nat.le_refl _) (fun b _ hnb => ⟨rfl, by
      rintro (h | ⟨r, l, h, _⟩)
      · exact hnb h
      · cases h⟩)))

/-- No reference at all (looked for so deep). -/
def AV.flat : Nat → AV → Bool
  | _, .v _ => true
  | _, .any => true
  | n + 1, .agg cs => cs.all (AV.flat n)
  | n + 1, .tup cs => cs.all (AV.flat n)
  | _, _ => false

theorem flat_rep {w : World} {S S' : Nat → Prop} : ∀ (n : Nat) (x : AV) (y : Value), x.flat n = true → RepP w S x y → RepP w S' x y := by
  intro n
  induction n with
  | zero =>
    intro x y h1 h2
    cases h2 <;> first | (exact .v _) | (exact .any _) | simp [AV.flat] at h1
  | succ n ih =>
    intro x y h1 h2
    cases h2 with
    | v x => exact .v _
    | any x => exact .any _
    | agg cs vs hl hc h =>
      simp only [AV.flat, List.all_eq_true] at h1
      exact .agg cs vs hl hc (fun i c x k1 k2 => ih c x (h1 c (List.mem_of_getElem? k1)) (h i c x k1 k2))
    | tup cs vs hl h =>
      simp only [AV.flat, List.all_eq_true] at h1
      exact .tup cs vs hl (fun i c x k1 k2 => ih c x (h1 c (List.mem_of_getElem? k1)) (h i c x k1 k2))
    | _ => simp [AV.flat] at h1

section
variable {P : Program} {o : Oper} {ev : Operand → AV} {H : Nat → Option ARow} {N : Nat}

/-- A call whose arguments are had by content; its result holds no reference, or the arguments held none to a row. -/
theorem ok_call2 {x : Operand} {args : Array Operand} {ts : Array TypeId} {f : FuncId} {caps : List AV} {res : AV} (ho : o.op = .call { callee := .value x, args := args, argTypes := ts })
    (hx : ev x = .clo f caps) (h : PureCall P f ((args.toList.map ev ++ caps).map (frz H 3)) res) (hn : (args.toList.map ev ++ caps).all (AV.noRef 2) = true ∨ res.flat 3 = true) :
    OpOk P o ev H N ⟨res, [], (args.toList.map ev ++ caps).flatMap (frzRd 3)⟩ := by
  intro B S0 a w ρ L hw hN hops hrd K Q hK
  have hrx := hops x (by simp [ho, Op.operands, Call.operands])
  rw [hx] at hrx
  obtain ⟨cv, hy, hl, hcap⟩ := clo_cells hrx
  have hlow : ∀ b, Sx S0 ρ b → b < w.heap.size := by
    rintro b (h1 | ⟨r, l, h1, h2⟩)
    · exact hw.low b h1
    · exact (hw.own r l b h1 h2).1
  have hreps : ∀ (i : Nat) c y, (args.toList.map ev ++ caps)[i]? = some c → (args.toList.map a.eval ++ cv)[i]? = some y → RepV w (Sx S0 ρ) ρ L c y := by
    intro i c y h1 h2
    rw [List.getElem?_append] at h1 h2
    simp only [List.length_map] at h1 h2
    split at h1
    · rename_i hi
      rw [if_pos hi] at h2
      simp only [List.getElem?_map, Option.map_eq_some_iff] at h1 h2
      obtain ⟨q, h1, rfl⟩ := h1
      obtain ⟨q', h2, rfl⟩ := h2
      rw [h1] at h2
      simp only [Option.some.injEq] at h2
      subst h2
      refine hops q ?_
      rw [ho]
      simp only [Op.operands, Call.operands, Array.mem_append]
      exact Or.inr (Array.mem_toList_iff.1 (List.mem_of_getElem? h1))
    · rename_i hi
      rw [if_neg hi] at h2
      exact hcap _ c y h1 h2
  have harr : args.map a.eval ++ cv.toArray = (args.toList.map a.eval ++ cv).toArray := by apply Array.ext'; simp
  have fin : ∀ w' v, RepP w' (Sx S0 ρ) res v → Ext (fun _ => False) w w' → K (a.put o.dst v) w' := fun w' v hrep hext =>
    hK v w' ρ { wf := ⟨hw.inj, fun r l b h1 h2 => ⟨Nat.lt_of_lt_of_le (hw.own r l b h1 h2).1 hext.size, (hw.own r l b h1 h2).2⟩, fun r l h1 => Or.inl (hw.given r l h1), fun b h => Nat.lt_of_lt_of_le (hw.low b h) hext.size, fun b h => hw.new b (Nat.le_trans hext.size h)⟩, rep := .pure _ _ hrep, ups := (by intro r o hm; cases hm), others := fun r _ => rfl, only := fun r l hl => Or.inl hl, ext := hext.mono (fun _ _ h => h.elim) }
  obtain ⟨S1, hS1, hrep1, hback⟩ : ∃ S1 : Nat → Prop, (∀ b, S1 b → b < w.heap.size) ∧ (∀ (i : Nat) c x, ((args.toList.map ev ++ caps).map (frz H 3))[i]? = some c → (args.toList.map a.eval ++ cv)[i]? = some x → RepP w S1 c x) ∧
      ∀ w' v, RepP w' S1 res v → RepP w' (Sx S0 ρ) res v := by
    rcases hn with hn | hn
    · refine ⟨Sx S0 ρ, hlow, (by
      intro i c y h1 h2
      simp only [List.getElem?_map, Option.map_eq_some_iff] at h1
      obtain ⟨c', h1, rfl⟩ := h1
      exact frz_plain hlow (List.all_eq_true.1 hn c' (List.mem_of_getElem? h1)) (hreps i c' y h1 h2)), fun w' v h => h⟩
    · refine ⟨S0, hw.low, (by
      intro i c y h1 h2
      simp only [List.getElem?_map, Option.map_eq_some_iff] at h1
      obtain ⟨c', h1, rfl⟩ := h1
      exact frz_rep hw 3 c' y (fun r hr => hrd r (by simp only [List.mem_flatMap]; exact ⟨c', List.mem_of_getElem? h1, hr⟩)) (hreps i c' y h1 h2)), fun w' v h => flat_rep 3 _ _ hn h⟩
  rcases h with ⟨hcf, hcall⟩ | hext
  · have hrun : (execOp a.eval o).run P w = .ok (.enter f (args.map a.eval ++ cv.toArray)) w := by
      simp only [execOp, ho, resolve, hy, Deferred.ofValue, invoke]
      simp [invoke, hcf]
    unfold Oper.wp
    rw [hrun, Oper.upon_enter, harr]
    refine (hcall S1 w (args.toList.map a.eval ++ cv) hS1 (by simp [hl]) hrep1).mono fun e w' he => ?_
    obtain ⟨v, rfl, hrep, hext⟩ := he
    exact fin w' v (hback w' v hrep) hext
  · obtain ⟨v, hv, hrep⟩ := hext S1 w (args.toList.map a.eval ++ cv) (by simp [hl]) hrep1
    have hrun : (execOp a.eval o).run P w = .ok (.value v) w := by
      simp only [execOp, ho, resolve, hy, Deferred.ofValue, invoke]
      rw [← harr] at hv
      simp [invoke, hv]
    unfold Oper.wp
    rw [hrun]
    exact fin w v (hback w v hrep) (Ext.refl _ _)

/-- A function without a body, on values that are known to the last sign. -/
theorem PureCall.of_ext {f : FuncId} {fn : Func} {e : Array Value → Sem Value} {us : List Value} {v : Value} (hf : P.funcs[f]? = some fn) (hname : (fn.name == "runtime.NumGoroutine") = false) (hb : fn.body.isNone = true) (hn : Extern.findNext fn = none) (he : Extern.find fn = some e)
    (hrun : ∀ w : World, (e us.toArray).run P w = .ok v w) : PureCall P f (us.map AV.v) (.v v) := by
  right
  intro S0 w vs hl hr
  have : vs = us := by
    apply List.ext_getElem (by simpa using hl.symm)
    intro i h1 h2
    have := hr i (.v us[i]) vs[i] (by simp [h2]) (by simp [h1])
    exact exact_v (ρ := fun _ => none) (L := fun _ => True) (.pure _ _ this)
  subst this
  exact ⟨v, by rw [run_callFunc_extern hf hname hb hn he, hrun]; rfl, .v v⟩
end
end Go.AM
