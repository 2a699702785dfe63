/- The abstract machine, part 3: each operation is sound for what it does. No condition. -/
import Derived.Test.YteodgilndjjgdaaAm2
namespace Go.AM
set_option linter.unusedVariables false
set_option linter.unusedSimpArgs false

/-- A load's value out of a variable's cells. -/
def mk (td : TD) (cs : List AV) : AV := if td.isAgg then .agg cs else cs.headD .any

section
variable {P : Program} {o : Oper} {ev : Operand → AV} {H : Nat → Option ARow} {N : Nat}

theorem ok_move {x : Operand} (ho : o.op = .move x ∨ o.op = .assign x) : OpOk P o ev H N ⟨ev x, [], []⟩ := by
  refine OpOk.of_pure fun B S0 a w ρ L hw hops _ => ⟨a.eval x, Or.inl ?_, ?_⟩
  · rcases ho with ho | ho <;> simp [execOp, ho]
  · exact hops x (by rcases ho with ho | ho <;> simp [ho, Op.operands])

theorem ok_alloc {t : TypeId} (ho : o.op = .alloc t) (ht : tdOf P t ≠ .bad) :
    OpOk P o ev H N ⟨.ptr N 0 0, [(N, some (.els (tdOf P t).size [(tdOf P t).zero.map .v]))], []⟩ := by
  refine OpOk.of_new fun B S0 a w ρ L hw hN hops _ => ?_
  obtain ⟨z, hz, hzc, hzl, hz1⟩ := run_zero (P := P) (t := t) (w := w) ht
  refine ⟨.pointer (some ⟨w.heap.size, 0, none⟩), .cells z.cells t, w, ⟨some w.heap.size, 0, (tdOf P t).size, z.cells.size⟩, ?_, rfl, rfl, rfl, rfl, ?_, ?_⟩
  · simp [execOp, ho, Instr.alloc, hz, newVar, newRow]
  · intro b hb; simpa using hb.symm
  · intro w' ρ' hw' hρ' _
    have hsz : z.cells.size = (tdOf P t).size := by rw [← Array.length_toList, hzc, hzl]
    refine ⟨.ptr _ _ _ _ (Or.inr rfl) rfl ?_, ?_⟩
    · intro l hl
      subst hρ'
      simp only [Loc.fresh, if_true, Option.some.injEq] at hl
      subst hl
      exact ⟨_, rfl, by simp⟩
    · refine ⟨rfl, by simp [hzl], by simp, fun b hb => ?_⟩
      simp only [Option.some.injEq] at hb
      subst hb
      refine ⟨z.cells, t, by rw [hw']; exact heap_alloc_new w _, rfl, by simp [hsz], fun i c hi => ?_⟩
      simp only [List.flatten_cons, List.flatten_nil, List.append_nil, List.getElem?_map, Option.map_eq_some_iff] at hi
      obtain ⟨u, hu, rfl⟩ := hi
      refine ⟨u, ?_, hz1 u (List.mem_of_getElem? hu), .pure _ _ (.v u)⟩
      rw [← hzc] at hu
      simp only [Nat.zero_add]
      rw [← hu, Array.getElem?_toList]

theorem ok_box {t : TypeId} {x : Operand} {cs : List AV} (ho : o.op = .box t x) (hx : (ev x).cells = some cs) :
    OpOk P o ev H N ⟨.ptr N 0 0, [(N, some (.els cs.length [cs]))], []⟩ := by
  refine OpOk.of_new fun B S0 a w ρ L hw hN hops _ => ?_
  have hr := hops x (by simp [ho, Op.operands])
  obtain ⟨hlen, hcell⟩ := cells_rep hr hx
  refine ⟨.pointer (some ⟨w.heap.size, 0, none⟩), .cells (a.eval x).cells t, w, ⟨some w.heap.size, 0, cs.length, (a.eval x).cells.size⟩, ?_, rfl, rfl, rfl, rfl, ?_, ?_⟩
  · simp [execOp, ho, Instr.box, newVar, newRow]
  · intro b hb; simpa using hb.symm
  · intro w' ρ' hw' hρ' hkeep
    refine ⟨.ptr _ _ _ _ (Or.inr rfl) rfl ?_, ?_⟩
    · intro l hl
      subst hρ'
      simp only [Loc.fresh, if_true, Option.some.injEq] at hl
      subst hl
      exact ⟨_, rfl, by simp⟩
    · refine ⟨rfl, by simp, by simp, fun b hb => ?_⟩
      simp only [Option.some.injEq] at hb
      subst hb
      refine ⟨(a.eval x).cells, t, by rw [hw']; exact heap_alloc_new w _, rfl, by simp at hlen; simp [hlen], fun i c hi => ?_⟩
      simp only [List.flatten_cons, List.flatten_nil, List.append_nil] at hi
      have hlt : i < (a.eval x).cells.toList.length := by rw [hlen]; exact (List.getElem?_eq_some_iff.1 hi).1
      obtain ⟨h1, h2⟩ := hcell i c _ hi (List.getElem?_eq_getElem hlt)
      exact ⟨_, by rw [Nat.zero_add, ← Array.getElem?_toList]; exact List.getElem?_eq_getElem hlt, h1, hkeep _ _ h2⟩

/-- Cells read at an address: what a load yields. -/
theorem run_loadVar_cells {t : TypeId} {w : World} {b off : Nat} {vs : List Value} (ht : tdOf P t ≠ .bad) (hl : vs.length = (tdOf P t).size)
    (hv : ∀ (i : Nat) x, vs[i]? = some x → w.cell? ⟨b, off + i, none⟩ = some x) :
    (loadVar t ⟨b, off, none⟩).run P w = .ok (if (tdOf P t).isAgg then .agg vs.toArray else vs.headD undef) w := by
  unfold loadVar
  simp only [Sem.run_bind, run_isAgg ht, Result.andThen_ok]
  split
  · rename_i hagg
    simp only [Sem.run_bind, run_sizeOf ht, Result.andThen_ok]
    have := run_loadCells_list (P := P) w ⟨b, off, none⟩ vs (by intro j v hj; rw [Addr.add_lit]; exact hv j v hj)
    rw [hl] at this
    simp [this]
  · rename_i hagg
    have h1 : (tdOf P t).size = 1 := by
      cases hd : tdOf P t with
      | cell z => rfl
      | slice e => rfl
      | agg z fs => simp [hd, TD.isAgg] at hagg
      | arr z n e => simp [hd, TD.isAgg] at hagg
      | bad => exact absurd hd ht
    rw [h1] at hl
    match vs, hl with
    | [x], _ =>
      have := hv 0 x (by simp)
      simp only [Nat.add_zero] at this
      simp [run_load, this]

theorem mk_rep {w : World} {S : Nat → Prop} {ρ : Nat → Option Loc} {L : Nat → Prop} {td : TD} {cs : List AV} {vs : List Value} (ht : td ≠ .bad) (hl : vs.length = td.size) (hlc : cs.length = vs.length)
    (h : ∀ (i : Nat) c x, cs[i]? = some c → vs[i]? = some x → x.oneCell' = true ∧ RepV w S ρ L c x) :
    RepV w S ρ L (mk td cs) (if td.isAgg then .agg vs.toArray else vs.headD undef) := by
  unfold mk
  split
  · refine .agg cs vs hlc ?_ (fun i c x h1 h2 => (h i c x h1 h2).2)
    intro x hx
    obtain ⟨i, hi, rfl⟩ := List.getElem_of_mem hx
    have hi' : i < cs.length := by omega
    exact (h i _ _ (List.getElem?_eq_getElem hi') (List.getElem?_eq_getElem hi)).1
  · rename_i hagg
    have h1 : td.size = 1 := by
      cases td <;> first | rfl | exact absurd rfl ht | simp [TD.isAgg] at hagg
    rw [h1] at hl
    match vs, hl, cs, hlc with
    | [x], _, [c], _ => exact (h 0 c x rfl rfl).2

theorem flatten_get {α : Type} {es : List (List α)} {sz : Nat} (hsz : ∀ e ∈ es, e.length = sz) {i : Nat} {e : List α} (he : es[i]? = some e) (j : Nat) (hj : j < sz) :
    es.flatten[i * sz + j]? = e[j]? := by
  induction es generalizing i with
  | nil => simp at he
  | cons x xs ih =>
    have hx : x.length = sz := hsz x (by simp)
    cases i with
    | zero =>
      simp only [List.getElem?_cons_zero, Option.some.injEq] at he
      subst he
      simp only [Nat.zero_mul, Nat.zero_add, List.flatten_cons]
      rw [List.getElem?_append_left (by omega)]
    | succ i =>
      simp only [List.getElem?_cons_succ] at he
      rw [List.flatten_cons, List.getElem?_append_right (by rw [hx, Nat.succ_mul]; omega), ← ih (fun e h => hsz e (by simp [h])) he, hx]
      congr 1
      rw [Nat.succ_mul]; omega

theorem length_flatten {α : Type} {es : List (List α)} {sz : Nat} (hsz : ∀ e ∈ es, e.length = sz) : es.flatten.length = es.length * sz := by
  induction es with
  | nil => simp
  | cons x xs ih => simp [hsz x (by simp), ih (fun e h => hsz e (by simp [h])), Nat.succ_mul, Nat.add_comm]

/-- The cells of a row's element, in the world. -/
theorem row_cells {w : World} {S : Nat → Prop} {ρ : Nat → Option Loc} {L : Nat → Prop} {l : Loc} {sz : Nat} {es : List (List AV)} (h : RowRep w S ρ L l (.els sz es)) {i : Nat} {e : List AV} (he : es[i]? = some e)
    {b : Nat} (hb : l.b = some b) : ∃ (c : Array Value) (t : TypeId), w.heap[b]? = some (.cells c t (0, 0)) ∧ l.o + (i + 1) * sz ≤ c.size ∧ e.length = sz ∧
      ∀ (j : Nat) a, e[j]? = some a → ∃ x, c[l.o + i * sz + j]? = some x ∧ w.cell? ⟨b, l.o + i * sz + j, none⟩ = some x ∧ x.oneCell' = true ∧ RepV w S ρ L a x := by
  obtain ⟨h1, h2, h3, h4⟩ := h
  obtain ⟨c, t, k1, k2, k3, k4⟩ := h4 b hb
  have hi : i < es.length := (List.getElem?_eq_some_iff.1 he).1
  have hel : e.length = sz := h2 e (List.mem_of_getElem? he)
  have hle : (i + 1) * sz ≤ es.length * sz := Nat.mul_le_mul_right _ hi
  refine ⟨c, t, k1, by omega, hel, fun j a hj => ?_⟩
  have hjl : j < sz := by rw [← hel]; exact (List.getElem?_eq_some_iff.1 hj).1
  obtain ⟨x, q1, q2, q3⟩ := k4 (i * sz + j) a (by rw [flatten_get h2 he j hjl]; exact hj)
  refine ⟨x, by rw [Nat.add_assoc]; exact q1, ?_, q2, q3⟩
  simp [World.cell?, k1, Nat.add_assoc, q1]

theorem row_live {w : World} {S : Nat → Prop} {ρ : Nat → Option Loc} {L : Nat → Prop} {l : Loc} {sz : Nat} {es : List (List AV)} (h : RowRep w S ρ L l (.els sz es)) {i : Nat} {e : List AV} (he : es[i]? = some e) :
    ∃ b, l.b = some b := by
  cases hb : l.b with
  | some b => exact ⟨b, rfl⟩
  | none => have := h.2.2.1 hb; subst this; simp at he

theorem load_row_run {w : World} {S : Nat → Prop} {ρ : Nat → Option Loc} {L : Nat → Prop} {t : TypeId} {y : Value} {r i off sz : Nat} {es : List (List AV)} {e : List AV} {l : Loc} (ht : tdOf P t ≠ .bad) (hr : RepV w S ρ L (.ptr r i off) y)
    (hl : ρ r = some l) (hrow : RowRep w S ρ L l (.els sz es)) (he : es[i]? = some e) (hin : off + (tdOf P t).size ≤ e.length) :
    ∃ ad v, y = .pointer (some ad) ∧ (loadVar t ad).run P w = .ok v w ∧ RepV w S ρ L (mk (tdOf P t) ((e.drop off).take (tdOf P t).size)) v := by
  obtain ⟨b, hb⟩ := row_live hrow he
  obtain ⟨c, t', k1, k2, k3, k4⟩ := row_cells hrow he hb
  have hy : y = .pointer (some ⟨b, l.o + i * sz + off, none⟩) := by
    cases hr with
    | pure _ _ h => cases h
    | ptr _ _ _ y h1 h2 h3 =>
      obtain ⟨b', hb', hy⟩ := h3 l hl
      rw [hb] at hb'
      simp only [Option.some.injEq] at hb'
      subst hb'
      rw [hy, hrow.1]
  let n := (tdOf P t).size
  let vs : List Value := ((c.toList.drop (l.o + i * sz + off)).take n)
  have hsz : (i + 1) * sz = i * sz + sz := by rw [Nat.succ_mul]
  have hvl : vs.length = n := by
    simp only [vs, List.length_take, List.length_drop, Array.length_toList]
    rw [Nat.min_eq_left]
    omega
  have hvs : ∀ (j : Nat) (x : Value), vs[j]? = some x → c[l.o + i * sz + off + j]? = some x ∧ j < n := by
    intro j x hj
    have hjn : j < n := by rw [← hvl]; exact (List.getElem?_eq_some_iff.1 hj).1
    simp only [vs, List.getElem?_take, hjn, if_true, List.getElem?_drop] at hj
    exact ⟨by simpa using hj, hjn⟩
  refine ⟨_, _, hy, ?_, mk_rep (vs := vs) ht hvl ?_ ?_⟩
  · exact run_loadVar_cells (P := P) (w := w) (b := b) (off := l.o + i * sz + off) (vs := vs) ht hvl (fun j x hj => by
      have := (hvs j x hj).1
      simp [World.cell?, k1, this])
  · rw [hvl]; simp only [List.length_take, List.length_drop]; rw [Nat.min_eq_left]; omega
  · intro j c' x' h1 h2
    obtain ⟨q1, q2⟩ := hvs j x' h2
    rw [List.getElem?_take, if_pos q2, List.getElem?_drop] at h1
    obtain ⟨x'', p1, p2, p3, p4⟩ := k4 (off + j) c' h1
    rw [show l.o + i * sz + (off + j) = l.o + i * sz + off + j by omega] at p1
    rw [q1] at p1
    simp only [Option.some.injEq] at p1
    subst p1
    exact ⟨p3, p4⟩

theorem ok_load_row {t : TypeId} {x : Operand} {r i off sz : Nat} {es : List (List AV)} {e : List AV} (ho : o.op = .load t x) (ht : tdOf P t ≠ .bad) (hx : ev x = .ptr r i off)
    (hH : H r = some (.els sz es)) (he : es[i]? = some e) (hin : off + (tdOf P t).size ≤ e.length) :
    OpOk P o ev H N ⟨mk (tdOf P t) ((e.drop off).take (tdOf P t).size), [], [r]⟩ := by
  refine OpOk.of_pure fun B S0 a w ρ L hw hops hrd => ?_
  have hr := hops x (by simp [ho, Op.operands])
  obtain ⟨l, hl, hrow⟩ := hrd r (by simp) _ hH
  rw [hx] at hr
  obtain ⟨ad, v, hy, hrun, hrep⟩ := load_row_run (P := P) ht hr hl hrow he hin
  refine ⟨v, Or.inl ?_, hrep⟩
  simp [execOp, ho, Instr.loadAt, hy, Instr.sureAddr, hrun]

theorem iptr_cells {w : World} {S : Nat → Prop} {ρ : Nat → Option Loc} {L : Nat → Prop} {cs : List AV} {y : Value} (h : RepV w S ρ L (.iptr cs) y) :
    ∃ (b off : Nat) (vs : List Value), y = .pointer (some ⟨b, off, none⟩) ∧ ¬ S b ∧ b < w.heap.size ∧ cs.length = vs.length ∧
      (∀ (i : Nat) x, vs[i]? = some x → w.cell? ⟨b, off + i, none⟩ = some x ∧ x.oneCell' = true) ∧ ∀ (i : Nat) c x, cs[i]? = some c → vs[i]? = some x → RepP w S c x := by
  cases h with
  | pure _ _ h => cases h with
    | iptr _ b off vs hS hb hl hv h => exact ⟨b, off, vs, rfl, hS, hb, hl, hv, h⟩

theorem load_iptr_run {w : World} {S : Nat → Prop} {ρ : Nat → Option Loc} {L : Nat → Prop} {t : TypeId} {y : Value} {cs : List AV} (ht : tdOf P t ≠ .bad) (hr : RepV w S ρ L (.iptr cs) y) (hin : (tdOf P t).size ≤ cs.length) :
    ∃ ad v, y = .pointer (some ad) ∧ (loadVar t ad).run P w = .ok v w ∧ RepV w S ρ L (mk (tdOf P t) (cs.take (tdOf P t).size)) v := by
  obtain ⟨b, off, vs, hy, hS, hb, hl, hv, h⟩ := iptr_cells hr
  have hvl : (vs.take (tdOf P t).size).length = (tdOf P t).size := by rw [List.length_take, Nat.min_eq_left]; omega
  refine ⟨_, _, hy, ?_, mk_rep (vs := vs.take (tdOf P t).size) ht hvl ?_ ?_⟩
  · exact run_loadVar_cells (P := P) (w := w) (b := b) (off := off) (vs := vs.take (tdOf P t).size) ht hvl (fun j x hj => by
      rw [List.getElem?_take] at hj
      split at hj
      · exact (hv j x hj).1
      · cases hj)
  · rw [hvl, List.length_take, Nat.min_eq_left]; exact hin
  · intro j c x h1 h2
    rw [List.getElem?_take] at h1 h2
    split at h1
    · rename_i hj
      rw [if_pos hj] at h2
      exact ⟨(hv j x h2).2, .pure _ _ (h j c x h1 h2)⟩
    · cases h1

theorem ok_load_iptr {t : TypeId} {x : Operand} {cs : List AV} (ho : o.op = .load t x) (ht : tdOf P t ≠ .bad) (hx : ev x = .iptr cs)
    (hin : (tdOf P t).size ≤ cs.length) : OpOk P o ev H N ⟨mk (tdOf P t) (cs.take (tdOf P t).size), [], []⟩ := by
  refine OpOk.of_pure fun B S0 a w ρ L hw hops hrd => ?_
  have hr := hops x (by simp [ho, Op.operands])
  rw [hx] at hr
  obtain ⟨ad, v, hy, hrun, hrep⟩ := load_iptr_run (P := P) ht hr hin
  refine ⟨v, Or.inl ?_, hrep⟩
  simp [execOp, ho, Instr.loadAt, hy, Instr.sureAddr, hrun]

theorem ok_nilCheck_row {x : Operand} {r i off sz : Nat} {es : List (List AV)} {e : List AV} (ho : o.op = .nilCheck x) (hx : ev x = .ptr r i off) (hH : H r = some (.els sz es)) :
    OpOk P o ev H N ⟨.ptr r i off, [], [r]⟩ := by
  refine OpOk.of_pure fun B S0 a w ρ L hw hops hrd => ?_
  have hr := hops x (by simp [ho, Op.operands])
  obtain ⟨l, hl, hrow⟩ := hrd r (by simp) _ hH
  rw [hx] at hr
  refine ⟨a.eval x, Or.inl ?_, hr⟩
  cases hr with
  | pure _ _ h => cases h
  | ptr _ _ _ y h1 h2 h3 =>
    obtain ⟨b, hb, hy⟩ := h3 l hl
    simp only [execOp, ho, hy]
    rfl

theorem ok_nilCheck_iptr {x : Operand} {cs : List AV} (ho : o.op = .nilCheck x) (hx : ev x = .iptr cs) : OpOk P o ev H N ⟨.iptr cs, [], []⟩ := by
  refine OpOk.of_pure fun B S0 a w ρ L hw hops hrd => ?_
  have hr := hops x (by simp [ho, Op.operands])
  rw [hx] at hr
  refine ⟨a.eval x, Or.inl ?_, hr⟩
  obtain ⟨b, off, vs, hy, _⟩ := iptr_cells hr
  simp only [execOp, ho, hy]
  rfl

theorem exact_v {w : World} {S : Nat → Prop} {ρ : Nat → Option Loc} {L : Nat → Prop} {x y : Value} (h : RepV w S ρ L (.v x) y) : y = x := by
  cases h with
  | pure _ _ h => cases h; rfl

/-- An operation whose operands are exact values, by its run. -/
theorem ok_exact {y : Value} (h : ∀ a : Act, (∀ x ∈ o.op.operands, ∀ z, ev x = .v z → a.eval x = z) → ∀ w : World, (execOp a.eval o).run P w = .ok (.value y) w) : OpOk P o ev H N ⟨.v y, [], []⟩ := by
  refine OpOk.of_pure fun B S0 a w ρ L hw hops hrd => ⟨y, Or.inl (h a ?_ w), .pure _ _ (.v y)⟩
  intro x hx z hz
  have := hops x hx
  rw [hz] at this
  exact exact_v this

theorem ok_binInt {op : BinOp} {t ty : TypeId} {x y : Operand} {k : IntKind} {m n : Int} {z : Value} (ho : o.op = .binOp op t x y ty) (hx : ev x = .v (.int k m)) (hy : ev y = .v (.int k n))
    (hz : ∀ w : World, (binOp op t (.int k m) (.int k n)).run P w = .ok z w) : OpOk P o ev H N ⟨.v z, [], []⟩ := by
  refine ok_exact fun a ha w => ?_
  have h1 := ha x (by simp [ho, Op.operands]) _ hx
  have h2 := ha y (by simp [ho, Op.operands]) _ hy
  simp only [execOp, ho, h1, h2]
  simp only [Sem.run_bind, eqGuard]
  cases op <;> simp [hz]

end
end Go.AM
