/- The abstract machine, part 2: types as it has them; what a pure operation, a new row and a written row owe. No condition. -/
import Derived.Test.YteodgilndjjgdaaAm1
namespace Go.AM
set_option linter.unusedVariables false
set_option linter.unusedSimpArgs false

inductive TD where
  | cell (z : Value)
  | slice (e : TypeId)
  | agg (z : List Value) (fs : List (Nat × Nat × TypeId))
  | arr (z : List Value) (n : Nat) (e : TypeId)
  | bad

def TD.size : TD → Nat
  | .cell _ => 1
  | .slice _ => 1
  | .agg z _ => z.length
  | .arr z _ _ => z.length
  | .bad => 0

def TD.isAgg : TD → Bool
  | .agg _ _ => true
  | .arr _ _ _ => true
  | _ => false

/-- The zero value's cells. -/
def TD.zero : TD → List Value
  | .cell z => [z]
  | .slice _ => [.slice none 0 0]
  | .agg z _ => z
  | .arr z _ _ => z
  | .bad => []

def tdOf (P : Program) (t : TypeId) : TD :=
  match P.info? t with
  | none => .bad
  | some i =>
    match P.underlying t, i.zero with
    | some (.struct fs), some (.agg z) => if z.size = i.size ∧ z.toList.all Value.oneCell' = true ∧ fs.toList.all (fun f => (P.info? f.type).isSome) = true then .agg z.toList (fs.toList.map fun f => (f.offset, P.cellsOf f.type, f.type)) else .bad
    | some (.array n e), some (.agg z) => if z.size = i.size ∧ z.toList.all Value.oneCell' = true then .arr z.toList n e else .bad
    | some (.struct _), _ => .bad
    | some (.array _ _), _ => .bad
    | some (.slice e), some (.slice none 0 0) => if i.size = 1 then .slice e else .bad
    | some (.slice _), _ => .bad
    | some _, some z => if i.size = 1 ∧ z.oneCell' = true then .cell z else .bad
    | _, _ => .bad

section
variable {P : Program} {t : TypeId}

theorem tdOf_agg {z : List Value} {fs : List (Nat × Nat × TypeId)} (h : tdOf P t = .agg z fs) :
    ∃ i fa, P.info? t = some i ∧ P.underlying t = some (.struct fa) ∧ i.zero = some (.agg z.toArray) ∧ i.size = z.length ∧ fs = fa.toList.map (fun f => (f.offset, P.cellsOf f.type, f.type)) ∧ z.all Value.oneCell' = true ∧
      ∀ f ∈ fa.toList, (P.info? f.type).isSome = true := by
  unfold tdOf at h
  split at h
  · cases h
  · rename_i i hi
    split at h
    · rename_i fa z' hu hz
      split at h
      · rename_i hc
        simp only [TD.agg.injEq] at h
        obtain ⟨rfl, rfl⟩ := h
        exact ⟨i, fa, hi, hu, by simpa using hz, by simpa using hc.1.symm, rfl, hc.2.1, fun f hf => List.all_eq_true.1 hc.2.2 f hf⟩
      · cases h
    all_goals first | (cases h; done) | (split at h <;> cases h)

theorem tdOf_arr {z : List Value} {n : Nat} {e : TypeId} (h : tdOf P t = .arr z n e) :
    ∃ i, P.info? t = some i ∧ P.underlying t = some (.array n e) ∧ i.zero = some (.agg z.toArray) ∧ i.size = z.length ∧ z.all Value.oneCell' = true := by
  unfold tdOf at h
  split at h
  · cases h
  · rename_i i hi
    split at h
    · split at h <;> cases h
    · rename_i n' e' z' hu hz
      split at h
      · rename_i hc
        simp only [TD.arr.injEq] at h
        obtain ⟨rfl, rfl, rfl⟩ := h
        exact ⟨i, hi, hu, by simpa using hz, by simpa using hc.1.symm, hc.2⟩
      · cases h
    all_goals first | (cases h; done) | (split at h <;> cases h)

theorem tdOf_slice {e : TypeId} (h : tdOf P t = .slice e) :
    ∃ i, P.info? t = some i ∧ P.underlying t = some (.slice e) ∧ i.zero = some (.slice none 0 0) ∧ i.size = 1 := by
  unfold tdOf at h
  split at h
  · cases h
  · rename_i i hi
    split at h
    · split at h <;> cases h
    · split at h <;> cases h
    · cases h
    · cases h
    · rename_i e' hu hz
      split at h
      · rename_i hc
        simp only [TD.slice.injEq] at h
        subst h
        exact ⟨i, hi, hu, hz, hc⟩
      · cases h
    all_goals first | (cases h; done) | (split at h <;> cases h)

theorem tdOf_cell {z : Value} (h : tdOf P t = .cell z) :
    ∃ i d, P.info? t = some i ∧ P.underlying t = some d ∧ (∀ fs, d ≠ .struct fs) ∧ (∀ n e, d ≠ .array n e) ∧ (∀ e, d ≠ .slice e) ∧ i.zero = some z ∧ i.size = 1 ∧ z.oneCell' = true := by
  unfold tdOf at h
  split at h
  · cases h
  · rename_i i hi
    split at h
    · split at h <;> cases h
    · split at h <;> cases h
    · cases h
    · cases h
    · split at h <;> cases h
    · cases h
    · rename_i d z' k1 k2 k3 k4 k5 k6 hu hz
      split at h
      · rename_i hc
        simp only [TD.cell.injEq] at h
        subst h
        refine ⟨i, d, hi, hu, ?_, ?_, ?_, hz, hc.1, hc.2⟩
        · intro fs hd; subst hd; exact k3 fs rfl
        · intro n e hd; subst hd; exact k4 n e rfl
        · intro e hd; subst hd; exact k6 e rfl
      · cases h
    · cases h

theorem td_size {w : World} (h : tdOf P t ≠ .bad) : ∃ i, P.info? t = some i ∧ i.size = (tdOf P t).size ∧ i.zero.isSome = true := by
  cases hd : tdOf P t with
  | cell z => obtain ⟨i, d, h1, _, _, _, _, h4, h5, _⟩ := tdOf_cell hd; exact ⟨i, h1, h5, by simp [h4]⟩
  | slice e => obtain ⟨i, h1, _, h3, h4⟩ := tdOf_slice hd; exact ⟨i, h1, h4, by simp [h3]⟩
  | agg z fs => obtain ⟨i, fa, h1, _, h3, h4, _⟩ := tdOf_agg hd; exact ⟨i, h1, h4, by simp [h3]⟩
  | arr z n e => obtain ⟨i, h1, _, h3, h4, _⟩ := tdOf_arr hd; exact ⟨i, h1, h4, by simp [h3]⟩
  | bad => exact absurd hd h

theorem run_sizeOf {w : World} (h : tdOf P t ≠ .bad) : (sizeOf t).run P w = .ok (tdOf P t).size w := by
  obtain ⟨i, h1, h2, _⟩ := td_size (w := w) h
  simp [sizeOf, typeInfo, h1, h2]

theorem run_isAgg {w : World} (h : tdOf P t ≠ .bad) : (isAgg t).run P w = .ok (tdOf P t).isAgg w := by
  cases hd : tdOf P t with
  | cell z =>
    obtain ⟨i, d, h1, h2, h3, h4, _⟩ := tdOf_cell hd
    simp only [isAgg, Sem.run_bind, run_underlying h2, Result.andThen_ok]
    cases d <;> first | rfl | exact absurd rfl (h3 _) | exact absurd rfl (h4 _ _)
  | slice e => obtain ⟨i, h1, h2, _⟩ := tdOf_slice hd; simp [isAgg, run_underlying h2, TD.isAgg]
  | agg z fs => obtain ⟨i, fa, h1, h2, _⟩ := tdOf_agg hd; simp [isAgg, run_underlying h2, TD.isAgg]
  | arr z n e => obtain ⟨i, h1, h2, _⟩ := tdOf_arr hd; simp [isAgg, run_underlying h2, TD.isAgg]
  | bad => exact absurd hd h

theorem run_zero {w : World} (h : tdOf P t ≠ .bad) : ∃ z, (zeroValue t).run P w = .ok z w ∧ z.cells.toList = (tdOf P t).zero ∧ (tdOf P t).zero.length = (tdOf P t).size ∧ ∀ x ∈ (tdOf P t).zero, x.oneCell' = true := by
  cases hd : tdOf P t with
  | cell z =>
    obtain ⟨i, d, h1, h2, _, _, _, h4, _, h6⟩ := tdOf_cell hd
    refine ⟨z, by simp [zeroValue, typeInfo, h1, h4], ?_, rfl, by simp [TD.zero, h6]⟩
    cases z <;> first | rfl | simp [Value.oneCell'] at h6
  | slice e => obtain ⟨i, h1, h2, h3, _⟩ := tdOf_slice hd; exact ⟨_, by simp [zeroValue, typeInfo, h1, h3]; rfl, rfl, rfl, by simp [TD.zero, Value.oneCell']⟩
  | agg z fs => obtain ⟨i, fa, h1, h2, h3, h4, h5, h6, _⟩ := tdOf_agg hd; exact ⟨_, by simp [zeroValue, typeInfo, h1, h3]; rfl, by simp [Value.cells, TD.zero], rfl, by simpa [TD.zero] using h6⟩
  | arr z n e => obtain ⟨i, h1, h2, h3, h4, h6⟩ := tdOf_arr hd; exact ⟨_, by simp [zeroValue, typeInfo, h1, h3]; rfl, by simp [Value.cells, TD.zero], rfl, by simpa [TD.zero] using h6⟩
  | bad => exact absurd hd h
end

/-- The cells of a value, where it has the shape of a variable's content. -/
def AV.cells : AV → Option (List AV)
  | .agg cs => some cs
  | .v x => if x.oneCell' = true then some [.v x] else none
  | .row r i n => some [.row r i n]
  | .ptr r i o => some [.ptr r i o]
  | .mp r => some [.mp r]
  | .mpc ag kts kvs => some [.mpc ag kts kvs]
  | .lst s e => some [.lst s e]
  | .full s e => some [.full s e]
  | .iptr c => some [.iptr c]
  | .clo f c => some [.clo f c]
  | _ => none

/-- The cells of a value that is held stand for the cells of what it stands for. -/
theorem cells_rep {w : World} {S : Nat → Prop} {ρ : Nat → Option Loc} {L : Nat → Prop} {x : AV} {y : Value} {cs : List AV} (h : RepV w S ρ L x y) (hc : x.cells = some cs) :
    y.cells.toList.length = cs.length ∧ ∀ (i : Nat) c u, cs[i]? = some c → y.cells.toList[i]? = some u → u.oneCell' = true ∧ RepV w S ρ L c u := by
  have single : ∀ {x : AV} {y : Value}, y.oneCell' = true → RepV w S ρ L x y → y.cells.toList.length = [x].length ∧ ∀ (i : Nat) c u, [x][i]? = some c → y.cells.toList[i]? = some u → u.oneCell' = true ∧ RepV w S ρ L c u := by
    intro x y hy hr
    have e : y.cells.toList = [y] := by cases y <;> first | rfl | simp [Value.oneCell'] at hy
    rw [e]
    refine ⟨rfl, fun i c u h1 h2 => ?_⟩
    cases i with
    | zero => simp at h1 h2; subst h1 h2; exact ⟨hy, hr⟩
    | succ i => simp at h1
  cases h with
  | pure x y h =>
    have hr := RepV.pure (ρ := ρ) (L := L) x y h
    cases h with
    | v x => simp only [AV.cells] at hc; split at hc <;> simp at hc; subst hc; rename_i hx; exact single hx hr
    | any x => cases hc
    | agg cs' vs hl hcl h =>
      simp only [AV.cells, Option.some.injEq] at hc; subst hc
      refine ⟨by simp [Value.cells, hl], fun i c u h1 h2 => ?_⟩
      simp only [Value.cells] at h2
      exact ⟨hcl u (List.mem_of_getElem? h2), .pure _ _ (h i c u h1 h2)⟩
    | tup cs' vs hl h => cases hc
    | lst sz els b off cap vs => simp only [AV.cells, Option.some.injEq] at hc; subst hc; exact single rfl hr
    | lstNil sz a cap => simp only [AV.cells, Option.some.injEq] at hc; subst hc; exact single rfl hr
    | full sz els b off vs => simp only [AV.cells, Option.some.injEq] at hc; subst hc; exact single rfl hr
    | iptr cs b off vs => simp only [AV.cells, Option.some.injEq] at hc; subst hc; exact single rfl hr
    | clo f caps vs => simp only [AV.cells, Option.some.injEq] at hc; subst hc; exact single rfl hr
    | mpc ag kts kvs b => simp only [AV.cells, Option.some.injEq] at hc; subst hc; exact single rfl hr
    | mayT l x y ht h => cases hc
    | mayF l x hf => cases hc
  | row r i n y h1 hy h => simp only [AV.cells, Option.some.injEq] at hc; subst hc; exact single hy (.row r i n y h1 hy h)
  | ptr r i off y h1 hy h => simp only [AV.cells, Option.some.injEq] at hc; subst hc; exact single hy (.ptr r i off y h1 hy h)
  | mp r y h1 hy h => simp only [AV.cells, Option.some.injEq] at hc; subst hc; exact single hy (.mp r y h1 hy h)
  | agg cs' vs hl hcl h =>
    simp only [AV.cells, Option.some.injEq] at hc; subst hc
    refine ⟨by simp [Value.cells, hl], fun i c u h1 h2 => ?_⟩
    simp only [Value.cells] at h2
    exact ⟨hcl u (List.mem_of_getElem? h2), h i c u h1 h2⟩
  | tup cs' vs hl h => cases hc
  | clo f caps vs hl h => simp only [AV.cells, Option.some.injEq] at hc; subst hc; exact single rfl (.clo f caps vs hl h)
  | mayT l x y ht h => cases hc
  | mayF l x hf => cases hc

theorem WF.more {B S0 : Nat → Prop} {w : World} {ρ : Nat → Option Loc} {L L' : Nat → Prop} (h : WF B S0 w ρ L) (hL : ∀ r, L r → L' r) : WF B S0 w ρ L' :=
  ⟨h.inj, h.own, fun r l hl => hL r (h.given r l hl), h.low, h.new⟩

section
variable {P : Program} {o : Oper} {ev : Operand → AV} {H : Nat → Option ARow} {N : Nat}

/-- AN OPERATION THAT LEAVES THE WORLD ALONE. -/
theorem OpOk.of_pure {av : AV} {reads : List Nat}
    (h : ∀ (B S0 : Nat → Prop) (a : Act) (w : World) (ρ : Nat → Option Loc) (L : Nat → Prop), WF B S0 w ρ L →
      (∀ x ∈ o.op.operands, RepV w (Sx S0 ρ) ρ L (ev x) (a.eval x)) →
      (∀ r ∈ reads, ∀ row, H r = some row → ∃ l, ρ r = some l ∧ RowRep w (Sx S0 ρ) ρ L l row) →
      ∃ v, ((execOp a.eval o).run P w = .ok (.value v) w ∨ ((execOp a.eval o).run P w = .ok .skip w ∧ v = undef)) ∧ RepV w (Sx S0 ρ) ρ L av v) :
    OpOk P o ev H N ⟨av, [], reads⟩ := by
  intro B S0 a w ρ L hw hN hops hrd K Q hK
  obtain ⟨v, hrun, hrep⟩ := h B S0 a w ρ L hw hops hrd
  have hp : Post B S0 w ρ L N ⟨av, [], reads⟩ w ρ v :=
    { wf := hw.more fun r => Or.inl
      rep := hrep.ext (Nat.le_refl _) (fun b _ hn => ⟨rfl, hn⟩) (fun r => Or.inl) (fun r l _ hl => hl)
      ups := by intro r o hm; cases hm
      others := fun r _ => rfl
      only := fun r l hl => Or.inl hl
      ext := Ext.refl _ _ }
  unfold Oper.wp
  rcases hrun with hrun | ⟨hrun, rfl⟩ <;> rw [hrun] <;> exact hK _ _ _ hp

/-- The world behind a new block. -/
theorem ext_alloc (M : Nat → Prop) (w : World) (ob : Obj) : Ext M w (w.alloc ob) :=
  ⟨rfl, rfl, rfl, by simp, fun b hb _ => by show (w.heap.push ob)[b]? = _; rw [Array.getElem?_push, if_neg (by omega)]⟩

theorem heap_alloc_new (w : World) (ob : Obj) : (w.alloc ob).heap[w.heap.size]? = some ob := by
  show (w.heap.push ob)[w.heap.size]? = _; simp

/-- The place of a new row. -/
def Loc.fresh (ρ : Nat → Option Loc) (N : Nat) (l : Loc) : Nat → Option Loc := fun r => if r = N then some l else ρ r

/-- The facts on a row that comes to lie in a new block (or in none, being nil), the block being 'w.heap.size' of a world like 'w'. -/
theorem wf_fresh {B S0 : Nat → Prop} {w w' : World} {ρ : Nat → Option Loc} {L : Nat → Prop} (hw : WF B S0 w ρ L) (hN : ¬ L N) (l : Loc) (hsz : w.heap.size ≤ w'.heap.size)
    (hb : ∀ b, l.b = some b → w.heap.size ≤ b ∧ b < w'.heap.size) : WF B S0 w' (Loc.fresh ρ N l) (fun r => L r ∨ r = N) := by
  have hold : ∀ r l' b, ρ r = some l' → l'.b = some b → b < w.heap.size := fun r l' b h1 h2 => (hw.own r l' b h1 h2).1
  refine ⟨?_, ?_, ?_, fun b h => Nat.lt_of_lt_of_le (hw.low b h) hsz, fun b h => hw.new b (Nat.le_trans hsz h)⟩
  · intro r r' l1 l2 b h1 h2 k1 k2
    simp only [Loc.fresh] at h1 h2
    split at h1 <;> split at h2
    · simp_all
    · simp only [Option.some.injEq] at h1; subst h1
      have := hold r' l2 b h2 k2; have := (hb b k1).1; omega
    · simp only [Option.some.injEq] at h2; subst h2
      have := hold r l1 b h1 k1; have := (hb b k2).1; omega
    · exact hw.inj r r' l1 l2 b h1 h2 k1 k2
  · intro r l1 b h1 k1
    simp only [Loc.fresh] at h1
    split at h1
    · simp only [Option.some.injEq] at h1; subst h1
      have := hb b k1
      exact ⟨this.2, fun h => by have := hw.low b h; omega, hw.new b this.1⟩
    · have := hw.own r l1 b h1 k1
      exact ⟨Nat.lt_of_lt_of_le this.1 hsz, this.2⟩
  · intro r l1 h1
    simp only [Loc.fresh] at h1
    split at h1
    · rename_i h; exact Or.inr h
    · exact Or.inl (hw.given r l1 h1)

/-- AN OPERATION THAT LAYS A NEW ROW (named N) in a new block and hands back what leads to it. -/
theorem OpOk.of_new {av : AV} {reads : List Nat} {row : ARow}
    (h : ∀ (B S0 : Nat → Prop) (a : Act) (w : World) (ρ : Nat → Option Loc) (L : Nat → Prop), WF B S0 w ρ L → ¬ L N →
      (∀ x ∈ o.op.operands, RepV w (Sx S0 ρ) ρ L (ev x) (a.eval x)) →
      (∀ r ∈ reads, ∀ row, H r = some row → ∃ l, ρ r = some l ∧ RowRep w (Sx S0 ρ) ρ L l row) →
      ∃ (v : Value) (ob : Obj) (w1 : World) (l : Loc), (execOp a.eval o).run P w = .ok (.value v) (w1.alloc ob) ∧ w1.heap = w.heap ∧ w1.os = w.os ∧ w1.tape = w.tape ∧ w1.output = w.output ∧
        (∀ b, l.b = some b → b = w.heap.size) ∧
        ∀ w' ρ', w' = w1.alloc ob → ρ' = Loc.fresh ρ N l → (∀ x y, RepV w (Sx S0 ρ) ρ L x y → RepV w' (Sx S0 ρ') ρ' (fun r => L r ∨ r = N) x y) →
          RepV w' (Sx S0 ρ') ρ' (fun r => L r ∨ r = N) av v ∧ RowRep w' (Sx S0 ρ') ρ' (fun r => L r ∨ r = N) l row) :
    OpOk P o ev H N ⟨av, [(N, some row)], reads⟩ := by
  intro B S0 a w ρ L hw hN hops hrd K Q hK
  replace hN : ¬ L N := hN ⟨some row, by simp⟩
  obtain ⟨v, ob, w1, l, hrun, hh, ho, ht, hout, hl, hrest⟩ := h B S0 a w ρ L hw hN hops hrd
  have hLL : ∀ r, (L r ∨ r = N) → nL L ⟨av, [(N, some row)], reads⟩ r := by
    rintro r (h1 | rfl)
    · exact Or.inl h1
    · exact Or.inr ⟨some row, by simp⟩
  have hsz : (w1.alloc ob).heap.size = w.heap.size + 1 := by simp [hh]
  have hext : ∀ M, Ext M w (w1.alloc ob) := fun M =>
    ⟨ho, ht, hout, by omega, fun b hb _ => by show (w1.heap.push ob)[b]? = _; rw [hh, Array.getElem?_push, if_neg (by omega)]⟩
  have hwf := wf_fresh hw hN l (w' := w1.alloc ob) (by omega) (fun b hb => by have := hl b hb; omega)
  have hkeep : ∀ x y, RepV w (Sx S0 ρ) ρ L x y → RepV (w1.alloc ob) (Sx S0 (Loc.fresh ρ N l)) (Loc.fresh ρ N l) (fun r => L r ∨ r = N) x y := by
    intro x y k
    refine k.ext (by omega) (fun b hb hn => ⟨(hext (fun _ => False)).block b hb (fun k => k), ?_⟩) (fun r => Or.inl) ?_
    · rintro (h1 | ⟨r, l', h1, h2⟩)
      · exact hn (Or.inl h1)
      · simp only [Loc.fresh] at h1
        split at h1
        · simp only [Option.some.injEq] at h1; subst h1
          have := hl b h2; omega
        · exact hn (Or.inr ⟨r, l', h1, h2⟩)
    · intro r l' hr hl'
      simp only [Loc.fresh] at hl'
      split at hl'
      · rename_i e; subst e; exact absurd hr hN
      · exact hl'
  obtain ⟨hav, hrow⟩ := hrest _ _ rfl rfl hkeep
  unfold Oper.wp
  rw [hrun]
  refine hK _ _ (Loc.fresh ρ N l) { wf := hwf.more hLL, rep := hav.ext (Nat.le_refl _) (fun b _ hn => ⟨rfl, hn⟩) hLL (fun r l _ hl => hl), ups := ?_, others := ?_, only := ?_, ext := hext _ }
  · intro r o' hm
    simp only [List.mem_singleton, Prod.mk.injEq] at hm
    obtain ⟨rfl, rfl⟩ := hm
    exact ⟨l, by simp [Loc.fresh], hrow.ext (Nat.le_refl _) (fun b _ hn => ⟨rfl, hn⟩) hLL (fun r l _ hl => hl) (fun _ _ => rfl)⟩
  · intro r hr
    simp only [Loc.fresh]
    rw [if_neg]
    intro e
    subst e
    exact hr (some row) (by simp)
  · intro r l' h1
    simp only [Loc.fresh] at h1
    split at h1
    · rename_i e
      simp only [Option.some.injEq] at h1; subst h1
      exact Or.inr ⟨e, ⟨some row, by simp⟩, fun b hb => Or.inl (by have := hl b hb; omega)⟩
    · exact Or.inl h1

/-- AN OPERATION THAT LAYS A NEW BLOCK which nothing will write: what it hands back is had by content. -/
theorem OpOk.of_lit {av : AV} {reads : List Nat}
    (h : ∀ (B S0 : Nat → Prop) (a : Act) (w : World) (ρ : Nat → Option Loc) (L : Nat → Prop), WF B S0 w ρ L →
      (∀ x ∈ o.op.operands, RepV w (Sx S0 ρ) ρ L (ev x) (a.eval x)) →
      ∃ (v : Value) (ob : Obj), (execOp a.eval o).run P w = .ok (.value v) (w.alloc ob) ∧
        (¬ Sx S0 ρ w.heap.size → (∀ x y, RepV w (Sx S0 ρ) ρ L x y → RepV (w.alloc ob) (Sx S0 ρ) ρ L x y) → RepV (w.alloc ob) (Sx S0 ρ) ρ L av v)) :
    OpOk P o ev H N ⟨av, [], reads⟩ := by
  intro B S0 a w ρ L hw hN hops hrd K Q hK
  obtain ⟨v, ob, hrun, hrep⟩ := h B S0 a w ρ L hw hops
  have hns : ¬ Sx S0 ρ w.heap.size := by
    rintro (h1 | ⟨r, l, h1, h2⟩)
    · have := hw.low _ h1; omega
    · have := (hw.own r l _ h1 h2).1; omega
  have hsz : w.heap.size ≤ (w.alloc ob).heap.size := by simp
  have hkeep : ∀ x y, RepV w (Sx S0 ρ) ρ L x y → RepV (w.alloc ob) (Sx S0 ρ) ρ L x y := fun x y k =>
    k.ext hsz (fun b hb hn => ⟨(ext_alloc (fun _ => False) w ob).block b hb (fun k => k), hn⟩) (fun r h => h) (fun r l _ hl => hl)
  have hp : Post B S0 w ρ L N ⟨av, [], reads⟩ (w.alloc ob) ρ v :=
    { wf := ⟨hw.inj, fun r l b h1 h2 => ⟨Nat.lt_of_lt_of_le (hw.own r l b h1 h2).1 hsz, (hw.own r l b h1 h2).2⟩, fun r l h1 => Or.inl (hw.given r l h1), fun b h => Nat.lt_of_lt_of_le (hw.low b h) hsz, fun b h => hw.new b (Nat.le_trans hsz h)⟩
      rep := (hrep hns hkeep).ext (Nat.le_refl _) (fun b _ hn => ⟨rfl, hn⟩) (fun r => Or.inl) (fun r l _ hl => hl)
      ups := by intro r o hm; cases hm
      others := fun r _ => rfl
      only := fun r l hl => Or.inl hl
      ext := ext_alloc _ w ob }
  unfold Oper.wp
  rw [hrun]
  exact hK _ _ _ hp

/-- AN OPERATION THAT WRITES A ROW IN PLACE. -/
theorem OpOk.of_upd {r : Nat} {row : ARow} {reads : List Nat}
    (h : ∀ (B S0 : Nat → Prop) (a : Act) (w : World) (ρ : Nat → Option Loc) (L : Nat → Prop), WF B S0 w ρ L →
      (∀ x ∈ o.op.operands, RepV w (Sx S0 ρ) ρ L (ev x) (a.eval x)) →
      (∀ r ∈ reads, ∀ row, H r = some row → ∃ l, ρ r = some l ∧ RowRep w (Sx S0 ρ) ρ L l row) →
      ∃ (l : Loc) (b : Nat) (cs : Array Value), ρ r = some l ∧ l.b = some b ∧ (execOp a.eval o).run P w = .ok .skip (w.setRow b cs) ∧
        ((∀ x y, RepV w (Sx S0 ρ) ρ L x y → RepV (w.setRow b cs) (Sx S0 ρ) ρ L x y) → RowRep (w.setRow b cs) (Sx S0 ρ) ρ L l row)) :
    OpOk P o ev H N ⟨.any, [(r, some row)], reads⟩ := by
  intro B S0 a w ρ L hw hN hops hrd K Q hK
  obtain ⟨l, b, cs, hl, hb, hrun, hrow⟩ := h B S0 a w ρ L hw hops hrd
  have hsize : (w.setRow b cs).heap.size = w.heap.size := by simp [World.setRow]
  have hother : ∀ k, k ≠ b → (w.setRow b cs).heap[k]? = w.heap[k]? := by
    intro k hk
    simp only [World.setRow, Array.getElem?_modify]
    rw [if_neg (by omega)]
  have hkeep : ∀ x y, RepV w (Sx S0 ρ) ρ L x y → RepV (w.setRow b cs) (Sx S0 ρ) ρ L x y := fun x y k =>
    k.ext (by omega) (fun b' hb' hn => ⟨hother b' (by rintro rfl; exact hn (Or.inr ⟨r, l, hl, hb⟩)), hn⟩) (fun r h => h) (fun r l _ hl => hl)
  have hp : Post B S0 w ρ L N ⟨.any, [(r, some row)], reads⟩ (w.setRow b cs) ρ undef :=
    { wf := ⟨hw.inj, fun r l b h1 h2 => by rw [hsize]; exact hw.own r l b h1 h2, fun r l h1 => Or.inl (hw.given r l h1), fun b h => by rw [hsize]; exact hw.low b h, fun b h => hw.new b (by rw [hsize] at h; exact h)⟩
      rep := .pure _ _ (.any _)
      ups := by
        intro r' o' hm
        simp only [List.mem_singleton, Prod.mk.injEq] at hm
        obtain ⟨rfl, rfl⟩ := hm
        exact ⟨l, hl, (hrow hkeep).ext (Nat.le_refl _) (fun b _ hn => ⟨rfl, hn⟩) (fun r => Or.inl) (fun r l _ hl => hl) (fun _ _ => rfl)⟩
      others := fun r _ => rfl
      only := fun r l hl => Or.inl hl
      ext := ⟨rfl, rfl, rfl, by omega, fun k hk hm => hother k (by rintro rfl; exact hm ⟨r, l, some row, by simp, hl, hb⟩)⟩ }
  unfold Oper.wp
  rw [hrun]
  exact hK _ _ _ hp
end
end Go.AM
