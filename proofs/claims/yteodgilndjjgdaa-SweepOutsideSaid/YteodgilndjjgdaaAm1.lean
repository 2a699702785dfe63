/- The abstract machine, part 1: abstract values, what they stand for in a world, and that this outlives whatever leaves the blocks in question alone. No condition. -/
import Derived.WalkKit
import Derived.Orders
namespace Go.AM
set_option linter.unusedVariables false

/-- Cells of a map's key. -/
inductive KC where
  | i (k : IntKind) (n : Int)
  | b (x : Bool)
  deriving DecidableEq

inductive KT where
  | i (k : IntKind)
  | b
  deriving DecidableEq

def KC.val : KC → Value
  | .i k n => .int k n
  | .b x => .bool x

def KC.fits : KC → KT → Bool
  | .i k _, .i k' => decide (k = k')
  | .b _, .b => true
  | _, _ => false

def kcFit : List KT → List KC → Bool
  | [], [] => true
  | t :: ts, c :: cs => c.fits t && kcFit ts cs
  | _, _ => false

/-- A key as a value. -/
def keyVal (ag : Bool) (ks : List KC) : Value := if ag then .agg (ks.map KC.val).toArray else (ks.headD (.b false)).val

/-- A map as it lies in a block. -/
def MapRep (w : World) (b : Nat) (ag : Bool) (kts : List KT) (kvs : List (List KC × Value)) : Prop :=
  ∃ es clock, w.heap[b]? = some (.map es clock) ∧ es.toList.map (fun e => (e.key, e.val)) = kvs.map (fun p => (keyVal ag p.1, p.2)) ∧ ∀ p ∈ kvs, kcFit kts p.1 = true

theorem MapRep.same {w w' : World} {b : Nat} {ag : Bool} {kts : List KT} {kvs : List (List KC × Value)} (h : MapRep w b ag kts kvs) (hb : w'.heap[b]? = w.heap[b]?) : MapRep w' b ag kts kvs := by
  obtain ⟨es, clock, h1, h2⟩ := h
  exact ⟨es, clock, hb.trans h1, h2⟩

/-- Values as the abstract machine has them. -/
inductive AV where
  | v (x : Value)
  | agg (cs : List AV)
  | tup (cs : List AV)
  | lst (sz : Nat) (els : List (List AV))
  | full (sz : Nat) (els : List (List AV))
  | iptr (cs : List AV)
  | row (r i n : Nat)
  | ptr (r i off : Nat)
  | clo (f : FuncId) (caps : List AV)
  | mp (r : Nat)
  | mpc (ag : Bool) (kts : List KT) (kvs : List (List KC × Value))
  | may (l : List Bool) (x : AV)
  | any

instance : Inhabited AV := ⟨.any⟩

inductive ARow where
  | els (sz : Nat) (es : List (List AV))
  | map (ag : Bool) (kts : List KT) (kvs : List (List KC × Value))

def isCell : Value → Bool
  | .agg _ => false
  | .tuple _ => false
  | _ => true

/-- What a value without a reference to a row of the call's own stands for: 'S' are the blocks that it may not lie in. -/
inductive RepP (w : World) (S : Nat → Prop) : AV → Value → Prop where
  | v (x : Value) : RepP w S (.v x) x
  | any (x : Value) : RepP w S .any x
  | agg (cs : List AV) (vs : List Value) (hl : cs.length = vs.length) (hc : ∀ x ∈ vs, isCell x = true)
      (h : ∀ (i : Nat) c x, cs[i]? = some c → vs[i]? = some x → RepP w S c x) : RepP w S (.agg cs) (.agg vs.toArray)
  | tup (cs : List AV) (vs : List Value) (hl : cs.length = vs.length)
      (h : ∀ (i : Nat) c x, cs[i]? = some c → vs[i]? = some x → RepP w S c x) : RepP w S (.tup cs) (.tuple vs.toArray)
  | lst (sz : Nat) (els : List (List AV)) (b off cap : Nat) (vs : List Value) (hS : ¬ S b) (hb : b < w.heap.size) (hcap : els.length ≤ cap)
      (hel : ∀ e ∈ els, e.length = sz) (hl : els.flatten.length = vs.length)
      (hv : ∀ (i : Nat) x, vs[i]? = some x → w.cell? ⟨b, off + i, none⟩ = some x ∧ isCell x = true)
      (h : ∀ (i : Nat) c x, els.flatten[i]? = some c → vs[i]? = some x → RepP w S c x) : RepP w S (.lst sz els) (.slice (some ⟨b, off, none⟩) els.length cap)
  | lstNil (sz : Nat) (a : Option Addr) (cap : Nat) : RepP w S (.lst sz []) (.slice a 0 cap)
  | full (sz : Nat) (els : List (List AV)) (b off : Nat) (vs : List Value) (hS : ¬ S b) (hb : b < w.heap.size)
      (hel : ∀ e ∈ els, e.length = sz) (hl : els.flatten.length = vs.length)
      (hv : ∀ (i : Nat) x, vs[i]? = some x → w.cell? ⟨b, off + i, none⟩ = some x ∧ isCell x = true)
      (h : ∀ (i : Nat) c x, els.flatten[i]? = some c → vs[i]? = some x → RepP w S c x) : RepP w S (.full sz els) (.slice (some ⟨b, off, none⟩) els.length els.length)
  | iptr (cs : List AV) (b off : Nat) (vs : List Value) (hS : ¬ S b) (hb : b < w.heap.size) (hl : cs.length = vs.length)
      (hv : ∀ (i : Nat) x, vs[i]? = some x → w.cell? ⟨b, off + i, none⟩ = some x ∧ isCell x = true)
      (h : ∀ (i : Nat) c x, cs[i]? = some c → vs[i]? = some x → RepP w S c x) : RepP w S (.iptr cs) (.pointer (some ⟨b, off, none⟩))
  | clo (f : FuncId) (caps : List AV) (vs : List Value) (hl : caps.length = vs.length)
      (h : ∀ (i : Nat) c x, caps[i]? = some c → vs[i]? = some x → RepP w S c x) : RepP w S (.clo f caps) (.func (.func f) #[] vs.toArray)
  | mpc (ag : Bool) (kts : List KT) (kvs : List (List KC × Value)) (b : Nat) (hS : ¬ S b) (hb : b < w.heap.size) (h : MapRep w b ag kts kvs) : RepP w S (.mpc ag kts kvs) (.map (some b))
  | mayT (l : List Bool) (x : AV) (y : Value) (ht : l.all id = true) (h : RepP w S x y) : RepP w S (.may l x) y
  | mayF (l : List Bool) (x : AV) (hf : l.all id = false) : RepP w S (.may l x) undef

/-- Where a row of the call's own lies: its block (none: the nil slice, which has none), its first cell, an element's cells, the block's cells. -/
structure Loc where
  b : Option Nat
  o : Nat
  sz : Nat
  m : Nat

/-- What any abstract value stands for, given where the rows lie ('ρ'); 'L': the names of rows that have been given. -/
inductive RepV (w : World) (S : Nat → Prop) (ρ : Nat → Option Loc) (L : Nat → Prop) : AV → Value → Prop where
  | pure (x : AV) (y : Value) (h : RepP w S x y) : RepV w S ρ L x y
  | row (r i n : Nat) (y : Value) (hL : L r) (hy : isCell y = true)
      (h : ∀ l, ρ r = some l → (l.b = none → y = .slice none 0 0 ∧ n = 0 ∧ i = 0) ∧
        (∀ b, l.b = some b → ∃ off cap, y = .slice (some ⟨b, off, none⟩) n cap ∧ n ≤ cap ∧ (cap = 0 ∨ off = l.o + i * l.sz ∧ l.o + (i + cap) * l.sz ≤ l.m))) : RepV w S ρ L (.row r i n) y
  | ptr (r i off : Nat) (y : Value) (hL : L r) (hy : isCell y = true)
      (h : ∀ l, ρ r = some l → ∃ b, l.b = some b ∧ y = .pointer (some ⟨b, l.o + i * l.sz + off, none⟩)) : RepV w S ρ L (.ptr r i off) y
  | mp (r : Nat) (y : Value) (hL : L r) (hy : isCell y = true) (h : ∀ l, ρ r = some l → ∃ b, l.b = some b ∧ y = .map (some b)) : RepV w S ρ L (.mp r) y
  | agg (cs : List AV) (vs : List Value) (hl : cs.length = vs.length) (hc : ∀ x ∈ vs, isCell x = true)
      (h : ∀ (i : Nat) c x, cs[i]? = some c → vs[i]? = some x → RepV w S ρ L c x) : RepV w S ρ L (.agg cs) (.agg vs.toArray)
  | tup (cs : List AV) (vs : List Value) (hl : cs.length = vs.length)
      (h : ∀ (i : Nat) c x, cs[i]? = some c → vs[i]? = some x → RepV w S ρ L c x) : RepV w S ρ L (.tup cs) (.tuple vs.toArray)
  | clo (f : FuncId) (caps : List AV) (vs : List Value) (hl : caps.length = vs.length)
      (h : ∀ (i : Nat) c x, caps[i]? = some c → vs[i]? = some x → RepV w S ρ L c x) : RepV w S ρ L (.clo f caps) (.func (.func f) #[] vs.toArray)
  | mayT (l : List Bool) (x : AV) (y : Value) (ht : l.all id = true) (h : RepV w S ρ L x y) : RepV w S ρ L (.may l x) y
  | mayF (l : List Bool) (x : AV) (hf : l.all id = false) : RepV w S ρ L (.may l x) undef

/-- What a row stands for. -/
def RowRep (w : World) (S : Nat → Prop) (ρ : Nat → Option Loc) (L : Nat → Prop) (l : Loc) : ARow → Prop
  | .els sz es => l.sz = sz ∧ (∀ e ∈ es, e.length = sz) ∧ (l.b = none → es = []) ∧
      ∀ b, l.b = some b → ∃ c t, w.heap[b]? = some (.cells c t (0, 0)) ∧ c.size = l.m ∧ l.o + es.length * sz ≤ l.m ∧
        ∀ (i : Nat) a, es.flatten[i]? = some a → ∃ x, c[l.o + i]? = some x ∧ isCell x = true ∧ RepV w S ρ L a x
  | .map ag kts kvs => ∃ b, l.b = some b ∧ MapRep w b ag kts kvs

/-- Every block below the old size, outside 'M', is as it was; the streams are as they were. -/
structure Ext (M : Nat → Prop) (w w' : World) : Prop where
  os : w'.os = w.os
  tape : w'.tape = w.tape
  output : w'.output = w.output
  size : w.heap.size ≤ w'.heap.size
  block : ∀ b, b < w.heap.size → ¬ M b → w'.heap[b]? = w.heap[b]?

theorem Ext.refl (M : Nat → Prop) (w : World) : Ext M w w := ⟨rfl, rfl, rfl, Nat.le_refl _, fun _ _ _ => rfl⟩
theorem Ext.trans {M : Nat → Prop} {a b c : World} (h : Ext M a b) (k : Ext M b c) : Ext M a c :=
  ⟨k.os.trans h.os, k.tape.trans h.tape, k.output.trans h.output, Nat.le_trans h.size k.size, fun i hi hm => (k.block i (Nat.lt_of_lt_of_le hi h.size) hm).trans (h.block i hi hm)⟩
theorem Ext.mono {M M' : Nat → Prop} {w w' : World} (h : Ext M w w') (hm : ∀ b, b < w.heap.size → M b → M' b) : Ext M' w w' :=
  ⟨h.os, h.tape, h.output, h.size, fun b hb hn => h.block b hb (fun k => hn (hm b hb k))⟩
theorem Ext.draw {M : Nat → Prop} {w w' : World} (h : Ext M w w') (n : Nat) : Ext M w { w' with drawn := n } := ⟨h.os, h.tape, h.output, h.size, h.block⟩

theorem cell_of_block {w w' : World} {p : Addr} (h : w'.heap[p.block]? = w.heap[p.block]?) : w'.cell? p = w.cell? p := by
  unfold World.cell?; rw [h]

theorem RepP.ext {w w' : World} {S S' : Nat → Prop} {x : AV} {y : Value} (h : RepP w S x y) (hs : w.heap.size ≤ w'.heap.size)
    (hb : ∀ b, b < w.heap.size → ¬ S b → w'.heap[b]? = w.heap[b]? ∧ ¬ S' b) : RepP w' S' x y := by
  induction h with
  | v x => exact .v x
  | any x => exact .any x
  | agg cs vs hl hc h ih => exact .agg cs vs hl hc ih
  | tup cs vs hl h ih => exact .tup cs vs hl ih
  | lst sz els b off cap vs hS hlt hcap hel hl hv h ih =>
    exact .lst sz els b off cap vs (hb b hlt hS).2 (Nat.lt_of_lt_of_le hlt hs) hcap hel hl
      (fun i x hx => ⟨(cell_of_block (hb b hlt hS).1).trans (hv i x hx).1, (hv i x hx).2⟩) ih
  | lstNil sz a cap => exact .lstNil sz a cap
  | full sz els b off vs hS hlt hel hl hv h ih =>
    exact .full sz els b off vs (hb b hlt hS).2 (Nat.lt_of_lt_of_le hlt hs) hel hl
      (fun i x hx => ⟨(cell_of_block (hb b hlt hS).1).trans (hv i x hx).1, (hv i x hx).2⟩) ih
  | iptr cs b off vs hS hlt hl hv h ih =>
    exact .iptr cs b off vs (hb b hlt hS).2 (Nat.lt_of_lt_of_le hlt hs) hl
      (fun i x hx => ⟨(cell_of_block (hb b hlt hS).1).trans (hv i x hx).1, (hv i x hx).2⟩) ih
  | clo f caps vs hl h ih => exact .clo f caps vs hl ih
  | mpc ag kts kvs b hS hlt h => exact .mpc ag kts kvs b (hb b hlt hS).2 (Nat.lt_of_lt_of_le hlt hs) (h.same (hb b hlt hS).1)
  | mayT l x y ht h ih => exact .mayT l x y ht ih
  | mayF l x hf => exact .mayF l x hf

theorem RepV.ext {w w' : World} {S S' : Nat → Prop} {ρ ρ' : Nat → Option Loc} {L L' : Nat → Prop} {x : AV} {y : Value} (h : RepV w S ρ L x y)
    (hs : w.heap.size ≤ w'.heap.size) (hb : ∀ b, b < w.heap.size → ¬ S b → w'.heap[b]? = w.heap[b]? ∧ ¬ S' b)
    (hL : ∀ r, L r → L' r) (hρ : ∀ r l, L r → ρ' r = some l → ρ r = some l) : RepV w' S' ρ' L' x y := by
  induction h with
  | pure x y h => exact .pure x y (h.ext hs hb)
  | row r i n y h1 hy h => exact .row r i n y (hL r h1) hy (fun l hl => h l (hρ r l h1 hl))
  | ptr r i off y h1 hy h => exact .ptr r i off y (hL r h1) hy (fun l hl => h l (hρ r l h1 hl))
  | mp r y h1 hy h => exact .mp r y (hL r h1) hy (fun l hl => h l (hρ r l h1 hl))
  | agg cs vs hl hc h ih => exact .agg cs vs hl hc ih
  | tup cs vs hl h ih => exact .tup cs vs hl ih
  | clo f caps vs hl h ih => exact .clo f caps vs hl ih
  | mayT l x y ht h ih => exact .mayT l x y ht ih
  | mayF l x hf => exact .mayF l x hf

theorem RowRep.ext {w w' : World} {S S' : Nat → Prop} {ρ ρ' : Nat → Option Loc} {L L' : Nat → Prop} {l : Loc} {row : ARow} (h : RowRep w S ρ L l row)
    (hs : w.heap.size ≤ w'.heap.size) (hb : ∀ b, b < w.heap.size → ¬ S b → w'.heap[b]? = w.heap[b]? ∧ ¬ S' b)
    (hL : ∀ r, L r → L' r) (hρ : ∀ r l, L r → ρ' r = some l → ρ r = some l) (hsame : ∀ b, l.b = some b → w'.heap[b]? = w.heap[b]?) : RowRep w' S' ρ' L' l row := by
  cases row with
  | els sz es =>
    obtain ⟨h1, h2, h3, h4⟩ := h
    refine ⟨h1, h2, h3, fun b hlb => ?_⟩
    obtain ⟨c, t, k1, k2, k3, k4⟩ := h4 b hlb
    refine ⟨c, t, (hsame b hlb).trans k1, k2, k3, fun i a hi => ?_⟩
    obtain ⟨x, q1, q2, q3⟩ := k4 i a hi
    exact ⟨x, q1, q2, q3.ext hs hb hL hρ⟩
  | map ag kts kvs => obtain ⟨b, h1, h2⟩ := h; exact ⟨b, h1, h2.same (hsame b h1)⟩

/-- The blocks that a value by content may not lie in: those that somebody else owns, and those of the call's own rows. -/
def Sx (S0 : Nat → Prop) (ρ : Nat → Option Loc) (b : Nat) : Prop := S0 b ∨ ∃ r l, ρ r = some l ∧ l.b = some b

/-- The rows lie in blocks of their own, which may be written. -/
structure WF (B S0 : Nat → Prop) (w : World) (ρ : Nat → Option Loc) (L : Nat → Prop) : Prop where
  inj : ∀ r r' l l' b, ρ r = some l → ρ r' = some l' → l.b = some b → l'.b = some b → r = r'
  own : ∀ r l b, ρ r = some l → l.b = some b → b < w.heap.size ∧ ¬ S0 b ∧ B b
  given : ∀ r l, ρ r = some l → L r
  low : ∀ b, S0 b → b < w.heap.size
  new : ∀ b, w.heap.size ≤ b → B b

/-- What an operation does: the value that it leaves, the rows that it writes (none: the row is gone), the rows that it reads. -/
structure Eff where
  av : AV
  ups : List (Nat × Option ARow)
  reads : List Nat

/-- The names of rows that have been given behind an operation. -/
def nL (L : Nat → Prop) (e : Eff) (r : Nat) : Prop := L r ∨ ∃ o, (r, o) ∈ e.ups

/-- What holds behind an operation. -/
structure Post (B S0 : Nat → Prop) (w : World) (ρ : Nat → Option Loc) (L : Nat → Prop) (N : Nat) (e : Eff) (w' : World) (ρ' : Nat → Option Loc) (v : Value) : Prop where
  wf : WF B S0 w' ρ' (nL L e)
  rep : RepV w' (Sx S0 ρ') ρ' (nL L e) e.av v
  ups : ∀ r o, (r, o) ∈ e.ups → match o with | none => ρ' r = none | some row => ∃ l, ρ' r = some l ∧ RowRep w' (Sx S0 ρ') ρ' (nL L e) l row
  others : ∀ r, (∀ o, (r, o) ∉ e.ups) → ρ' r = ρ r
  only : ∀ r l, ρ' r = some l → ρ r = some l ∨ (r = N ∧ (∃ o, (N, o) ∈ e.ups) ∧ ∀ b, l.b = some b → w.heap.size ≤ b ∨ ∃ r0 l0, ρ r0 = some l0 ∧ l0.b = some b)
  ext : Ext (fun b => ∃ r l o, (r, o) ∈ e.ups ∧ ρ r = some l ∧ l.b = some b) w w'

theorem Post.keeps {B S0 : Nat → Prop} {w : World} {ρ : Nat → Option Loc} {L : Nat → Prop} {N : Nat} {e : Eff} {w' : World} {ρ' : Nat → Option Loc} {v : Value}
    (h : Post B S0 w ρ L N e w' ρ' v) : ∀ b, b < w.heap.size → ¬ Sx S0 ρ b → w'.heap[b]? = w.heap[b]? ∧ ¬ Sx S0 ρ' b := by
  intro b hb hn
  refine ⟨h.ext.block b hb ?_, ?_⟩
  · rintro ⟨r, l, o, _, hr, hl⟩; exact hn (Or.inr ⟨r, l, hr, hl⟩)
  · rintro (hs | ⟨r, l, hr, hl⟩)
    · exact hn (Or.inl hs)
    · rcases h.only r l hr with h1 | ⟨_, _, h1⟩
      · exact hn (Or.inr ⟨r, l, h1, hl⟩)
      · rcases h1 b hl with h2 | ⟨r0, l0, q1, q2⟩
        · omega
        · exact hn (Or.inr ⟨r0, l0, q1, q2⟩)

theorem Post.keepsV {B S0 : Nat → Prop} {w : World} {ρ : Nat → Option Loc} {L : Nat → Prop} {N : Nat} {e : Eff} {w' : World} {ρ' : Nat → Option Loc} {v : Value}
    (h : Post B S0 w ρ L N e w' ρ' v) (hN : (∃ o, (N, o) ∈ e.ups) → ¬ L N) {x : AV} {y : Value} (k : RepV w (Sx S0 ρ) ρ L x y) : RepV w' (Sx S0 ρ') ρ' (nL L e) x y :=
  k.ext h.ext.size h.keeps (fun r => Or.inl) (fun r l hr hl => (h.only r l hl).resolve_right (fun q => hN q.2.1 (q.1 ▸ hr)))

theorem Post.keepsRow {B S0 : Nat → Prop} {w : World} {ρ : Nat → Option Loc} {L : Nat → Prop} {N : Nat} {e : Eff} {w' : World} {ρ' : Nat → Option Loc} {v : Value}
    (h : Post B S0 w ρ L N e w' ρ' v) (hw : WF B S0 w ρ L) (hN : (∃ o, (N, o) ∈ e.ups) → ¬ L N) {r : Nat} {l : Loc} {row : ARow} (hr : ∀ o, (r, o) ∉ e.ups) (hl : ρ r = some l)
    (k : RowRep w (Sx S0 ρ) ρ L l row) : RowRep w' (Sx S0 ρ') ρ' (nL L e) l row :=
  k.ext h.ext.size h.keeps (fun r => Or.inl) (fun r l hr hl => (h.only r l hl).resolve_right (fun q => hN q.2.1 (q.1 ▸ hr))) fun b hb =>
    h.ext.block b (hw.own r l b hl hb).1 (by
      rintro ⟨r', l', o, hm, hr', hl'⟩
      have := hw.inj r r' l l' b hl hr' hb hl'
      subst this
      exact hr o hm)

/-- AN OPERATION IS SOUND for what it does: whatever the frame and the world, so long as its operands and the rows that it reads are as the abstract machine has them. -/
def OpOk (P : Program) (o : Oper) (ev : Operand → AV) (H : Nat → Option ARow) (N : Nat) (e : Eff) : Prop :=
  ∀ (B S0 : Nat → Prop) (a : Act) (w : World) (ρ : Nat → Option Loc) (L : Nat → Prop), WF B S0 w ρ L → ((∃ o, (N, o) ∈ e.ups) → ¬ L N) →
    (∀ x ∈ o.op.operands, RepV w (Sx S0 ρ) ρ L (ev x) (a.eval x)) →
    (∀ r ∈ e.reads, ∀ row, H r = some row → ∃ l, ρ r = some l ∧ RowRep w (Sx S0 ρ) ρ L l row) →
    ∀ (K : Act → World → Prop) (Q : Exit → Act → World → Prop), (∀ v w' ρ', Post B S0 w ρ L N e w' ρ' v → K (a.put o.dst v) w') → o.wp P a w K Q
end Go.AM
