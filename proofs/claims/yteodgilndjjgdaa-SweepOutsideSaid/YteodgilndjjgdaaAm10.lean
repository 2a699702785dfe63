/- The abstract machine, part 10: slots, one step with its guard, a region in the order of the text. No condition. -/
import Derived.Test.YteodgilndjjgdaaAm9
namespace Go.AM
set_option linter.unusedVariables false
set_option linter.unusedSimpArgs false

/-- Slots. -/
abbrev Tm := List (Nat × AV)
def look : Tm → Nat → AV
  | [], _ => .any
  | (i, x) :: r, t => if t = i then x else look r t

def putT (T : Tm) (d : Option Tmp) (x : AV) : Tm :=
  match d with
  | some d => (d, x) :: T
  | none => T

theorem look_putT (T : Tm) (d : Option Tmp) (x : AV) (t : Nat) : look (putT T d x) t = if d = some t then x else look T t := by
  cases d with
  | none => simp [putT]
  | some d =>
    simp only [putT, look, Option.some.injEq]
    by_cases h : t = d
    · subst h; simp
    · rw [if_neg h, if_neg (fun e => h e.symm)]

/-- Rows. -/
abbrev Hp := List (Option ARow)
def hget : Hp → Nat → Option ARow
  | [], _ => none
  | x :: _, 0 => x
  | _ :: xs, n + 1 => hget xs n

def hset : Hp → Nat → Option ARow → Hp
  | [], _, o => [o]
  | _ :: xs, 0, o => o :: xs
  | x :: xs, n + 1, o => x :: hset xs n o

def happ (H : Hp) : List (Nat × Option ARow) → Hp
  | [] => H
  | (r, o) :: ups => happ (hset H r o) ups

theorem hget_none : ∀ (H : Hp) (r : Nat), H.length ≤ r → hget H r = none
  | [], r, _ => by cases r <;> rfl
  | x :: xs, 0, h => by simp at h
  | x :: xs, n + 1, h => hget_none xs n (by simpa using h)

theorem hget_hset : ∀ (H : Hp) (r : Nat) (o : Option ARow) (k : Nat), r ≤ H.length → hget (hset H r o) k = if k = r then o else hget H k
  | [], r, o, k, h => by
    have : r = 0 := by simpa using h
    subst this
    cases k with
    | zero => rfl
    | succ k => simp [hset, hget]
  | x :: xs, 0, o, k, h => by cases k <;> simp [hset, hget]
  | x :: xs, n + 1, o, k, h => by
    cases k with
    | zero => simp [hset, hget]
    | succ k => simp only [hset, hget, Nat.add_right_cancel_iff]; exact hget_hset xs n o k (by simpa using h)

theorem length_hset : ∀ (H : Hp) (r : Nat) (o : Option ARow), r ≤ H.length → (hset H r o).length = max H.length (r + 1)
  | [], r, o, h => by
    have : r = 0 := by simpa using h
    subst this; rfl
  | x :: xs, 0, o, h => by simp [hset]
  | x :: xs, n + 1, o, h => by simp only [hset, List.length_cons, length_hset xs n o (by simpa using h)]; omega

/-- What an operation writes is new (the next name) or there. -/
def upsIn (H : Hp) : List (Nat × Option ARow) → Prop
  | [] => True
  | (r, o) :: ups => r ≤ H.length ∧ upsIn (hset H r o) ups

/-- No name twice. -/
def upsOnce : List (Nat × Option ARow) → Bool
  | [] => true
  | (r, _) :: ups => (ups.all fun q => q.1 != r) && upsOnce ups

theorem hget_happ : ∀ (ups : List (Nat × Option ARow)) (H : Hp), upsIn H ups → upsOnce ups = true → ∀ k, (∀ o, (k, o) ∈ ups → hget (happ H ups) k = o) ∧ ((∀ o, (k, o) ∉ ups) → hget (happ H ups) k = hget H k)
  | [], H, _, _, k => ⟨fun o h => (by cases h), fun _ => rfl⟩
  | (r, o) :: ups, H, hi, ho, k => by
    simp only [upsOnce, Bool.and_eq_true, List.all_eq_true, bne_iff_ne, ne_eq] at ho
    obtain ⟨h1, h2⟩ := hget_happ ups (hset H r o) hi.2 ho.2 k
    constructor
    · intro o' hm
      simp only [List.mem_cons, Prod.mk.injEq] at hm
      rcases hm with ⟨rfl, rfl⟩ | hm
      · have : ∀ q, (k, q) ∉ ups := fun q hq => ho.1 (k, q) hq rfl
        simp only [happ]
        rw [h2 this, hget_hset H k o' k hi.1, if_pos rfl]
      · exact h1 o' hm
    · intro hn
      simp only [List.mem_cons, Prod.mk.injEq, not_or, not_and] at hn
      simp only [happ]
      rw [h2 (fun q hq => (hn q).2 hq), hget_hset H r o k hi.1, if_neg (fun e => (hn o).1 e rfl)]

theorem length_happ : ∀ (ups : List (Nat × Option ARow)) (H : Hp), upsIn H ups → H.length ≤ (happ H ups).length ∧ ∀ r o, (r, o) ∈ ups → r < (happ H ups).length
  | [], H, _ => ⟨Nat.le_refl _, fun r o h => (by cases h)⟩
  | (r, o) :: ups, H, hi => by
    obtain ⟨h1, h2⟩ := length_happ ups (hset H r o) hi.2
    rw [length_hset H r o hi.1] at h1
    refine ⟨by simp only [happ]; omega, fun r' o' hm => ?_⟩
    simp only [List.mem_cons, Prod.mk.injEq] at hm
    rcases hm with ⟨rfl, rfl⟩ | hm
    · simp only [happ]; omega
    · exact h2 r' o' hm

/-- A constant. -/
def constAV : Value → AV
  | .agg cs => if cs.toList.all Value.oneCell' = true then .agg (cs.toList.map .v) else .v (.agg cs)
  | x => .v x

theorem constAV_rep {w : World} {S : Nat → Prop} (x : Value) : RepP w S (constAV x) x := by
  cases x with
  | agg cs =>
    simp only [constAV]
    split
    · rename_i h
      have e : cs = cs.toList.toArray := by simp
      rw [e]
      refine .agg _ _ (by simp) (fun u hu => ?_) (fun i c u h1 h2 => ?_)
      · exact List.all_eq_true.1 h u hu
      · simp only [List.getElem?_map, Option.map_eq_some_iff] at h1
        obtain ⟨q, h1, rfl⟩ := h1
        have h2' : cs.toList[i]? = some u := by simpa using h2
        have h1' : cs.toList[i]? = some q := by simpa using h1
        rw [h1'] at h2'
        simp only [Option.some.injEq] at h2'
        subst h2'
        exact .v q
    · exact .v _
  | _ => exact .v _

def evT (T : Nat → AV) : Operand → AV
  | .tmp t => T t
  | .const x => constAV x
  | .global g => .v (.pointer (some ⟨g, 0, none⟩))
  | .func f => .clo f []

/-- What is under a condition. -/
def AV.strip : AV → AV
  | .may _ x => x
  | x => x

def impl (m l : List Bool) : Prop := m.all id = true → l.all id = true

def okm (m : List Bool) : AV → Prop
  | .may l _ => impl m l
  | _ => True

def okAll (m : List Bool) : List AV → Prop
  | [] => True
  | x :: xs => okm m x ∧ okAll m xs

theorem strip_rep {w : World} {S : Nat → Prop} {ρ : Nat → Option Loc} {L : Nat → Prop} {m : List Bool} {x : AV} {y : Value} (hm : m.all id = true) (ho : okm m x) (h : RepV w S ρ L x y) : RepV w S ρ L x.strip y := by
  cases x with
  | may l x =>
    have hl := ho hm
    cases h with
    | pure _ _ h => cases h with
      | mayT _ _ _ _ h => exact .pure _ _ h
      | mayF _ _ hf => rw [hl] at hf; cases hf
    | mayT _ _ _ _ h => exact h
    | mayF _ _ hf => rw [hl] at hf; cases hf
  | _ => exact h

theorem okAll_mem {m : List Bool} {x : AV} : ∀ {l : List AV}, okAll m l → x ∈ l → okm m x
  | y :: l, h, hx => by
    rcases List.mem_cons.1 hx with rfl | hx
    · exact h.1
    · exact okAll_mem h.2 hx

/-- A value with a condition on it. -/
def mayw : List Bool → AV → AV
  | [], x => x
  | l, x => .may l x

theorem mayw_rep {w : World} {S : Nat → Prop} {ρ : Nat → Option Loc} {L : Nat → Prop} {m : List Bool} {x : AV} {y : Value} (hm : m.all id = true) (h : RepV w S ρ L x y) : RepV w S ρ L (mayw m x) y := by
  cases m with
  | nil => exact h
  | cons b m => exact .mayT _ _ _ hm h

theorem mayw_undef {w : World} {S : Nat → Prop} {ρ : Nat → Option Loc} {L : Nat → Prop} {m : List Bool} {x : AV} (hm : m.all id = false) : RepV w S ρ L (mayw m x) undef := by
  cases m with
  | nil => simp at hm
  | cons b m => exact .mayF _ _ hm

/-- The condition under which an operation runs. -/
def gval : AV → Option (List Bool × Bool)
  | .v (.bool b) => some ([], b)
  | .may l (.v (.bool b)) => some (l, b)
  | _ => none

def glit (b want : Bool) : Bool := if want then b else !b

def dstAt (dsts : List (Option Tmp)) (j : Nat) : Nat := match dsts[j]? with | some (some d) => d | _ => 0

/-- Of a choice that two sides go into. -/
def aPick (m : List Bool) (c x y : AV) (K : AV → Prop) : Prop :=
  okm m c ∧ match c.strip, x.strip, y.strip with
  | .v (.bool t), .v (.bool p), .v (.bool q) => okm (m ++ [t]) x ∧ okm (m ++ [!t]) y ∧ K (.v (.bool (cond t p q)))
  | _, _, _ => False

/-- Under a condition nothing is written. -/
def upsM : List Bool → List (Nat × Option ARow) → Prop
  | [], _ => True
  | _, ups => ups = []

/-- A slot that is there. -/
def dstOk (nt : Nat) : Option Tmp → Prop
  | none => True
  | some d => d < nt

/-- ONE STEP under a condition. -/
def vcStep (P : Program) (m : List Bool) (op : Op) (T : Nat → AV) (H : Nat → Option ARow) (N : Nat) (K : Eff → Prop) : Prop :=
  match op with
  | .pick c x y => aPick m (evT T c) (evT T x) (evT T y) (ct (fun r => K ⟨mayw m r, [], []⟩) ⟨⟩)
  | op => okAll m (op.operands.toList.map (evT T)) ∧ aop P m op (fun x => (evT T x).strip) H N (ct (fun e => upsM m e.ups ∧ K ⟨mayw m e.av, e.ups, e.reads⟩) ⟨⟩)

/-- The slots that an operation looks at. -/
def slotsOf (ops : Array Oper) (o : Oper) : List Tmp := o.looksAt ops

/-- A STEP IS SOUND: the operation, with its guard. -/
def StepOk (P : Program) (ops : Array Oper) (o : Oper) (T : Nat → AV) (H : Nat → Option ARow) (N : Nat) (e : Eff) : Prop :=
  ∀ (B S0 : Nat → Prop) (a : Act) (w : World) (ρ : Nat → Option Loc) (L : Nat → Prop), WF B S0 w ρ L → ((∃ o, (N, o) ∈ e.ups) → ¬ L N) →
    (∀ t ∈ o.looksAt ops, RepV w (Sx S0 ρ) ρ L (T t) (a.tmps.getD t undef)) →
    (∀ r ∈ e.reads, ∀ row, H r = some row → ∃ l, ρ r = some l ∧ RowRep w (Sx S0 ρ) ρ L l row) →
    ∀ (K : Act → World → Prop) (Q : Exit → Act → World → Prop), (∀ v w' ρ', Post B S0 w ρ L N e w' ρ' v → K (a.put o.dst v) w') →
      if Region.wanted o (yielded ops a.tmps) then o.wp P a w K Q else K (a.put o.dst undef) w

section
variable {P : Program} {ops : Array Oper} {o : Oper} {T : Nat → AV} {H : Nat → Option ARow} {N : Nat}

theorem eval_rep {w : World} {S : Nat → Prop} {ρ : Nat → Option Loc} {L : Nat → Prop} {a : Act} (h : ∀ t ∈ o.looksAt ops, RepV w S ρ L (T t) (a.tmps.getD t undef)) :
    ∀ x ∈ o.op.operands, RepV w S ρ L (evT T x) (a.eval x) := by
  intro x hx
  cases x with
  | tmp t =>
    refine h t ?_
    simp only [Oper.looksAt, List.mem_append, List.mem_filterMap]
    exact Or.inl ⟨.tmp t, by simpa using hx, rfl⟩
  | const v => exact .pure _ _ (constAV_rep v)
  | global g => exact .pure _ _ (.v _)
  | func f => exact .pure _ _ (.clo f [] [] rfl (by simp))

theorem post_skip {B S0 : Nat → Prop} {w : World} {ρ : Nat → Option Loc} {L : Nat → Prop} (hw : WF B S0 w ρ L) {av : AV} {v : Value} {rd : List Nat} (h : RepV w (Sx S0 ρ) ρ L av v) : Post B S0 w ρ L N ⟨av, [], rd⟩ w ρ v :=
  { wf := hw.more fun r => Or.inl, rep := h.ext (Nat.le_refl _) (fun b _ hn => ⟨rfl, hn⟩) (fun r => Or.inl) (fun r l _ hl => hl), ups := (by intro r o hm; cases hm), others := fun r _ => rfl, only := fun r l hl => Or.inl hl, ext := Ext.refl _ _ }

theorem Post.remay {B S0 : Nat → Prop} {w : World} {ρ : Nat → Option Loc} {L : Nat → Prop} {e : Eff} {w' : World} {ρ' : Nat → Option Loc} {v : Value} (h : Post B S0 w ρ L N e w' ρ' v) {m : List Bool} (hm : m.all id = true) :
    Post B S0 w ρ L N ⟨mayw m e.av, e.ups, e.reads⟩ w' ρ' v :=
  { wf := h.wf, rep := mayw_rep hm h.rep, ups := h.ups, others := h.others, only := h.only, ext := h.ext }

/-- What a step under a condition gives, the condition being one of the slot that guards it. -/
theorem vcStep_sound {m : List Bool} {K : Eff → Prop}
    (hg : ∀ (w : World) (S : Nat → Prop) (ρ : Nat → Option Loc) (L : Nat → Prop) (a : Act), (∀ t ∈ o.looksAt ops, RepV w S ρ L (T t) (a.tmps.getD t undef)) → (Region.wanted o (yielded ops a.tmps) = true ↔ m.all id = true))
    (h : vcStep P m o.op T H N K) : ∃ e, StepOk P ops o T H N e ∧ K e := by
  by_cases hp : ∃ c x y, o.op = .pick c x y
  · obtain ⟨c, x, y, ho⟩ := hp
    rw [ho] at h
    obtain ⟨hc, h⟩ := h
    split at h
    · rename_i t p q e1 e2 e3
      obtain ⟨hx, hy, h⟩ := h
      refine ⟨_, fun B S0 a w ρ L hw hN hl hrd K' Q hK => ?_, h⟩
      have hops := eval_rep (o := o) hl
      split
      · rename_i hwant
        have hm := (hg w _ ρ L a hl).1 hwant
        have hcv : a.eval c = .bool t := by
          have := strip_rep hm hc (hops c (by simp [ho, Op.operands]))
          rw [e1] at this
          exact exact_v this
        have hrun : (execOp a.eval o).run P w = .ok (.value (if t then a.eval x else a.eval y)) w := by
          simp only [execOp, ho, hcv]; cases t <;> rfl
        unfold Oper.wp
        rw [hrun]
        refine hK _ _ ρ (post_skip hw (mayw_rep hm ?_))
        cases t with
        | true =>
          have := strip_rep (m := m ++ [true]) (by simp [hm]) hx (hops x (by simp [ho, Op.operands]))
          rw [e2] at this
          exact this
        | false =>
          have := strip_rep (m := m ++ [!false]) (by simp [hm]) hy (hops y (by simp [ho, Op.operands]))
          rw [e3] at this
          exact this
      · rename_i hwant
        have hm : m.all id = false := by
          cases hmm : m.all id with
          | false => rfl
          | true => exact absurd ((hg w _ ρ L a hl).2 hmm) hwant
        exact hK _ _ ρ (post_skip hw (mayw_undef hm))
    · exact h.elim
  · have h' : okAll m (o.op.operands.toList.map (evT T)) ∧ aop P m o.op (fun x => (evT T x).strip) H N (ct (fun e => upsM m e.ups ∧ K ⟨mayw m e.av, e.ups, e.reads⟩) ⟨⟩) := by
      unfold vcStep at h
      split at h
      · rename_i c x y ho; exact absurd ⟨c, x, y, ho⟩ hp
      · exact h
    obtain ⟨hok, h'⟩ := h'
    obtain ⟨e, he, hu, hk⟩ := aop_sound h'
    refine ⟨_, fun B S0 a w ρ L hw hN hl hrd K' Q hK => ?_, hk⟩
    have hops := eval_rep (o := o) hl
    split
    · rename_i hwant
      have hm := (hg w _ ρ L a hl).1 hwant
      exact he hm B S0 a w ρ L hw hN (fun x hx => strip_rep hm (okAll_mem hok (List.mem_map_of_mem (by simpa using hx))) (hops x hx)) hrd K' Q (fun v w' ρ' hp => hK v w' ρ' (hp.remay hm))
    · rename_i hwant
      have hm : m.all id = false := by
        cases hmm : m.all id with
        | false => rfl
        | true => exact absurd ((hg w _ ρ L a hl).2 hmm) hwant
      have hm0 : m ≠ [] := by rintro rfl; simp at hm
      have hups : e.ups = [] := by cases m with | nil => exact absurd rfl hm0 | cons b m => exact hu
      have := post_skip (N := N) (rd := e.reads) hw (mayw_undef (x := e.av) hm) (v := undef)
      rw [hups] at hK
      exact hK _ _ ρ this

/-- A step with its guard, as the condition is had. -/
def vcGuard (P : Program) (dsts : List (Option Tmp)) (o : Oper) (T : Nat → AV) (H : Nat → Option ARow) (N : Nat) (K : Eff → Prop) : Prop :=
  match o.guard with
  | none => vcStep P [] o.op T H N K
  | some (j, want) => match dsts[j]? with
    | some (some d) => match gval (T d) with
      | some (l, b) => vcStep P (l ++ [glit b want]) o.op T H N K
      | none => False
    | _ => False

theorem vcGuard_sound {dsts : List (Option Tmp)} (hd : ∀ j : Nat, dsts[j]? = (ops[j]?).map (·.dst)) {K : Eff → Prop} (h : vcGuard P dsts o T H N K) (hsz : ∀ (a : Act), True) : ∃ e, StepOk P ops o T H N e ∧ K e := by
  unfold vcGuard at h
  split at h
  · rename_i hg
    exact vcStep_sound (fun w S ρ L a _ => by simp [Region.wanted, hg]) h
  · rename_i j want hg
    split at h
    · rename_i d hdj
      split at h
      · rename_i l b hgv
        refine vcStep_sound (fun w S ρ L a hl => ?_) h
        have hdo : (ops[j]?).bind (·.dst) = some d := by
          have := hd j
          rw [hdj] at this
          cases ho : ops[j]? with
          | none => rw [ho] at this; cases this
          | some oj => rw [ho] at this; simp only [Option.map_some, Option.some.injEq] at this; simp [this]
        have hrep := hl d (by
          simp only [Oper.looksAt, List.mem_append]
          right
          rw [hg]
          simp [hdo])
        have hcell : ∀ v, a.tmps.getD d undef = v → (∀ bb, v = .bool bb → yielded ops a.tmps j = some bb) ∧ (v = undef → yielded ops a.tmps j = none) := by
          intro v hv
          unfold yielded
          rw [hdo]
          simp only [Option.bind_some]
          cases ht : a.tmps[d]? with
          | none => simp [Array.getD_eq_getD_getElem?, ht] at hv; subst hv; simp [undef]
          | some u => simp [Array.getD_eq_getD_getElem?, ht] at hv; subst hv; constructor
                      · rintro bb rfl; rfl
                      · rintro rfl; rfl
        simp only [Region.wanted, hg]
        generalize hT : T d = td at hrep hgv
        unfold gval at hgv
        split at hgv
        · simp only [Option.some.injEq, Prod.mk.injEq] at hgv
          obtain ⟨rfl, rfl⟩ := hgv
          have := (hcell _ rfl).1 _ (exact_v hrep)
          rw [this]
          rename_i b'
          cases b' <;> cases want <;> simp [glit]
        · simp only [Option.some.injEq, Prod.mk.injEq] at hgv
          obtain ⟨rfl, rfl⟩ := hgv
          rename_i l' b'
          have hcase : (l'.all id = true ∧ RepV w S ρ L (.v (.bool b')) (a.tmps.getD d undef)) ∨ (l'.all id = false ∧ a.tmps.getD d undef = undef) := by
            generalize a.tmps.getD d undef = u at hrep
            cases hrep with
            | pure _ _ h => cases h with
              | mayT _ _ _ ht h => exact Or.inl ⟨ht, .pure _ _ h⟩
              | mayF _ _ hf => exact Or.inr ⟨hf, rfl⟩
            | mayT _ _ _ ht h => exact Or.inl ⟨ht, h⟩
            | mayF _ _ hf => exact Or.inr ⟨hf, rfl⟩
          rcases hcase with ⟨hl', hr⟩ | ⟨hl', hu⟩
          · have := (hcell _ rfl).1 _ (exact_v hr)
            rw [this, List.all_append, hl']
            cases b' <;> cases want <;> simp [glit]
          · have := (hcell _ rfl).2 hu
            rw [this, List.all_append, hl']
            simp
        · cases hgv
      · exact h.elim
    · exact h.elim

/-- The state of a call: where it stands for the world. 'w0': the world at its beginning. -/
structure Core (B S0 : Nat → Prop) (nt : Nat) (w : World) (ρ : Nat → Option Loc) (L : Nat → Prop) (T : Nat → AV) (H : Nat → Option ARow) (a : Act) : Prop where
  wf : WF B S0 w ρ L
  size : a.tmps.size = nt
  defers : a.defers = []
  tmps : ∀ t, RepV w (Sx S0 ρ) ρ L (T t) (a.tmps.getD t undef)
  rows : ∀ r row, H r = some row → ∃ l, ρ r = some l ∧ RowRep w (Sx S0 ρ) ρ L l row
  dead : ∀ r, H r = none → ρ r = none

theorem getD_put (a : Act) (d : Option Tmp) (v : Value) (t : Nat) : (∀ k, d = some k → k < a.tmps.size) → (a.put d v).tmps.getD t undef = if d = some t then v else a.tmps.getD t undef := by
  intro h
  cases d with
  | none => simp [Act.put]
  | some d =>
    simp only [Act.put, Array.getD_eq_getD_getElem?, Option.some.injEq]
    by_cases e : d = t
    · subst e; rw [if_pos rfl, Array.getElem?_setIfInBounds_self_of_lt (h d rfl)]; rfl
    · rw [if_neg e, Array.getElem?_setIfInBounds_ne e]

/-- Behind a step. -/
theorem Core.step {B S0 : Nat → Prop} {nt : Nat} {w : World} {ρ : Nat → Option Loc} {L : Nat → Prop} {T T' : Nat → AV} {H H' : Nat → Option ARow} {a : Act} (hc : Core B S0 nt w ρ L T H a) {e : Eff} {w' : World} {ρ' : Nat → Option Loc} {v : Value} {dst : Option Tmp}
    (hN : (∃ o, (N, o) ∈ e.ups) → ¬ L N) (hp : Post B S0 w ρ L N e w' ρ' v) (hd : ∀ k, dst = some k → k < nt)
    (hT : ∀ t, T' t = if dst = some t then e.av else T t) (hH : ∀ k, (∀ o, (k, o) ∈ e.ups → H' k = o) ∧ ((∀ o, (k, o) ∉ e.ups) → H' k = H k)) :
    Core B S0 nt w' ρ' (nL L e) T' H' (a.put dst v) := by
  refine ⟨hp.wf, ?_, ?_, fun t => ?_, fun r row hr => ?_, fun r hr => ?_⟩
  · cases dst with
    | none => exact hc.size
    | some d => simp [Act.put, hc.size]
  · cases dst with
    | none => exact hc.defers
    | some d => exact hc.defers
  · rw [getD_put a dst v t (by rw [hc.size]; exact hd), hT]
    split
    · exact hp.rep
    · exact hp.keepsV hN (hc.tmps t)
  · by_cases hm : ∃ o, (r, o) ∈ e.ups
    · obtain ⟨o, hm⟩ := hm
      have := (hH r).1 o hm
      rw [hr] at this
      subst this
      exact hp.ups r _ hm
    · have hm' : ∀ o, (r, o) ∉ e.ups := fun o h => hm ⟨o, h⟩
      have := (hH r).2 hm'
      rw [this] at hr
      obtain ⟨l, hl, hrow⟩ := hc.rows r row hr
      exact ⟨l, by rw [hp.others r hm']; exact hl, hp.keepsRow hc.wf hN hm' hl hrow⟩
  · by_cases hm : ∃ o, (r, o) ∈ e.ups
    · obtain ⟨o, hm⟩ := hm
      have := (hH r).1 o hm
      rw [hr] at this
      subst this
      exact hp.ups r _ hm
    · have hm' : ∀ o, (r, o) ∉ e.ups := fun o h => hm ⟨o, h⟩
      have := (hH r).2 hm'
      rw [this] at hr
      rw [hp.others r hm']
      exact hc.dead r hr

/-- THE CONDITION OF A REGION in the order of the text. -/
def vcOps (P : Program) (nt : Nat) (dsts : List (Option Tmp)) : List Oper → Tm → Hp → (Tm → Hp → Prop) → Prop
  | [], T, H, K => K T H
  | o :: rest, T, H, K => vcGuard P dsts o (look T) (hget H) H.length (ct (fun e =>
      dstOk nt o.dst ∧ upsIn H e.ups ∧ upsOnce e.ups = true ∧ vcOps P nt dsts rest (putT T o.dst e.av) (happ H e.ups) K) ⟨⟩)

/-- What is known of the world at a point of a call that began in 'w0'. -/
structure St (w0 : World) (B S0 : Nat → Prop) (nt : Nat) (T : Tm) (H : Hp) (a : Act) (w : World) : Prop where
  ex : ∃ ρ L, Core B S0 nt w ρ L (look T) (hget H) a ∧ ∀ r, L r → r < H.length
  ext : Ext B w0 w

theorem ext_step {w0 w w' : World} {B S0 : Nat → Prop} {ρ : Nat → Option Loc} {L : Nat → Prop} {e : Eff} {ρ' : Nat → Option Loc} {v : Value} (h : Ext B w0 w) (hw : WF B S0 w ρ L) (hp : Post B S0 w ρ L N e w' ρ' v) : Ext B w0 w' :=
  h.trans (hp.ext.mono (by rintro b hb ⟨r, l, o, _, h1, h2⟩; exact (hw.own r l b h1 h2).2.2))

theorem St.step {w0 : World} {B S0 : Nat → Prop} {nt : Nat} {T : Tm} {H : Hp} {a : Act} {w : World} (hs : St w0 B S0 nt T H a w) {e : Eff} (hst : StepOk P ops o (look T) (hget H) H.length e)
    (hd : ∀ d, o.dst = some d → d < nt) (hin : upsIn H e.ups) (ho : upsOnce e.ups = true) {K : Act → World → Prop} {Q : Exit → Act → World → Prop}
    (hK : ∀ a' w', St w0 B S0 nt (putT T o.dst e.av) (happ H e.ups) a' w' → K a' w') : if Region.wanted o (yielded ops a.tmps) then o.wp P a w K Q else K (a.put o.dst undef) w := by
  obtain ⟨⟨ρ, L, hc, hL⟩, hext⟩ := hs
  have hN : (∃ o, (H.length, o) ∈ e.ups) → ¬ L H.length := fun _ h => Nat.lt_irrefl _ (hL _ h)
  refine hst B S0 a w ρ L hc.wf hN (fun t _ => hc.tmps t) (fun r _ row hr => hc.rows r row hr) K Q (fun v w' ρ' hp => hK _ _ ⟨⟨ρ', _, hc.step hN hp hd (fun t => look_putT T o.dst e.av t) (fun k => hget_happ e.ups H hin ho k), ?_⟩, ext_step hext hc.wf hp⟩)
  obtain ⟨h1, h2⟩ := length_happ e.ups H hin
  rintro r (hr | ⟨o', hr⟩)
  · exact Nat.lt_of_lt_of_le (hL r hr) h1
  · exact h2 r o' hr

theorem vcOps_sound {w0 : World} {B S0 : Nat → Prop} {nt : Nat} {dsts : List (Option Tmp)} (hd : ∀ j : Nat, dsts[j]? = (ops[j]?).map (·.dst)) {Q : Exit → Act → World → Prop} {K : Tm → Hp → Prop}
    (hK : ∀ T H a w, K T H → St w0 B S0 nt T H a w → Q .normal a w) : ∀ (l : List Oper) (T : Tm) (H : Hp) (a : Act) (w : World), vcOps P nt dsts l T H K → St w0 B S0 nt T H a w → wpList P ops Q l a w
  | [], T, H, a, w, h, hs => hK T H a w h hs
  | o :: rest, T, H, a, w, h, hs => by
    obtain ⟨e, hst, h1, h2, h3, h4⟩ := vcGuard_sound hd h (fun _ => trivial)
    have := hs.step (K := wpList P ops Q rest) (Q := Q) hst (fun d hd => by rw [hd] at h1; exact h1) h2 h3 (fun a' w' hs' => vcOps_sound hd hK rest _ _ a' w' h4 hs')
    unfold wpList
    split
    · rename_i hw; rw [if_pos hw] at this; exact Or.inl this
    · rename_i hw; rw [if_neg hw] at this; exact this

end
end Go.AM
