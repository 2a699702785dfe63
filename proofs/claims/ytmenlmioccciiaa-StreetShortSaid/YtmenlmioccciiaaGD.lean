/- The abstract machine, part I: code in an activation whose foreign blocks may grow: what is walked in a round of a range over a function, in an iterator, and in a function that holds such a range. No condition. -/
import Derived.Test.YtmenlmioccciiaaGC
import Derived.RangeFuncLeaves
import Derived.RangeFuncNested
import Derived.OrdersIn
import Derived.RangeFuncSeq
import Derived.Below
/- The abstract machine, part I: code in an activation whose foreign blocks may grow: what is walked in a round of a range over a function, in an iterator, and in a function that holds such a range. No condition. -/
namespace Go.AM
set_option linter.unusedVariables false
set_option linter.unusedSimpArgs false

/-- The fence of nothing, in a round or out of any. -/
def fr (ro : Option Nat) : Fence := { Fence.wide with round := ro }

theorem fr_depth {ro : Option Nat} {p : Prop} : (fr ro).depth.isSome = true → p := by intro h; simp [fr, Fence.wide] at h
theorem callsIn_fr {ro : Option Nat} {n : Nat} {P : Program} {f : FuncId} {args : Array Value} {w : World} {R : Ending → World → Prop} : CallsIn (fr ro) n P f args w R ↔ Calls P f args w R := callsIn_wide (n := n)
theorem rowsIn_fr {ro : Option Nat} {n : Nat} {P : Program} {row : String} {args : Array Value} {w : World} {R : Value → World → Prop} (h : Rows P row args w R) : RowsIn (fr ro) n P row args w R :=
  fun c cs _ => let ⟨v, w', r, s⟩ := h c cs; ⟨v, w', r, (stepsIn_wide (P := P)).2 s⟩

def noDefer (o : Oper) : Bool := match o.op with | .defer _ => false | _ => true
theorem noDefer_spec {o : Oper} (h : noDefer o = true) : ∀ c, o.op ≠ .defer c := by intro c e; simp [noDefer, e] at h

theorem wpIn_of_op {ro : Option Nat} {n : Nat} {P : Program} {o : Oper} {a : Act} {w : World} {K : Act → World → Prop} {Q : Exit → Act → World → Prop} (hd : noDefer o = true) (h : o.wp P a w K Q) : o.wpIn (fr ro) n P a w K Q := by
  refine ⟨fun _ _ => trivial, ?_⟩
  rw [Oper.semAt_eq _ _ _ (noDefer_spec hd)]
  unfold Oper.wp at h
  generalize (execOp a.eval o).run P w = r at h ⊢
  cases r with
  | ok x w' =>
    cases x with
    | value v => exact h
    | skip => exact h
    | defer d => exact h
    | enter f args => exact ⟨fr_depth, callsIn_fr.2 (Calls.mono h (fun e w'' hh => by cases e <;> exact hh))⟩
    | row r args => exact ⟨fr_depth, rowsIn_fr h⟩
    | _ => exact h.elim
  | halt x w' => cases x <;> first | exact h | exact h.elim

/-- What is known of foreign blocks: of how far one is ('AV'), the foreign blocks, the own ones, the world. 'mark': where marks may lie. -/
structure Jt : Type where
  make ::
  rel : AV → (Nat → Prop) → (Nat → Prop) → World → Prop
  mark : Nat → Prop

/-- It minds no change of own blocks. -/
def JOk (J : Jt) : Prop := ∀ y S0 O O' A A', J.rel y S0 O A → (∀ b, S0 b → b < A.heap.size) → (∀ b, O b → b < A.heap.size ∧ ¬ S0 b) → Ext O A A' → (∀ b, O' b → b < A'.heap.size ∧ (O b ∨ A.heap.size ≤ b)) → J.rel y S0 O' A'

def markOf (D : Nat) : Deferred := { target := .collected D, args := #[] }

def Marks (J : Jt) (ds : List Deferred) (S0 : Nat → Prop) (w : World) : Prop :=
  ∃ Ds : List Nat, ds = Ds.map markOf ∧ Ds.Nodup ∧ ∀ D ∈ Ds, S0 D ∧ J.mark D ∧ w.heap[D]? = some (.deferred (some []))

def bare (a : Act) : Act := { a with defers := [] }

structure SG (J : Jt) (nt : Nat) (kp : List Nat) (kv : Nat → Value) (T : Tm) (H : Hp) (a : Act) (w : World) : Prop where
  ex : ∃ S0 ρ L, Core anyB S0 nt w ρ L (look T) (hget H) (bare a) ∧ (∀ r, L r → r < H.length) ∧ J.rel (look T 999999) S0 (own ρ) w ∧ Marks J a.defers S0 w
  keep : ∀ t ∈ kp, a.tmps.getD t undef = kv t

theorem Core.owned {B S0 : Nat → Prop} {nt : Nat} {w : World} {ρ : Nat → Option Loc} {L : Nat → Prop} {T : Nat → AV} {H : Nat → Option ARow} {a : Act} (hc : Core B S0 nt w ρ L T H a) : ∀ b, own ρ b → b < w.heap.size ∧ ¬ S0 b := by
  rintro b ⟨r, l, h1, h2⟩
  exact ⟨(hc.wf.own r l b h1 h2).1, (hc.wf.own r l b h1 h2).2.1⟩

theorem Core.inB {B B' S0 : Nat → Prop} {nt : Nat} {w : World} {ρ : Nat → Option Loc} {L : Nat → Prop} {T : Nat → AV} {H : Nat → Option ARow} {a : Act} (hc : Core B S0 nt w ρ L T H a) (h1 : ∀ b, own ρ b → B' b) (h2 : ∀ b, w.heap.size ≤ b → B' b) : Core B' S0 nt w ρ L T H a :=
  ⟨⟨hc.wf.inj, fun r l b k1 k2 => ⟨(hc.wf.own r l b k1 k2).1, (hc.wf.own r l b k1 k2).2.1, h1 b ⟨r, l, k1, k2⟩⟩, hc.wf.given, hc.wf.low, h2⟩, hc.size, hc.defers, hc.tmps, hc.rows, hc.dead⟩

/-- Foreign blocks turn, and new ones come. -/
theorem Core.foreign {S0 S0' : Nat → Prop} {nt : Nat} {w w' : World} {ρ : Nat → Option Loc} {L : Nat → Prop} {T : Nat → AV} {H : Nat → Option ARow} {a : Act} (hc : Core anyB S0 nt w ρ L T H a) (hs : w.heap.size ≤ w'.heap.size)
    (hsame : ∀ b, b < w.heap.size → ¬ S0 b → w'.heap[b]? = w.heap[b]?) (hS : ∀ b, S0' b → b < w'.heap.size ∧ (S0 b ∨ w.heap.size ≤ b)) : Core anyB S0' nt w' ρ L T H a := by
  have hb : ∀ b, b < w.heap.size → ¬ Sx S0 ρ b → w'.heap[b]? = w.heap[b]? ∧ ¬ Sx S0' ρ b := by
    intro b hlt hn
    refine ⟨hsame b hlt (fun h => hn (Or.inl h)), ?_⟩
    rintro (h | h)
    · rcases (hS b h).2 with h' | h'
      · exact hn (Or.inl h')
      · omega
    · exact hn (Or.inr h)
  have hown := hc.owned
  refine ⟨⟨hc.wf.inj, fun r l b k1 k2 => ?_, hc.wf.given, fun b h => (hS b h).1, fun _ _ => trivial⟩, hc.size, hc.defers, fun t => (hc.tmps t).ext hs hb (fun r h => h) (fun r l _ h => h), fun r row hr => ?_, hc.dead⟩
  · obtain ⟨k3, k4⟩ := hown b ⟨r, l, k1, k2⟩
    refine ⟨Nat.lt_of_lt_of_le k3 hs, fun h => ?_, trivial⟩
    rcases (hS b h).2 with h' | h'
    · exact k4 h'
    · omega
  · obtain ⟨l, hl, hrow⟩ := hc.rows r row hr
    refine ⟨l, hl, hrow.ext hs hb (fun r h => h) (fun r l _ h => h) (fun b hb' => ?_)⟩
    obtain ⟨k3, k4⟩ := hown b ⟨r, l, hl, hb'⟩
    exact hsame b k3 k4

/-- A weaker saying of a state. -/
theorem Core.sub {S0 : Nat → Prop} {nt : Nat} {w : World} {ρ : Nat → Option Loc} {L : Nat → Prop} {T T' : Tm} {H H' : Hp} {a : Act} (hc : Core anyB S0 nt w ρ L (look T) (hget H) a) (hL : ∀ r, L r → r < H.length) (h : Sub nt T H T' H') :
    ∃ ρ' L', Core anyB S0 nt w ρ' L' (look T') (hget H') a ∧ (∀ r, L' r → r < H'.length) ∧ ∀ b, own ρ' b → own ρ b := by
  obtain ⟨⟨ρ', L', hc', hL'⟩, _⟩ := h w (fun b => own ρ b ∨ w.heap.size ≤ b) S0 a w ⟨⟨ρ, L, hc.inB (fun b => Or.inl) (fun b => Or.inr), hL⟩, Ext.refl _ _⟩
  refine ⟨ρ', L', hc'.inB (fun _ _ => trivial) (fun _ _ => trivial), hL', ?_⟩
  rintro b ⟨r, l, h1, h2⟩
  obtain ⟨h3, _, h4⟩ := hc'.wf.own r l b h1 h2
  rcases h4 with h4 | h4
  · exact h4
  · omega

def GSub (nt : Nat) (T : Tm) (H : Hp) (T' : Tm) (H' : Hp) : Prop := Sub nt T H T' H' ∧ look T' 999999 = look T 999999

theorem SG.sub {J : Jt} (hJ : JOk J) {nt : Nat} {kp : List Nat} {kv : Nat → Value} {T T' : Tm} {H H' : Hp} {a : Act} {w : World} (hs : SG J nt kp kv T H a w) (h : GSub nt T H T' H') : SG J nt kp kv T' H' a w := by
  obtain ⟨⟨S0, ρ, L, hc, hL, hj, hm⟩, hk⟩ := hs
  obtain ⟨ρ', L', hc', hL', ho⟩ := hc.sub hL h.1
  refine ⟨⟨S0, ρ', L', hc', hL', ?_, hm⟩, hk⟩
  rw [h.2]
  exact hJ _ _ _ _ _ _ hj hc.wf.low hc.owned (Ext.refl _ _) (fun b hb => ⟨(hc'.owned b hb).1, Or.inl (ho b hb)⟩)

def keepOk (kp : List Nat) (dsts : List (Option Tmp)) : Bool := dsts.all fun d => match d with | none => true | some d => !kp.contains d

theorem keepOk_spec {kp : List Nat} {dsts : List (Option Tmp)} (h : keepOk kp dsts = true) {d : Tmp} (hd : some d ∈ dsts) : ∀ t ∈ kp, d ≠ t := by
  intro t ht e
  subst e
  simp only [keepOk, List.all_eq_true] at h
  have := h _ hd
  simp only [Bool.not_eq_true', List.contains_eq_mem, decide_eq_false_iff_not] at this
  exact this ht

theorem SG.post {J : Jt} (hJ : JOk J) {nt : Nat} {kp : List Nat} {kv : Nat → Value} {T : Tm} {H : Hp} {a : Act} {w : World} {S0 : Nat → Prop} {ρ : Nat → Option Loc} {L : Nat → Prop} (hc : Core anyB S0 nt w ρ L (look T) (hget H) (bare a)) (hL : ∀ r, L r → r < H.length) (hj : J.rel (look T 999999) S0 (own ρ) w) (hm : Marks J a.defers S0 w) (hk : ∀ t ∈ kp, a.tmps.getD t undef = kv t)
    (hnt : nt ≤ 999999) {e : Eff} {v : Value} {w' : World} {ρ' : Nat → Option Loc} {dst : Option Tmp} (hp : Post anyB S0 w ρ L H.length e w' ρ' v)
    (hd : ∀ d, dst = some d → d < nt) (hkp : ∀ d, dst = some d → ∀ t ∈ kp, d ≠ t) (hin : upsIn H e.ups) (ho : upsOnce e.ups = true) : SG J nt kp kv (putT T dst e.av) (happ H e.ups) (a.put dst v) w' := by
  have hN : NewOk L H.length e := fun r hr _ h => Nat.lt_irrefl _ (Nat.lt_of_le_of_lt hr (hL r h))
  refine ⟨⟨S0, ρ', nL L e, ?_, ?_, ?_, ?_⟩, ?_⟩
  · have := hc.step (dst := dst) (T' := look (putT T dst e.av)) (H' := hget (happ H e.ups)) hN hp hd (fun t => look_putT T dst e.av t) (fun k => hget_happ e.ups H hin ho k)
    have e1 : bare (a.put dst v) = (bare a).put dst v := by cases dst <;> rfl
    rw [e1]; exact this
  · obtain ⟨h1, h2⟩ := length_happ e.ups H hin
    rintro r (hr | ⟨o', hr⟩)
    · exact Nat.lt_of_lt_of_le (hL r hr) h1
    · exact h2 r o' hr
  · have hy : look (putT T dst e.av) 999999 = look T 999999 := by
      rw [look_putT, if_neg]
      intro e'
      exact absurd (hd 999999 e') (Nat.not_lt.2 hnt)
    rw [hy]
    refine hJ _ _ _ _ _ _ hj hc.wf.low hc.owned (hp.ext.mono (by rintro b hb ⟨r, l, o', _, h1, h2⟩; exact ⟨r, l, h1, h2⟩)) ?_
    rintro b ⟨r, l, h1, h2⟩
    refine ⟨(hp.wf.own r l b h1 h2).1, ?_⟩
    rcases hp.only r l h1 with h3 | ⟨_, _, h3⟩
    · exact Or.inl ⟨r, l, h3, h2⟩
    · rcases h3 b h2 with h4 | ⟨r0, l0, q1, q2⟩
      · exact Or.inr h4
      · exact Or.inl ⟨r0, l0, q1, q2⟩
  · obtain ⟨Ds, h1, h2, h3⟩ := hm
    have e1 : (a.put dst v).defers = a.defers := by cases dst <;> rfl
    rw [e1]
    refine ⟨Ds, h1, h2, fun D hD => ⟨(h3 D hD).1, (h3 D hD).2.1, ?_⟩⟩
    rw [hp.ext.block D (hc.wf.low D (h3 D hD).1), (h3 D hD).2.2]
    rintro ⟨r, l, o', _, q1, q2⟩
    exact (hc.wf.own r l D q1 q2).2.1 (h3 D hD).1
  · intro t ht
    have hsz : a.tmps.size = nt := hc.size
    rw [getD_put a dst v t (by rw [hsz]; exact hd), if_neg (fun e' => hkp _ e' t ht rfl)]
    exact hk t ht

theorem SG.step {J : Jt} (hJ : JOk J) {P : Program} {ops : Array Oper} {o : Oper} {nt : Nat} {kp : List Nat} {kv : Nat → Value} {T : Tm} {H : Hp} {a : Act} {w : World} (hs : SG J nt kp kv T H a w) (hnt : nt ≤ 999999) {e : Eff} (hst : StepOk P ops o (look T) (hget H) H.length e)
    (hd : ∀ d, o.dst = some d → d < nt) (hkp : ∀ d, o.dst = some d → ∀ t ∈ kp, d ≠ t) (hin : upsIn H e.ups) (ho : upsOnce e.ups = true) {K : Act → World → Prop} {Q : Exit → Act → World → Prop}
    (hK : ∀ a' w', SG J nt kp kv (putT T o.dst e.av) (happ H e.ups) a' w' → K a' w') : if Region.wanted o (yielded ops a.tmps) then o.wp P a w K Q else K (a.put o.dst undef) w := by
  obtain ⟨⟨S0, ρ, L, hc, hL, hj, hm⟩, hk⟩ := hs
  have hN : NewOk L H.length e := fun r hr _ h => Nat.lt_irrefl _ (Nat.lt_of_le_of_lt hr (hL r h))
  exact hst anyB S0 a w ρ L hc.wf hN (fun t _ => hc.tmps t) (fun r _ row hr => hc.rows r row hr) K Q (fun v w' ρ' hp => hK _ _ (SG.post hJ hc hL hj hm hk hnt hp hd hkp hin ho))

/-- CODE in such an activation. -/
def GWp (P : Program) (ro : Option Nat) (J : Jt) (nt : Nat) (kp : List Nat) (c : Code) (T : Tm) (H : Hp) (Q : Exit → Tm → Hp → Prop) : Prop :=
  JOk J → ∀ kv a w, SG J nt kp kv T H a w → c.wpIn (fr ro) 0 P (fun e a' w' => ∃ T' H', Q e T' H' ∧ SG J nt kp kv T' H' a' w') a w

section
variable {P : Program} {ro : Option Nat} {J : Jt} {nt : Nat} {kp : List Nat} {T : Tm} {H : Hp} {Q : Exit → Tm → Hp → Prop}

theorem gwp_mono {c : Code} {Q' : Exit → Tm → Hp → Prop} (h : GWp P ro J nt kp c T H Q) (hq : ∀ e T H, Q e T H → Q' e T H) : GWp P ro J nt kp c T H Q' :=
  fun hJ kv a w hs => wpIn_mono (h hJ kv a w hs) fun e a' w' ⟨T', H', q, s⟩ => ⟨T', H', hq _ _ _ q, s⟩

theorem gwp_weak {c : Code} {T' : Tm} {H' : Hp} (hs : GSub nt T H T' H') (h : GWp P ro J nt kp c T' H' Q) : GWp P ro J nt kp c T H Q :=
  fun hJ kv a w s => h hJ kv a w (s.sub hJ hs)

theorem gwp_skip (h : Q .normal T H) : GWp P ro J nt kp .skip T H Q := fun hJ kv a w hs => wpIn_skip ⟨T, H, h, hs⟩
theorem gwp_ret (h : Q .ret T H) : GWp P ro J nt kp .ret T H Q := fun hJ kv a w hs => wpIn_ret ⟨T, H, h, hs⟩
theorem gwp_exit {id : Nat} (h : Q (.exit id) T H) : GWp P ro J nt kp (.exit id) T H Q := fun hJ kv a w hs => wpIn_exit ⟨T, H, h, hs⟩

theorem gwp_seq {x y : Code} (h : GWp P ro J nt kp x T H (thenA (fun T' H' => GWp P ro J nt kp y T' H' Q) Q)) : GWp P ro J nt kp (.seq x y) T H Q := by
  intro hJ kv a w hs
  refine wpIn_seq (wpIn_mono (h hJ kv a w hs) ?_)
  rintro e a' w' ⟨T', H', q, s⟩
  cases e with
  | normal => exact q hJ kv a' w' s
  | exit id => exact ⟨T', H', q, s⟩
  | goto l => exact ⟨T', H', q, s⟩
  | ret => exact ⟨T', H', q, s⟩
  | panic c => exact ⟨T', H', q, s⟩
  | outgrown => exact ⟨T', H', q, s⟩

theorem gwp_seq_k {x y : Code} (h : ∀ K : Tm → Hp → Prop, (∀ T' H', GWp P ro J nt kp y T' H' Q → K T' H') → GWp P ro J nt kp x T H (thenA K Q)) : GWp P ro J nt kp (.seq x y) T H Q :=
  gwp_seq (h _ fun _ _ h => h)

theorem gwp_block {id : Nat} {c : Code} (h : GWp P ro J nt kp c T H (inBlockA id Q)) : GWp P ro J nt kp (.block id c) T H Q := by
  intro hJ kv a w hs
  refine wpIn_block (wpIn_mono (h hJ kv a w hs) ?_)
  rintro e a' w' ⟨T', H', q, s⟩
  cases e with
  | exit k =>
    simp only [inBlockA] at q
    simp only [Exit.inBlock]
    split
    · rename_i e; rw [if_pos e] at q; exact ⟨T', H', q, s⟩
    · rename_i e; rw [if_neg e] at q; exact ⟨T', H', q, s⟩
  | normal => exact ⟨T', H', q, s⟩
  | goto l => exact ⟨T', H', q, s⟩
  | ret => exact ⟨T', H', q, s⟩
  | panic c => exact ⟨T', H', q, s⟩
  | outgrown => exact ⟨T', H', q, s⟩

theorem gwp_cond {c : Operand} {x y : Code} {b : Bool} (hc : evT (look T) c = .v (.bool b)) (hx : b = true → GWp P ro J nt kp x T H Q) (hy : b = false → GWp P ro J nt kp y T H Q) : GWp P ro J nt kp (.cond c x y) T H Q := by
  intro hJ kv a w hs
  have hv : a.eval c = .bool b := by
    obtain ⟨⟨S0, ρ, L, hc', _⟩, _⟩ := hs
    cases c with
    | tmp t =>
      have := hc'.tmps t
      simp only [evT] at hc
      rw [hc] at this
      exact exact_v this
    | const v =>
      simp only [evT] at hc
      have := constAV_rep (w := w) (S := fun _ => False) v
      rw [hc] at this
      cases this
      rfl
    | global g => simp only [evT] at hc; cases hc
    | func f => simp only [evT] at hc; cases hc
  exact wpIn_cond_split hv (fun h => hx h hJ kv a w hs) (fun h => hy h hJ kv a w hs)

/-- Ways out of a region that are none. -/
def onlyNormal (R : Act → World → Prop) : Exit → Act → World → Prop
  | .normal => R
  | _ => fun _ _ => False

theorem vcOps_soundG (hJ : JOk J) (hnt : nt ≤ 999999) {ops : Array Oper} {dsts : List (Option Tmp)} (hd : ∀ j : Nat, dsts[j]? = (ops[j]?).map (·.dst)) (hkp : keepOk kp dsts = true) {kv : Nat → Value} {QQ : Exit → Act → World → Prop} {K : Tm → Hp → Prop}
    (hK : ∀ T H a w, K T H → SG J nt kp kv T H a w → QQ .normal a w) : ∀ (l : List Oper) (hl : ∀ o ∈ l, noDefer o = true ∧ o.dst ∈ dsts) (T : Tm) (H : Hp) (a : Act) (w : World), vcOps P nt dsts l T H K → SG J nt kp kv T H a w → wpListIn (fr ro) 0 P ops QQ l a w
  | [], _, T, H, a, w, h, hs => hK T H a w h hs
  | o :: rest, hl, T, H, a, w, h, hs => by
    obtain ⟨e, hst, h1, h2, h3, h4⟩ := vcGuard_sound hd h (fun _ => trivial)
    have := hs.step (K := wpListIn (fr ro) 0 P ops QQ rest) (Q := QQ) hJ hnt hst (fun d hd => by rw [hd] at h1; exact h1) (fun d hd' => keepOk_spec hkp (by rw [← hd']; exact (hl o (by simp)).2)) h2 h3
      (fun a' w' hs' => vcOps_soundG hJ hnt hd hkp hK rest (fun o ho => hl o (by simp [ho])) _ _ a' w' h4 hs')
    unfold wpListIn
    split
    · rename_i hw; rw [if_pos hw] at this; exact wpIn_of_op (hl o (by simp)).1 this
    · rename_i hw; rw [if_neg hw] at this; exact ⟨fun _ _ => trivial, this⟩

theorem gwp_region {id : Nat} {l : List Oper} {dsts : List (Option Tmp)} (hd : l.map (·.dst) = dsts) (hnt : nt ≤ 999999) (hkp : keepOk kp dsts = true) (hnd : l.all noDefer = true) (h : vcOps P nt dsts l T H (Q .normal)) : GWp P ro J nt kp (.region id l.toArray false) T H Q := by
  intro hJ kv a w hs
  refine wpIn_region_lit ?_
  refine vcOps_soundG hJ hnt (ops := l.toArray) (dsts := dsts) (K := Q .normal) (by intro j; rw [← hd]; simp) hkp (fun T H a w q s => ⟨T, H, q, s⟩) l (fun o ho => ⟨List.all_eq_true.1 hnd o ho, by rw [← hd]; exact List.mem_map_of_mem ho⟩) T H a w h hs

theorem wpAnyIn_of {ops : Array Oper} {R : Act → World → Prop} (hnd : ∀ o ∈ ops.toList, noDefer o = true) : ∀ (fuel : Nat) (listed : Array Bool) (a : Act) (w : World), wpAny P .any ops (onlyNormal R) fuel listed a w → wpAnyIn (fr ro) 0 P .any ops (onlyNormal R) fuel listed a w := by
  intro fuel
  induction fuel with
  | zero => intro listed a w h; exact h
  | succ fuel ih =>
    intro listed a w h
    refine ⟨h.1, fun i hi => ?_⟩
    have h2 := h.2 i hi
    unfold wpOp at h2
    unfold wpOpIn
    split
    · rename_i ho; rw [ho] at h2; exact ih _ _ _ h2
    · rename_i o ho
      rw [ho] at h2
      simp only at h2
      split
      · rename_i hw
        rw [if_pos hw] at h2
        rcases h2 with h2 | ⟨_, ⟨_, _, h2⟩⟩
        · exact wpIn_of_op (hnd o (by have := Array.mem_of_getElem? ho; simpa using this)) (Oper.wp_mono (fun a w => ih _ a w) h2)
        · exact h2.elim
      · rename_i hw
        rw [if_neg hw] at h2
        exact ⟨fun _ _ => trivial, ih _ _ _ h2⟩

theorem gwp_loop {c : Code} {α : Type} (st : α → Tm × Hp) (inv : α → Prop) (μ : α → Nat) (x0 : α) (h0 : inv x0) (hs0 : GSub nt T H (st x0).1 (st x0).2)
    (round : ∀ x, inv x → GWp P ro J nt kp c (st x).1 (st x).2 (thenA (fun T' H' => ∃ y, inv y ∧ μ y < μ x ∧ GSub nt T' H' (st y).1 (st y).2) Q)) : GWp P ro J nt kp (.loop c) T H Q := by
  intro hJ kv a w hs b k cs hro hb hr
  have key : ∀ n x a w, μ x = n → inv x → SG J nt kp kv (st x).1 (st x).2 a w →
      ∃ e a' w', (∃ T' H', Q e T' H' ∧ SG J nt kp kv T' H' a' w') ∧ ArrivesIn (Machine.fenced P (fr ro)) P (lone (b.atR a (.code c :: .inLoop c :: k)) cs w) b k cs e a' w' := by
    intro n
    induction n using Nat.strongRecOn with
    | _ n ih =>
      intro x a w hn hI hst
      obtain ⟨e, a₁, w₁, ⟨T1, H1, hq, hst1⟩, harr⟩ := round x hI hJ kv a w hst b (.inLoop c :: k) cs hro hb hr
      cases e with
      | normal =>
        obtain ⟨y, hy, hlt, hsub⟩ := hq
        obtain ⟨e₂, a₂, w₂, hq₂, harr₂⟩ := ih (μ y) (hn ▸ hlt) y a₁ w₁ rfl hy (hst1.sub hJ hsub)
        exact ⟨e₂, a₂, w₂, hq₂, .of_steps (StepsIn.trans harr (.one (fenced_calm hb hr rfl) stepR_inLoop)) harr₂⟩
      | exit id => exact ⟨_, a₁, w₁, ⟨T1, H1, hq, hst1⟩, .pass (x := .inLoop c) rfl (fun _ _ => .inl (by simp)) harr⟩
      | goto l => exact ⟨_, a₁, w₁, ⟨T1, H1, hq, hst1⟩, .pass (x := .inLoop c) rfl (fun _ _ => .inl (by simp)) harr⟩
      | ret => exact ⟨_, a₁, w₁, ⟨T1, H1, hq, hst1⟩, .pass (x := .inLoop c) rfl (fun _ _ => .inl (by simp)) harr⟩
      | panic ch => exact ⟨_, a₁, w₁, ⟨T1, H1, hq, hst1⟩, .pass (x := .inLoop c) rfl (fun _ _ => .inl (by simp)) harr⟩
      | outgrown => exact ⟨_, a₁, w₁, ⟨T1, H1, hq, hst1⟩, .pass (x := .inLoop c) rfl (fun _ _ => .inl (by simp)) harr⟩
  obtain ⟨e, a', w', hq, harr⟩ := key _ x0 a w rfl h0 (hs.sub hJ hs0)
  exact ⟨e, a', w', hq, .of_steps (.one (fenced_calm hb hr rfl) stepR_loop) harr⟩
end
end Go.AM
/- The abstract machine, part J: regions that draw their order, in such an activation. No condition. -/
namespace Go.AM
set_option linter.unusedVariables false
set_option linter.unusedSimpArgs false

theorem bare_put (a : Act) (d : Option Tmp) (v : Value) : bare (a.put d v) = (bare a).put d v := by cases d <;> rfl
theorem put_defers (a : Act) (d : Option Tmp) (v : Value) : (a.put d v).defers = a.defers := by cases d <;> rfl
theorem put_other (a : Act) (d : Option Tmp) (v : Value) (t : Nat) (h : d ≠ some t) : (a.put d v).tmps.getD t undef = a.tmps.getD t undef := by
  cases d with
  | none => rfl
  | some d => simp only [Act.put, Array.getD_eq_getD_getElem?]; rw [Array.getElem?_setIfInBounds_ne (fun e => h (by rw [e]))]

theorem post_rest {J : Jt} (hJ : JOk J) {S0 : Nat → Prop} {nt : Nat} {w : World} {ρ : Nat → Option Loc} {L : Nat → Prop} {T : Nat → AV} {H : Nat → Option ARow} {a : Act} (hc : Core anyB S0 nt w ρ L T H (bare a)) {y : AV} (hj : J.rel y S0 (own ρ) w) (hm : Marks J a.defers S0 w)
    {N : Nat} {e : Eff} {w' : World} {ρ' : Nat → Option Loc} {v : Value} (hp : Post anyB S0 w ρ L N e w' ρ' v) : J.rel y S0 (own ρ') w' ∧ Marks J a.defers S0 w' := by
  constructor
  · refine hJ _ _ _ _ _ _ hj hc.wf.low hc.owned (hp.ext.mono (by rintro b hb ⟨r, l, o', _, h1, h2⟩; exact ⟨r, l, h1, h2⟩)) ?_
    rintro b ⟨r, l, h1, h2⟩
    refine ⟨(hp.wf.own r l b h1 h2).1, ?_⟩
    rcases hp.only r l h1 with h3 | ⟨_, _, h3⟩
    · exact Or.inl ⟨r, l, h3, h2⟩
    · rcases h3 b h2 with h4 | ⟨r0, l0, q1, q2⟩
      · exact Or.inr h4
      · exact Or.inl ⟨r0, l0, q1, q2⟩
  · obtain ⟨Ds, h1, h2, h3⟩ := hm
    refine ⟨Ds, h1, h2, fun D hD => ⟨(h3 D hD).1, (h3 D hD).2.1, ?_⟩⟩
    rw [hp.ext.block D (hc.wf.low D (h3 D hD).1), (h3 D hD).2.2]
    rintro ⟨r, l, o', _, q1, q2⟩
    exact (hc.wf.own r l D q1 q2).2.1 (h3 D hD).1

theorem Core.stepb {S0 : Nat → Prop} {nt : Nat} {w : World} {ρ : Nat → Option Loc} {L : Nat → Prop} {T T' : Nat → AV} {H H' : Nat → Option ARow} {a : Act} (hc : Core anyB S0 nt w ρ L T H (bare a)) {N : Nat} {e : Eff} {w' : World} {ρ' : Nat → Option Loc} {v : Value} {dst : Option Tmp}
    (hN : NewOk L N e) (hp : Post anyB S0 w ρ L N e w' ρ' v) (hd : ∀ k, dst = some k → k < nt)
    (hT : ∀ t, T' t = if dst = some t then e.av else T t) (hH : ∀ k, (∀ o, (k, o) ∈ e.ups → H' k = o) ∧ ((∀ o, (k, o) ∉ e.ups) → H' k = H k)) :
    Core anyB S0 nt w' ρ' (nL L e) T' H' (bare (a.put dst v)) := by
  rw [bare_put]; exact hc.step hN hp hd hT hH

theorem wpIn_monoQ {F : Fence} {n : Nat} {P : Program} {o : Oper} {a : Act} {w : World} {K : Act → World → Prop} {Q Q' : Exit → Act → World → Prop} (hq : ∀ e a w, Q e a w → Q' e a w) (h : o.wpIn F n P a w K Q) : o.wpIn F n P a w K Q' := by
  refine ⟨h.1, ?_⟩
  have h := h.2
  generalize (o.semAt F.round a.eval).run P w = r at h ⊢
  cases r with
  | ok x w' =>
    cases x with
    | enter f args => exact ⟨h.1, h.2.mono fun e w'' hh => by cases e <;> first | exact hh | exact hq _ _ _ hh | (obtain ⟨a, w, hh⟩ := hh; exact ⟨a, w, hq _ _ _ hh⟩)⟩
    | round l f t as bd => exact ⟨h.1, h.2.mono fun e w'' hh => by cases e <;> first | exact hh | exact hq _ _ _ hh | (obtain ⟨a, w, hh⟩ := hh; exact ⟨a, w, hq _ _ _ hh⟩)⟩
    | _ => exact h
  | halt x w' => cases x <;> first | exact hq _ _ _ h | exact h

theorem wpAnyIn_monoQ {F : Fence} {n : Nat} {P : Program} {ops : Array Oper} {Q Q' : Exit → Act → World → Prop} (hq : ∀ e a w, Q e a w → Q' e a w) : ∀ (fuel : Nat) (listed : Array Bool) (a : Act) (w : World), wpAnyIn F n P .any ops Q fuel listed a w → wpAnyIn F n P .any ops Q' fuel listed a w := by
  intro fuel
  induction fuel with
  | zero => intro listed a w h; exact ⟨h.1, hq _ _ _ h.2⟩
  | succ fuel ih =>
    intro listed a w h
    refine ⟨fun e => hq _ _ _ (h.1 e), fun i hi => ?_⟩
    have h2 := h.2 i hi
    unfold wpOpIn at h2 ⊢
    split
    · rename_i ho; rw [ho] at h2; exact ih _ _ _ h2
    · rename_i o ho
      rw [ho] at h2
      simp only at h2
      split
      · rename_i hw
        rw [if_pos hw] at h2
        exact wpIn_monoQ hq (Oper.wpIn_mono (fun a w => ih _ a w) h2)
      · rename_i hw
        rw [if_neg hw] at h2
        exact ⟨h2.1, ih _ _ _ h2.2⟩

section
variable {P : Program} {nt : Nat} {dsts : List (Option Tmp)} {l : List Oper} {Ts : Nat → Tm} {Hs : Nat → Hp} {es : Nat → Eff} {J : Jt} {ro : Option Nat} {kp : List Nat}

theorem draw_soundG (hJ : JOk J) (hnt : nt ≤ 999999) {kp : List Nat} (hkp : keepOk kp dsts = true) {kv : Nat → Value} (hlex : Lex P nt l.toArray dsts l Ts Hs es) (hdst : l.map (·.dst) = dsts)
    (hB : drawB l (l.zipIdx.map fun (p : Oper × Nat) => trOf dsts p.1 (es p.2)) = true) {Q : Exit → Act → World → Prop}
    (hQ : ∀ a w, SG J nt kp kv (Ts l.length) (Hs l.length) a w → Q .normal a w) {a : Act} {w : World} (hs : SG J nt kp kv (Ts 0) (Hs 0) a w) :
    wpAny P .any l.toArray Q l.toArray.size (Array.replicate l.toArray.size false) a w := by
  have hy : ∀ k, k ≤ l.length → look (Ts k) 999999 = look (Ts 0) 999999 := by
    intro k
    induction k with
    | zero => intro _; rfl
    | succ k ih =>
      intro hk
      obtain ⟨_, hdk, _, _, hts, _⟩ := hlex.ok k _ (List.getElem?_eq_getElem (by omega))
      rw [hts, look_putT, if_neg, ih (by omega)]
      intro e'
      rw [e'] at hdk
      exact absurd hdk (Nat.not_lt.2 hnt)
  have hmem : ∀ (i : Nat) o, l[i]? = some o → ∀ d, o.dst = some d → ∀ t ∈ kp, d ≠ t := by
    intro i o ho d hd
    refine keepOk_spec hkp ?_
    rw [← hdst, ← hd]
    exact List.mem_map_of_mem (List.mem_of_getElem? ho)
  obtain ⟨hback, hconf⟩ := Bool.and_eq_true_iff.1 hB
  simp only [List.all_eq_true, List.mem_range] at hconf
  have htr : ∀ (k : Nat) o, l[k]? = some o → ((l.zipIdx.map fun (p : Oper × Nat) => trOf dsts p.1 (es p.2)).getD k ([], [])) = trOf dsts o (es k) := by
    intro k o hk
    rw [List.getD_eq_getElem?_getD, List.getElem?_map, List.getElem?_zipIdx, hk]
    simp
  -- who touches what another one writes is ordered
  have hord : ∀ (j k : Nat) oj ok, j < k → l[j]? = some oj → l[k]? = some ok → (∃ x, (x ∈ (trOf dsts oj (es j)).2 ∧ x ∈ (trOf dsts ok (es k)).1) ∨ (x ∈ (trOf dsts ok (es k)).2 ∧ x ∈ (trOf dsts oj (es j)).1)) →
      ∀ D, Down l.toArray D → D k = true → D j = true := by
    intro j k oj ok hjk hj hk hx D hD hDk
    have hkl : k < l.length := (List.getElem?_eq_some_iff.1 hk).1
    have h1 := hconf k hkl j hjk
    rw [htr j oj hj, htr k ok hk] at h1
    have hc : confl (trOf dsts oj (es j)) (trOf dsts ok (es k)) = true := by
      simp only [confl, Bool.or_eq_true, List.any_eq_true, List.contains_iff_mem]
      obtain ⟨x, hx | hx⟩ := hx
      · exact Or.inl ⟨x, hx.1, hx.2⟩
      · exact Or.inr ⟨x, hx.1, hx.2⟩
    rw [hc] at h1
    simp only [Bool.not_true, Bool.false_or] at h1
    exact clos_spec hD l [] (by simp) (by simp) k j hDk h1
  have hlen : ∀ i j, i ≤ j → j ≤ l.length → (Hs i).length ≤ (Hs j).length := by
    intro i j hij
    induction j with
    | zero => intro _; have : i = 0 := by omega
              subst this; exact Nat.le_refl _
    | succ j ih =>
      intro hj
      by_cases e : i = j + 1
      · subst e; exact Nat.le_refl _
      · have hjl : j < l.length := by omega
        obtain ⟨_, _, hin, _, _, hh⟩ := hlex.ok j _ (List.getElem?_eq_getElem hjl)
        rw [hh]
        exact Nat.le_trans (ih (by omega) (by omega)) (length_happ _ _ hin).1
  have hupl : ∀ k r o, k < l.length → (r, o) ∈ (es k).ups → r < (Hs (k + 1)).length := by
    intro k r o hk hm
    obtain ⟨_, _, hin, _, _, hh⟩ := hlex.ok k _ (List.getElem?_eq_getElem hk)
    rw [hh]
    exact (length_happ _ _ hin).2 r o hm
  let vS : (Nat → Bool) → Nat → AV := fun D t => lastv D (wS l t) (fun k => look (Ts k) t) l.length
  let vR : (Nat → Bool) → Nat → Option ARow := fun D r => lastv D (wR es r) (fun k => hget (Hs k) r) l.length
  have keepS : ∀ t k, k < l.length → wS l t k = false → look (Ts (k + 1)) t = look (Ts k) t := by
    intro t k hk hw
    have ho := List.getElem?_eq_getElem hk
    obtain ⟨_, _, _, _, ht, _⟩ := hlex.ok k _ ho
    rw [ht, look_putT, if_neg]
    intro e
    rw [(wS_iff ho).2 e] at hw
    cases hw
  have keepR : ∀ r k, k < l.length → wR es r k = false → hget (Hs (k + 1)) r = hget (Hs k) r := by
    intro r k hk hw
    obtain ⟨_, _, hin, hon, _, hh⟩ := hlex.ok k _ (List.getElem?_eq_getElem hk)
    rw [hh]
    refine (hget_happ _ _ hin hon r).2 (fun o hm => ?_)
    rw [wR_iff.2 ⟨o, hm⟩] at hw
    cases hw
  -- what holds when 'D' has been done
  let Inv : (Nat → Bool) → Act → World → Prop := fun D a w => (∃ S0 ρ L, Core anyB S0 nt w ρ L (vS D) (vR D) (bare a) ∧ (∀ r, L r → r < (Hs 0).length ∨ ∃ k, k < l.length ∧ D k = true ∧ wR es r k = true) ∧ J.rel (look (Ts 0) 999999) S0 (own ρ) w ∧ Marks J a.defers S0 w) ∧ ∀ t ∈ kp, a.tmps.getD t undef = kv t
  have step : ∀ (D : Nat → Bool) (i : Nat) (o : Oper) (a : Act) (w : World) (K : Act → World → Prop), Down l.toArray D → Down l.toArray (fun k => D k || k == i) → l[i]? = some o → D i = false → Inv D a w →
      (∀ a' w', Inv (fun k => D k || k == i) a' w' → K a' w') → if Region.wanted o (yielded l.toArray a.tmps) then o.wp P a w K Q else K (a.put o.dst undef) w := by
    intro D i o a w K hD hD' ho hDi hinv hK
    obtain ⟨⟨S0, ρ, L, hc, hL, hj, hmk⟩, hkeep⟩ := hinv
    have hil : i < l.length := (List.getElem?_eq_some_iff.1 ho).1
    obtain ⟨hst, hdk, hin, hon, hts, hhs⟩ := hlex.ok i o ho
    -- of a place that 'i' touches: the others that write it are ordered
    have ordS : ∀ t, 2 * t ∈ (trOf dsts o (es i)).1 → ∀ k, k < l.length → wS l t k = true → (D k = true ↔ k < i) := by
      intro t ht k hk hw
      have hok := List.getElem?_eq_getElem hk
      have hwd := (wS_iff hok).1 hw
      have hmem : 2 * t ∈ (trOf dsts l[k] (es k)).2 := by simp [trOf, hwd, dstOf]
      rcases Nat.lt_trichotomy k i with h | h | h
      · have := hord k i _ o h hok ho ⟨2 * t, Or.inl ⟨hmem, ht⟩⟩ _ hD' (by simp)
        simp only [Bool.or_eq_true, beq_iff_eq] at this
        exact ⟨fun _ => h, fun _ => this.resolve_right (by omega)⟩
      · subst h; simp [hDi]
      · refine ⟨fun hDk => ?_, fun hlt => by omega⟩
        have := hord i k o _ h ho hok ⟨2 * t, Or.inr ⟨hmem, ht⟩⟩ _ hD hDk
        rw [hDi] at this; cases this
    have ordR : ∀ r, 2 * r + 1 ∈ (trOf dsts o (es i)).1 → ∀ k, k < l.length → wR es r k = true → (D k = true ↔ k < i) := by
      intro r hr k hk hw
      have hok := List.getElem?_eq_getElem hk
      obtain ⟨q, hm⟩ := wR_iff.1 hw
      have hmem : 2 * r + 1 ∈ (trOf dsts l[k] (es k)).2 := by simp only [trOf, List.mem_append]; exact Or.inr (ups_mem hm)
      rcases Nat.lt_trichotomy k i with h | h | h
      · have := hord k i _ o h hok ho ⟨2 * r + 1, Or.inl ⟨hmem, hr⟩⟩ _ hD' (by simp)
        simp only [Bool.or_eq_true, beq_iff_eq] at this
        exact ⟨fun _ => h, fun _ => this.resolve_right (by omega)⟩
      · subst h; simp [hDi]
      · refine ⟨fun hDk => ?_, fun hlt => by omega⟩
        have := hord i k o _ h ho hok ⟨2 * r + 1, Or.inr ⟨hmem, hr⟩⟩ _ hD hDk
        rw [hDi] at this; cases this
    have hdm : ∀ t, o.dst = some t → 2 * t ∈ (trOf dsts o (es i)).1 := by intro t ht; simp [trOf, ht, dstOf]
    have hum : ∀ r q, (r, q) ∈ (es i).ups → 2 * r + 1 ∈ (trOf dsts o (es i)).1 := by
      intro r q hm; simp only [trOf, List.mem_append]; exact Or.inr (Or.inr (Or.inr (Or.inr (ups_mem hm))))
    have hrm : ∀ r, r ∈ (es i).reads → 2 * r + 1 ∈ (trOf dsts o (es i)).1 := by
      intro r hm; simp only [trOf, List.mem_append]; exact Or.inr (Or.inr (Or.inr (Or.inl (reads_mem hm))))
    have hsm : ∀ t ∈ o.looksAt l.toArray, 2 * t ∈ (trOf dsts o (es i)).1 := by
      intro t ht
      simp only [Oper.looksAt, List.mem_append, List.mem_filterMap] at ht
      simp only [trOf, List.mem_append]
      rcases ht with ⟨x, hx, hxt⟩ | ht
      · left
        cases x with
        | tmp t' => simp only [Option.some.injEq] at hxt; subst hxt; exact tmps_mem hx
        | _ => cases hxt
      · right; left
        cases hg : o.guard with
        | none => rw [hg] at ht; cases ht
        | some g =>
          obtain ⟨j, want⟩ := g
          rw [hg] at ht
          simp only [Option.mem_toList] at ht
          simp only [guardOf]
          have : dsts[j]? = some (some t) := by
            rw [← hdst, List.getElem?_map]
            cases hj : l[j]? with
            | none => simp [hj] at ht
            | some oj => simp [hj] at ht; simp [ht]
          rw [this]; simp
    have vS_at : ∀ t, 2 * t ∈ (trOf dsts o (es i)).1 → vS D t = look (Ts i) t := fun t ht => lastv_eq l.length i (by omega) (keepS t) (ordS t ht)
    have vR_at : ∀ r, 2 * r + 1 ∈ (trOf dsts o (es i)).1 → vR D r = hget (Hs i) r := fun r hr => lastv_eq l.length i (by omega) (keepR r) (ordR r hr)
    have hN : NewOk L (Hs i).length (es i) := by
      rintro r hr ⟨q, hm⟩ hLN
      rcases hL r hLN with h | ⟨k, hk, hDk, hw⟩
      · have := hlen 0 i (by omega) (by omega); omega
      · have hlt := (ordR _ (hum _ q hm) k hk hw).1 hDk
        obtain ⟨q', hm'⟩ := wR_iff.1 hw
        have h1 := hupl k _ q' hk hm'
        have h2 := hlen (k + 1) i (by omega) (by omega)
        omega
    have hnew : ∀ (wr : Nat → Bool), (∀ k, k < l.length → wr k = true → (D k = true ↔ k < i)) → ∀ k, k < l.length → wr k = true → ((D k || k == i) = true ↔ k < i + 1) := by
      intro wr h k hk hw
      have := h k hk hw
      simp only [Bool.or_eq_true, beq_iff_eq, this]
      omega
    refine hst anyB S0 a w ρ L hc.wf hN (fun t ht => by rw [← vS_at t (hsm t ht)]; exact hc.tmps t) (fun r hr row hrow => hc.rows r row (by rw [vR_at r (hrm r hr)]; exact hrow)) K Q (fun v w' ρ' hp => hK _ _ ⟨⟨S0, ρ', nL L (es i), Core.stepb hc hN hp (fun d hd => by rw [hd] at hdk; exact hdk) (fun t => ?_) (fun r => ⟨fun q hm => ?_, fun hno => ?_⟩), ?_, (post_rest hJ hc hj hmk hp).1, by rw [put_defers]; exact (post_rest hJ hc hj hmk hp).2⟩, fun t ht => by rw [put_other a o.dst v t (fun e' => hmem i o ho _ e' t ht rfl)]; exact hkeep t ht⟩)
    · by_cases e : o.dst = some t
      · rw [if_pos e]
        have := lastv_eq (D := fun k => D k || k == i) (wr := wS l t) (f := fun k => look (Ts k) t) l.length (i + 1) (by omega) (keepS t) (hnew _ (ordS t (hdm t e)))
        show lastv _ _ _ _ = _
        rw [this, hts, look_putT, if_pos e]
      · rw [if_neg e]
        refine lastv_congr _ (fun k hk hw => ?_)
        have : k ≠ i := by rintro rfl; exact e ((wS_iff ho).1 hw)
        simp [this]
    · have := lastv_eq (D := fun k => D k || k == i) (wr := wR es r) (f := fun k => hget (Hs k) r) l.length (i + 1) (by omega) (keepR r) (hnew _ (ordR r (hum r q hm)))
      show lastv _ _ _ _ = _
      rw [this, hhs]
      exact (hget_happ _ _ hin hon r).1 q hm
    · refine lastv_congr _ (fun k hk hw => ?_)
      have : k ≠ i := by rintro rfl; obtain ⟨q, hm⟩ := wR_iff.1 hw; exact hno q hm
      simp [this]
    · rintro r (hr | ⟨q, hm⟩)
      · rcases hL r hr with h | ⟨k, hk, hDk, hw⟩
        · exact Or.inl h
        · exact Or.inr ⟨k, hk, by simp [hDk], hw⟩
      · exact Or.inr ⟨i, hil, by simp, wR_iff.2 ⟨q, hm⟩⟩
  -- all orders
  have all : ∀ (fuel : Nat) (listed : Array Bool) (a : Act) (w : World), listed.size = l.length → listed.toList.count false = fuel → Down l.toArray (fun k => listed.getD k false) → Inv (fun k => listed.getD k false) a w →
      wpAny P .any l.toArray Q fuel listed a w := by
    intro fuel
    have done : ∀ (listed : Array Bool) (a : Act) (w : World), listed.size = l.length → Down l.toArray (fun k => listed.getD k false) → Inv (fun k => listed.getD k false) a w → Region.ready .any l.toArray listed = [] → Q .normal a w := by
      intro listed a w hsz hD hinv hr
      have hall : ∀ k, k < l.length → listed.getD k false = true := by
        intro k
        induction k using Nat.strongRecOn with
        | _ k ih =>
          intro hk
          cases hv : listed.getD k false with
          | true => rfl
          | false =>
            exfalso
            have hmem : k ∈ Region.ready .any l.toArray listed := by
              refine mem_ready.2 ⟨?_, l[k], by simp [hk], fun e he hb => ?_⟩
              · have hk' : k < listed.size := by omega
                simp only [Array.getD_eq_getD_getElem?, Array.getElem?_eq_getElem hk', Option.getD_some] at hv ⊢
                exact hv
              · have := back_spec l 0 hback k l[k] (List.getElem?_eq_getElem hk) e he hb
                exact ih e.on (by omega) (by omega)
            rw [hr] at hmem; cases hmem
      obtain ⟨⟨S0, ρ, L, hc, hL, hj, hmk⟩, hkeep⟩ := hinv
      have eS : vS (fun k => listed.getD k false) = look (Ts l.length) := by
        funext t
        exact lastv_eq l.length l.length (Nat.le_refl _) (keepS t) (fun k hk _ => ⟨fun _ => hk, fun _ => hall k hk⟩)
      have eR : vR (fun k => listed.getD k false) = hget (Hs l.length) := by
        funext r
        exact lastv_eq l.length l.length (Nat.le_refl _) (keepR r) (fun k hk _ => ⟨fun _ => hk, fun _ => hall k hk⟩)
      rw [eS, eR] at hc
      refine hQ a w ⟨⟨S0, ρ, L, hc, fun r hr => ?_, by rw [hy _ (Nat.le_refl _)]; exact hj, hmk⟩, hkeep⟩
      rcases hL r hr with h | ⟨k, hk, _, hw⟩
      · exact Nat.lt_of_lt_of_le h (hlen 0 _ (by omega) (Nat.le_refl _))
      · obtain ⟨q, hm⟩ := wR_iff.1 hw
        exact Nat.lt_of_lt_of_le (hupl k r q hk hm) (hlen _ _ (by omega) (Nat.le_refl _))
    induction fuel with
    | zero =>
      intro listed a w hsz hcount hD hinv
      have hr : Region.ready .any l.toArray listed = [] := by
        apply List.eq_nil_iff_forall_not_mem.2
        intro k hk
        obtain ⟨h1, o, ho, _⟩ := mem_ready.1 hk
        have hkl : k < listed.size := by rw [hsz]; simpa using (Array.getElem?_eq_some_iff.1 ho).1
        simp only [Array.getD_eq_getD_getElem?, Array.getElem?_eq_getElem hkl, Option.getD_some] at h1
        rw [List.count_eq_zero] at hcount
        exact hcount (by rw [← h1]; simp)
      exact ⟨hr, done listed a w hsz hD hinv hr⟩
    | succ fuel ih =>
      intro listed a w hsz hcount hD hinv
      refine ⟨done listed a w hsz hD hinv, fun i hi => ?_⟩
      obtain ⟨h1, o, ho, hpre⟩ := mem_ready.1 hi
      have ho' : l[i]? = some o := by simpa using ho
      have hil : i < l.length := (List.getElem?_eq_some_iff.1 ho').1
      have hils : i < listed.size := by omega
      have hDi : listed.getD i false = false := by
        simp only [Array.getD_eq_getD_getElem?, Array.getElem?_eq_getElem hils, Option.getD_some] at h1 ⊢
        exact h1
      have eD : (fun k => (listed.setIfInBounds i true).getD k false) = fun k => listed.getD k false || k == i := by
        funext k
        by_cases e : k = i
        · subst e
          simp [Array.getD_eq_getD_getElem?, Array.getElem?_setIfInBounds_self_of_lt hils]
        · rw [getD_set_ne false (fun h => e h.symm)]
          simp [e]
      have hD' : Down l.toArray (fun k => listed.getD k false || k == i) := by
        intro k ok hok hk e he hb
        simp only [Bool.or_eq_true, beq_iff_eq] at hk ⊢
        rcases hk with hk | rfl
        · exact Or.inl (hD k ok hok hk e he hb)
        · rw [ho] at hok
          simp only [Option.some.injEq] at hok
          subst hok
          exact Or.inl (hpre e he hb)
      have := step (fun k => listed.getD k false) i o a w (wpAny P .any l.toArray Q fuel (listed.setIfInBounds i true)) hD hD' ho' hDi hinv (fun a' w' hinv' => ih _ a' w' (by simp [hsz]) (by
        rw [Array.toList_setIfInBounds, List.count_set (by simpa using hils), hcount]
        have : listed.toList[i]'(by simpa using hils) = false := by
          simp only [Array.getD_eq_getD_getElem?, Array.getElem?_eq_getElem hils, Option.getD_some] at hDi
          simpa using hDi
        simp [this]) (by rw [eD]; exact hD') (by rw [eD]; exact hinv'))
      unfold wpOp
      simp only [ho]
      split
      · rename_i hw; rw [if_pos hw] at this; exact Or.inl this
      · rename_i hw; rw [if_neg hw] at this; exact this
  obtain ⟨⟨S0, ρ, L, hc, hL, hj, hmk⟩, hkeep⟩ := hs
  have e0 : (fun k => (Array.replicate l.toArray.size false).getD k false) = fun _ => false := by
    funext k
    simp only [Array.getD_eq_getD_getElem?, Array.getElem?_replicate]
    split <;> rfl
  refine all _ _ a w (by simp) (by simp) ?_ ?_
  · rw [e0]; intro k o _ h; cases h
  · rw [e0]
    refine ⟨⟨S0, ρ, L, ?_, fun r hr => Or.inl (hL r hr), hj, hmk⟩, hkeep⟩
    have eS : vS (fun _ => false) = look (Ts 0) := by
      funext t
      exact lastv_eq l.length 0 (by omega) (keepS t) (fun k hk _ => by simp)
    have eR : vR (fun _ => false) = hget (Hs 0) := by
      funext r
      exact lastv_eq l.length 0 (by omega) (keepR r) (fun k hk _ => by simp)
    rw [eS, eR]
    exact hc

theorem SG.draw {kv : Nat → Value} {T : Tm} {H : Hp} {a : Act} {w : World} (hJ : JOk J) (hs : SG J nt kp kv T H a w) (n : Nat) : SG J nt kp kv T H a { w with drawn := n } := by
  obtain ⟨⟨S0, ρ, L, hc, hL, hj, Ds, h1, h2, h3⟩, hk⟩ := hs
  exact ⟨⟨S0, ρ, L, hc.foreign (Nat.le_refl _) (fun _ _ _ => rfl) (fun b hb => ⟨hc.wf.low b hb, Or.inl hb⟩), hL, hJ _ _ _ _ _ _ hj hc.wf.low hc.owned ((Ext.refl _ w).draw n) (fun b hb => ⟨(hc.owned b hb).1, Or.inl hb⟩), Ds, h1, h2, h3⟩, hk⟩

theorem gwp_draw {id : Nat} {T : Tm} {H : Hp} {Q : Exit → Tm → Hp → Prop} (hm : P.follows .mixedOrders = true) (hd : l.map (·.dst) = dsts) (hnt : nt ≤ 999999) (hkp : keepOk kp dsts = true) (hnd : l.all noDefer = true)
    (h : ∀ K : Tm → Hp → List Tr → Prop, (∀ T' H' tr, drawB l tr = true → Q .normal T' H' → K T' H' tr) → vcOpsD P nt dsts l T H [] K) : GWp P ro J nt kp (.region id l.toArray true) T H Q := by
  intro hJ kv a w hs
  have h' := h (fun T' H' tr => drawB l tr = true ∧ Q .normal T' H') (fun _ _ _ h1 h2 => ⟨h1, h2⟩)
  have hd' : ∀ j : Nat, dsts[j]? = (l.toArray[j]?).map (·.dst) := by intro j; rw [← hd]; simp
  obtain ⟨Ts, Hs, es, t0, h0, hlex, hB, hQ⟩ := lex_of hd' l T H [] h'
  refine wpIn_region_any hm ?_
  have := draw_soundG hJ hnt hkp (kv := kv) hlex hd (by simpa using hB) (Q := onlyNormal fun a' w' => ∃ T' H', Q .normal T' H' ∧ SG J nt kp kv T' H' a' w') (fun a w hst => ⟨_, _, hQ, hst⟩) (a := a) (w := { w with drawn := w.drawn + 1 }) (by rw [t0, h0]; exact hs.draw hJ _)
  have h2 := wpAnyIn_of (ro := ro) (by intro o ho; exact List.all_eq_true.1 hnd o (by simpa using ho)) _ _ _ _ this
  exact wpAnyIn_monoQ (fun e a w h => by cases e <;> first | exact h | exact h.elim) _ _ _ _ h2
end
end Go.AM
/- The abstract machine, part K: iterators and ranges over them. No condition. -/
namespace Go.AM
set_option linter.unusedVariables false
set_option linter.unusedSimpArgs false

/-- So many have come; it was stopped. -/
def cntV (n : Nat) : AV := .may [false] (.v (.int .i64 n))
def stpV : AV := .may [false] (.v (.bool false))
@[simp] theorem cntV_inj (a b : Nat) : (cntV a = cntV b) ↔ a = b := by simp [cntV]; omega
theorem cnt_stp (a : Nat) : cntV a ≠ stpV := by simp [cntV, stpV]

def Grown (S0 : Nat → Prop) (w w' : World) (b : Nat) : Prop := S0 b ∨ (w.heap.size ≤ b ∧ b < w'.heap.size)

/-- What yield promises, so long as the elements are those of a list. -/
def YSpec (P : Program) (l : Nat) (J : Jt) (xs : List (List AV)) : Prop :=
  ∀ n x, xs[n]? = some x → ∀ (S0 O : Nat → Prop) (W : World) (vs : List Value), J.rel (cntV n) S0 O W → (∀ b, S0 b → b < W.heap.size) → (∀ b, O b → b < W.heap.size ∧ ¬ S0 b) →
    x.length = vs.length → (∀ (i : Nat) c y, x[i]? = some c → vs[i]? = some y → RepP W (fun b => S0 b ∨ O b) c y) →
    YieldAt Fence.wide 0 P l vs.toArray W fun e W' => W.heap.size ≤ W'.heap.size ∧ (∀ b, b < W.heap.size → ¬ S0 b → W'.heap[b]? = W.heap[b]?) ∧
      ((e = .returned (.bool true) ∧ J.rel (cntV (n + 1)) (Grown S0 W W') O W') ∨ (e = .returned (.bool false) ∧ J.rel stpV (Grown S0 W W') O W'))

/-- AN ITERATOR's CONTRACT: whoever stands behind yield, it hands over the list's elements, one after the other. -/
def IterCall (P : Program) (f : FuncId) (caps : List AV) (xs : List (List AV)) : Prop :=
  (∀ (w : World) (vs : Array Value), (callFunc f vs).run P w = .ok (.enter f vs) w) ∧
  ∀ (S0 : Nat → Prop) (w : World) (vs : List Value), (∀ b, S0 b → b < w.heap.size) → caps.length = vs.length → (∀ (i : Nat) c x, caps[i]? = some c → vs[i]? = some x → RepP w S0 c x) →
    ∀ (l : Nat) (J : Jt), JOk J → (∀ D, ¬ J.mark D) → YSpec P l J xs → J.rel (cntV 0) S0 (fun _ => False) w →
      Calls P f (#[.func (.yield l) #[] #[]] ++ vs.toArray) w fun e W' => (∃ v, e = .returned v) ∧ ∃ S' O', (∀ b, S' b → b < W'.heap.size) ∧ (∀ b, O' b → b < W'.heap.size ∧ ¬ S' b) ∧ (J.rel (cntV xs.length) S' O' W' ∨ J.rel stpV S' O' W')

/-! ### The walk of an iterator -/
/-- The guard of an operation as a condition. -/
def guardM (dsts : List (Option Tmp)) (o : Oper) (T : Nat → AV) : Option (List Bool) :=
  match o.guard with
  | none => some []
  | some (j, want) => match dsts[j]? with
    | some (some d) => match gval (T d) with
      | some (l, b) => some (l ++ [glit b want])
      | none => none
    | _ => none

theorem guardM_spec {ops : Array Oper} {o : Oper} {T : Nat → AV} {dsts : List (Option Tmp)} (hd : ∀ j : Nat, dsts[j]? = (ops[j]?).map (·.dst)) {m : List Bool} (h : guardM dsts o T = some m) {w : World} {S : Nat → Prop} {ρ : Nat → Option Loc} {L : Nat → Prop} {a : Act}
    (hl : ∀ t ∈ o.looksAt ops, RepV w S ρ L (T t) (a.tmps.getD t undef)) : Region.wanted o (yielded ops a.tmps) = true ↔ m.all id = true := by
  unfold guardM at h
  split at h
  · rename_i hg
    simp only [Option.some.injEq] at h
    subst h
    simp [Region.wanted, hg]
  · rename_i j want hg
    split at h
    · rename_i d hdj
      split at h
      · rename_i l b hgv
        simp only [Option.some.injEq] at h
        subst h
        have hdo : (ops[j]?).bind (·.dst) = some d := by
          have := hd j
          rw [hdj] at this
          cases ho : ops[j]? with
          | none => rw [ho] at this; cases this
          | some oj => rw [ho] at this; simp only [Option.map_some, Option.some.injEq] at this; simp [this]
        have hrep := hl d (by
          simp only [Oper.looksAt, List.mem_append]
          right
          rw [hg]
          simp [hdo])
        have hcell : ∀ v, a.tmps.getD d undef = v → (∀ bb, v = .bool bb → yielded ops a.tmps j = some bb) ∧ (v = undef → yielded ops a.tmps j = none) := by
          intro v hv
          unfold yielded
          rw [hdo]
          simp only [Option.bind_some]
          cases ht : a.tmps[d]? with
          | none => simp [Array.getD_eq_getD_getElem?, ht] at hv; subst hv; simp [undef]
          | some u => simp [Array.getD_eq_getD_getElem?, ht] at hv; subst hv; constructor
                      · rintro bb rfl; rfl
                      · rintro rfl; rfl
        simp only [Region.wanted, hg]
        generalize hT : T d = td at hrep hgv
        unfold gval at hgv
        split at hgv
        · simp only [Option.some.injEq, Prod.mk.injEq] at hgv
          obtain ⟨rfl, rfl⟩ := hgv
          have := (hcell _ rfl).1 _ (exact_v hrep)
          rw [this]
          rename_i b'
          cases b' <;> cases want <;> simp [glit]
        · simp only [Option.some.injEq, Prod.mk.injEq] at hgv
          obtain ⟨rfl, rfl⟩ := hgv
          rename_i l' b'
          have hcase : (l'.all id = true ∧ RepV w S ρ L (.v (.bool b')) (a.tmps.getD d undef)) ∨ (l'.all id = false ∧ a.tmps.getD d undef = undef) := by
            generalize a.tmps.getD d undef = u at hrep
            cases hrep with
            | pure _ _ h => cases h with
              | mayT _ _ _ ht h => exact Or.inl ⟨ht, .pure _ _ h⟩
              | mayF _ _ hf => exact Or.inr ⟨hf, rfl⟩
            | mayT _ _ _ ht h => exact Or.inl ⟨ht, h⟩
            | mayF _ _ hf => exact Or.inr ⟨hf, rfl⟩
          rcases hcase with ⟨hl', hr⟩ | ⟨hl', hu⟩
          · have := (hcell _ rfl).1 _ (exact_v hr)
            rw [this, List.all_append, hl']
            cases b' <;> cases want <;> simp [glit]
          · have := (hcell _ rfl).2 hu
            rw [this, List.all_append, hl']
            simp
        · cases hgv
      · cases h
    · cases h

/-- Is it a call of yield? -/
def yArgs (o : Oper) (T : Nat → AV) : Option (List Operand × Nat × Operand) :=
  match o.op with
  | .call c => match c.callee with
    | .value x => match (evT T x).strip with
      | .v (.func (.yield l) first caps) => if first = #[] ∧ caps = #[] then some (c.args.toList, l, x) else none
      | _ => none
    | _ => none
  | _ => none

/-- An element is handed over: what goes on if more are wanted, and if not. -/
def yK (xs : List (List AV)) (n : Nat) (x : List AV) (K1 K2 : Prop) : Prop := xs[n]? = some x ∧ K1 ∧ K2
theorem yK_intro {xs : List (List AV)} {n : Nat} {x : List AV} {K1 K2 : Prop} (h : xs[n]? = some x) (h1 : K1) (h2 : K2) : yK xs n x K1 K2 := ⟨h, h1, h2⟩

/-- THE CONDITION OF A REGION that may call yield. -/
def gOps (P : Program) (l0 : Nat) (xs : List (List AV)) (nt : Nat) (dsts : List (Option Tmp)) : List Oper → Tm → Hp → (Tm → Hp → Prop) → Prop
  | [], T, H, K => K T H
  | o :: rest, T, H, K => match yArgs o (look T) with
    | some (args, l, cx) => match guardM dsts o (look T), o.dst with
      | some m, some d => l = l0 ∧ d < nt ∧ okAll m ((cx :: args).map (evT (look T))) ∧ (args.map fun x => (evT (look T) x).strip).all (AV.noRef 2) = true ∧
          (m.all id = true → ∃ n, look T 999999 = cntV n ∧ yK xs n (args.map fun x => (evT (look T) x).strip)
            (gOps P l0 xs nt dsts rest (putT (putT T (some d) (mayw m (.v (.bool true)))) (some 999999) (cntV (n + 1))) H K)
            (gOps P l0 xs nt dsts rest (putT (putT T (some d) (mayw m (.v (.bool false)))) (some 999999) stpV) H K)) ∧
          (m.all id = false → gOps P l0 xs nt dsts rest (putT T (some d) (mayw m (.v (.bool true)))) H K)
      | _, _ => False
    | none => vcGuard P dsts o (look T) (hget H) H.length (ct (fun e => dstOk nt o.dst ∧ upsIn H e.ups ∧ upsOnce e.ups = true ∧ gOps P l0 xs nt dsts rest (putT T o.dst e.av) (happ H e.ups) K) ⟨⟩)

theorem Core.put1 {S0 : Nat → Prop} {nt : Nat} {w : World} {ρ : Nat → Option Loc} {L : Nat → Prop} {T : Tm} {H : Nat → Option ARow} {a : Act} (hc : Core anyB S0 nt w ρ L (look T) H a) {d : Tmp} (hd : d < nt) {x : AV} {v : Value} (hv : RepV w (Sx S0 ρ) ρ L x v) :
    Core anyB S0 nt w ρ L (look (putT T (some d) x)) H (a.put (some d) v) := by
  refine ⟨hc.wf, by simp [Act.put, hc.size], hc.defers, fun t => ?_, hc.rows, hc.dead⟩
  rw [getD_put a (some d) v t (by rw [hc.size]; intro k e; cases e; exact hd), look_putT]
  split
  · exact hv
  · exact hc.tmps t

theorem Core.putY {S0 : Nat → Prop} {nt : Nat} {w : World} {ρ : Nat → Option Loc} {L : Nat → Prop} {T : Tm} {H : Nat → Option ARow} {a : Act} (hc : Core anyB S0 nt w ρ L (look T) H a) (hnt : nt ≤ 999999) (x : AV) :
    Core anyB S0 nt w ρ L (look (putT T (some 999999) (.may [false] x))) H a := by
  refine ⟨hc.wf, hc.size, hc.defers, fun t => ?_, hc.rows, hc.dead⟩
  rw [look_putT]
  split
  · rename_i e
    cases e
    have : a.tmps.getD 999999 undef = undef := by
      rw [Array.getD_eq_getD_getElem?, Array.getElem?_eq_none (by rw [hc.size]; exact hnt)]; rfl
    rw [this]
    exact .mayF _ _ rfl
  · exact hc.tmps t

section
variable {P : Program} {nt : Nat}

theorem run_yieldCall {o : Oper} {c : Call} {x : Operand} {l : Nat} (ho : o.op = .call c) (hcl : c.callee = .value x) (ev : Operand → Value) (hx : ev x = .func (.yield l) #[] #[]) (w : World) :
    (execOp ev o).run P w = (Instr.yield l (c.args.map ev)).run P w := by
  obtain ⟨callee, args, ts⟩ := c
  subst hcl
  simp [execOp, ho, resolve, hx, invoke, go_sem]

theorem eval_repG {w : World} {S : Nat → Prop} {ρ : Nat → Option Loc} {L : Nat → Prop} {T : Nat → AV} {a : Act} (h : ∀ t, RepV w S ρ L (T t) (a.tmps.getD t undef)) (x : Operand) : RepV w S ρ L (evT T x) (a.eval x) := by
  cases x with
  | tmp t => exact h t
  | const v => exact .pure _ _ (constAV_rep v)
  | global g => exact .pure _ _ (.v _)
  | func f => exact .pure _ _ (.clo f [] [] rfl (by simp))

/-- Behind a call of yield. -/
theorem SG.yielded {J : Jt} (hJ : JOk J) (hmk : ∀ D, ¬ J.mark D) (hnt : nt ≤ 999999) {kp : List Nat} {kv : Nat → Value} {T : Tm} {H : Hp} {a : Act} {w w' : World} {S0 : Nat → Prop} {ρ : Nat → Option Loc} {L : Nat → Prop}
    (hc : Core anyB S0 nt w ρ L (look T) (hget H) (bare a)) (hL : ∀ r, L r → r < H.length) (hm : Marks J a.defers S0 w) (hk : ∀ t ∈ kp, a.tmps.getD t undef = kv t) {d : Tmp} (hd : d < nt) (hkp : ∀ t ∈ kp, d ≠ t)
    (hs : w.heap.size ≤ w'.heap.size) (hsame : ∀ b, b < w.heap.size → ¬ S0 b → w'.heap[b]? = w.heap[b]?) {b : Bool} {m : List Bool} (hmm : m.all id = true) (y : AV) (hj : J.rel (.may [false] y) (Grown S0 w w') (own ρ) w') :
    SG J nt kp kv (putT (putT T (some d) (mayw m (.v (.bool b)))) (some 999999) (.may [false] y)) H (a.put (some d) (.bool b)) w' := by
  have hc1 := hc.foreign (S0' := Grown S0 w w') hs hsame (fun q hq => by
    rcases hq with hq | hq
    · exact ⟨Nat.lt_of_lt_of_le (hc.wf.low q hq) hs, Or.inl hq⟩
    · exact ⟨hq.2, Or.inr hq.1⟩)
  refine ⟨⟨Grown S0 w w', ρ, L, ?_, hL, ?_, ?_⟩, fun t ht => ?_⟩
  · have := (hc1.put1 hd (x := mayw m (.v (.bool b))) (v := .bool b) (mayw_rep hmm (.pure _ _ (.v _)))).putY hnt y
    rw [bare_put]; exact this
  · simp only [putT, look, if_true]; exact hj
  · rw [put_defers]
    obtain ⟨Ds, h1, h2, h3⟩ := hm
    cases Ds with
    | nil => exact ⟨[], h1, h2, by simp⟩
    | cons D Ds => exact (hmk D (h3 D (by simp)).2.1).elim
  · rw [put_other a (some d) _ t (fun e => hkp t ht (Option.some.inj e))]
    exact hk t ht

theorem gOps_sound {J : Jt} (hJ : JOk J) (hmk : ∀ D, ¬ J.mark D) {l0 : Nat} {xs : List (List AV)} (hY : YSpec P l0 J xs) (hnt : nt ≤ 999999) {ops : Array Oper} {dsts : List (Option Tmp)} (hd : ∀ j : Nat, dsts[j]? = (ops[j]?).map (·.dst)) {kp : List Nat} (hkp : keepOk kp dsts = true) {kv : Nat → Value} {QQ : Exit → Act → World → Prop} {K : Tm → Hp → Prop}
    (hK : ∀ T H a w, K T H → SG J nt kp kv T H a w → QQ .normal a w) : ∀ (l : List Oper) (hl : ∀ o ∈ l, noDefer o = true ∧ o.dst ∈ dsts) (T : Tm) (H : Hp) (a : Act) (w : World), gOps P l0 xs nt dsts l T H K → SG J nt kp kv T H a w → wpListIn (fr none) 0 P ops QQ l a w
  | [], _, T, H, a, w, h, hs => hK T H a w h hs
  | o :: rest, hl, T, H, a, w, h, hs => by
    have ih : ∀ T H a w, gOps P l0 xs nt dsts rest T H K → SG J nt kp kv T H a w → wpListIn (fr none) 0 P ops QQ rest a w := fun T H a w h hs => gOps_sound hJ hmk hY hnt hd hkp hK rest (fun o ho => hl o (by simp [ho])) T H a w h hs
    have hkd : ∀ d, o.dst = some d → ∀ t ∈ kp, d ≠ t := fun d hd' => keepOk_spec hkp (by rw [← hd']; exact (hl o (by simp)).2)
    unfold gOps at h
    split at h
    · rename_i args l cx hya
      split at h
      · rename_i m d hm hdst
        obtain ⟨hl0, hdn, hok, hnr, hyes, hno⟩ := h
        subst hl0
        -- the operation
        obtain ⟨c, hop, hcl, hx, rfl⟩ : ∃ c, o.op = .call c ∧ c.callee = .value cx ∧ (evT (look T) cx).strip = .v (.func (.yield l) #[] #[]) ∧ args = c.args.toList := by
          unfold yArgs at hya
          split at hya
          · rename_i c hop
            split at hya
            · rename_i x hcl
              split at hya
              · rename_i l' first caps hx
                split at hya
                · rename_i hfc
                  simp only [Option.some.injEq, Prod.mk.injEq] at hya
                  obtain ⟨rfl, rfl, rfl⟩ := hya
                  obtain ⟨rfl, rfl⟩ := hfc
                  exact ⟨c, hop, hcl, hx, rfl⟩
                · cases hya
              · cases hya
            · cases hya
          · cases hya
        obtain ⟨⟨S0, ρ, L, hc, hL, hj, hmarks⟩, hk⟩ := hs
        have hg := guardM_spec (a := a) hd hm (fun t _ => hc.tmps t)
        unfold wpListIn
        split
        · rename_i hw
          have hmm := hg.1 hw
          obtain ⟨n, hn, hxn, h1, h2⟩ := hyes hmm
          rw [hn] at hj
          have hxv : a.eval cx = .func (.yield l) #[] #[] := by
            have := strip_rep hmm (okAll_mem hok (List.mem_map_of_mem List.mem_cons_self)) (eval_repG (a := a) hc.tmps cx)
            rw [hx] at this
            exact exact_v this
          have hreps : ∀ (i : Nat) cc y, (c.args.toList.map fun x => (evT (look T) x).strip)[i]? = some cc → (c.args.toList.map a.eval)[i]? = some y → RepP w (fun b => S0 b ∨ own ρ b) cc y := by
            intro i cc y h1 h2
            have hcc := List.mem_of_getElem? h1
            simp only [List.getElem?_map, Option.map_eq_some_iff] at h1 h2
            obtain ⟨z, h1, rfl⟩ := h1
            obtain ⟨z', h2, rfl⟩ := h2
            rw [h1] at h2
            cases h2
            have hr := strip_rep hmm (okAll_mem hok (List.mem_map_of_mem (List.mem_cons_of_mem _ (List.mem_of_getElem? h1)))) (eval_repG (a := a) hc.tmps z)
            exact noRef_rep 2 _ _ (List.all_eq_true.1 hnr _ hcc) hr
          obtain ⟨fn, tmps, assign, body, hrun, hround⟩ := hY n _ hxn S0 (own ρ) w (c.args.toList.map a.eval) hj hc.wf.low hc.owned (by simp) hreps
          refine ⟨fun _ _ => trivial, ?_⟩
          rw [Oper.semAt_eq _ _ _ (by rw [hop]; intro c h; cases h), run_yieldCall hop hcl a.eval hxv w]
          have e1 : (c.args.map a.eval) = (c.args.toList.map a.eval).toArray := by apply Array.ext'; simp
          rw [e1, hrun]
          refine ⟨fr_depth, hround.mono ?_⟩
          rintro e w' ⟨hs', hsame, ⟨rfl, hj'⟩ | ⟨rfl, hj'⟩⟩
          · show wpListIn (fr none) 0 P ops QQ rest (a.put o.dst (.bool true)) w'
            rw [hdst]
            exact ih _ _ _ _ h1 (SG.yielded hJ hmk hnt hc hL hmarks hk hdn (hkd d hdst) hs' hsame hmm _ hj')
          · show wpListIn (fr none) 0 P ops QQ rest (a.put o.dst (.bool false)) w'
            rw [hdst]
            exact ih _ _ _ _ h2 (SG.yielded hJ hmk hnt hc hL hmarks hk hdn (hkd d hdst) hs' hsame hmm _ hj')
        · rename_i hw
          have hmm : m.all id = false := by
            cases hh : m.all id with
            | false => rfl
            | true => exact absurd (hg.2 hh) hw
          refine ⟨fun _ _ => trivial, ?_⟩
          rw [hdst]
          refine ih _ _ _ _ (hno hmm) ⟨⟨S0, ρ, L, ?_, hL, ?_, by rw [put_defers]; exact hmarks⟩, fun t ht => ?_⟩
          · rw [bare_put]; exact hc.put1 hdn (mayw_undef hmm)
          · rw [look_putT, if_neg]
            · exact hj
            · intro e; cases e; exact absurd hdn (Nat.not_lt.2 hnt)
          · rw [put_other a (some d) _ t (fun e => hkd d hdst t ht (Option.some.inj e))]
            exact hk t ht
      · exact h.elim
    · obtain ⟨e, hst, h1, h2, h3, h4⟩ := vcGuard_sound hd h (fun _ => trivial)
      have := hs.step (K := wpListIn (fr none) 0 P ops QQ rest) (Q := QQ) hJ hnt hst (fun d hd => by rw [hd] at h1; exact h1) hkd h2 h3 (fun a' w' hs' => ih _ _ a' w' h4 hs')
      unfold wpListIn
      split
      · rename_i hw; rw [if_pos hw] at this; exact wpIn_of_op (hl o (by simp)).1 this
      · rename_i hw; rw [if_neg hw] at this; exact ⟨fun _ _ => trivial, this⟩

theorem gwp_yields {J : Jt} {kp : List Nat} {T : Tm} {H : Hp} {Q : Exit → Tm → Hp → Prop} (hmk : ∀ D, ¬ J.mark D) {l0 : Nat} {xs : List (List AV)} (hY : YSpec P l0 J xs) {id : Nat} {l : List Oper} {dsts : List (Option Tmp)} (hd : l.map (·.dst) = dsts) (hnt : nt ≤ 999999) (hkp : keepOk kp dsts = true) (hnd : l.all noDefer = true)
    (h : gOps P l0 xs nt dsts l T H (Q .normal)) : GWp P none J nt kp (.region id l.toArray false) T H Q := by
  intro hJ kv a w hs
  refine wpIn_region_lit ?_
  exact gOps_sound hJ hmk hY hnt (ops := l.toArray) (dsts := dsts) (K := Q .normal) (by intro j; rw [← hd]; simp) hkp (fun T H a w q s => ⟨T, H, q, s⟩) l (fun o ho => ⟨List.all_eq_true.1 hnd o ho, by rw [← hd]; exact List.mem_map_of_mem ho⟩) T H a w h hs

/-- What an iterator's body comes to. -/
def iterQ (xs : List (List AV)) : Exit → Tm → Hp → Prop
  | .ret, T, _ => look T 999999 = cntV xs.length ∨ look T 999999 = stpV
  | .normal, T, _ => look T 999999 = cntV xs.length ∨ look T 999999 = stpV
  | _, _, _ => False

/-- THE CONTRACT OF AN ITERATOR OUT OF ITS BODY. -/
theorem IterCall.of_body {f : FuncId} {fn : Func} {c : Code} {caps : List AV} {xs : List (List AV)} (hf : P.funcs[f]? = some fn) (hb : fn.body = some c) (hname : (fn.name == "runtime.NumGoroutine") = false) (hnt : caps.length + 1 ≤ fn.ntmps) (hnt' : fn.ntmps ≤ 999999)
    (hres : fn.results.toList = []) (h : ∀ (J : Jt) (l : Nat), (∀ D, ¬ J.mark D) → YSpec P l J xs → GWp P none J fn.ntmps [] c (argT 0 (.v (.func (.yield l) #[] #[]) :: caps) ++ [(999999, cntV 0)]) [] (iterQ xs)) : IterCall P f caps xs := by
  have hn' : ¬ fn.name = "runtime.NumGoroutine" := by simpa using hname
  refine ⟨fun w vs => by simp [callFunc, hf, hn', hb], ?_⟩
  intro S0 w vs hlow hlen hrep l J hJ hmk hY hj
  refine callsIn_wide.1 (callsIn_of_wp (n := 0) (F := Fence.wide) hf hb trivial ?_)
  have hargs : #[Value.func (.yield l) #[] #[]] ++ vs.toArray = (Value.func (.yield l) #[] #[] :: vs).toArray := by apply Array.ext'; simp
  rw [hargs]
  obtain ⟨us, hus⟩ : ∃ us, us = Value.func (.yield l) #[] #[] :: vs := ⟨_, rfl⟩
  obtain ⟨as, has⟩ : ∃ as, as = AV.v (.func (.yield l) #[] #[]) :: caps := ⟨_, rfl⟩
  have hlen' : as.length = us.length := by rw [hus, has]; simp [hlen]
  have hrep' : ∀ (i : Nat) c x, as[i]? = some c → us[i]? = some x → RepP w S0 c x := by
    intro i c x h1 h2
    rw [has] at h1; rw [hus] at h2
    cases i with
    | zero => simp only [List.getElem?_cons_zero, Option.some.injEq] at h1 h2; subst h1 h2; exact .v _
    | succ i => exact hrep i c x (by simpa using h1) (by simpa using h2)
  have hasl : as.length ≤ fn.ntmps := by rw [has]; simpa using hnt
  have hgw := h J l hmk hY
  rw [← has] at hgw
  rw [← hus]
  let ρ : Nat → Option Loc := fun _ => none
  have hS : ∀ b, Sx S0 ρ b ↔ S0 b := by
    intro b
    constructor
    · rintro (h | ⟨r, l, h1, _⟩)
      · exact h
      · cases h1
    · exact Or.inl
  have hsize : us.toArray.size = as.length := by simp [hlen']
  have hst : SG J fn.ntmps [] (fun _ => undef) (argT 0 as ++ [(999999, cntV 0)]) [] { tmps := us.toArray ++ Array.replicate (fn.ntmps - us.toArray.size) undef, defers := [] } w := by
    have hlk : ∀ t, look (argT 0 as ++ [(999999, cntV 0)]) t = if t = 999999 then cntV 0 else look (argT 0 as) t := by
      have gen : ∀ (xs : List AV) (k t : Nat), k + xs.length ≤ 999999 → look (argT k xs ++ [(999999, cntV 0)]) t = if t = 999999 then cntV 0 else look (argT k xs) t := by
        intro xs
        induction xs with
        | nil => intro k t _; simp [argT, look]
        | cons x xs ih =>
          intro k t hk
          simp only [argT, List.cons_append, look]
          simp only [List.length_cons] at hk
          rw [ih (k + 1) t (by omega)]
          by_cases e : t = k
          · subst e; rw [if_pos rfl, if_neg (by omega), if_pos rfl]
          · rw [if_neg e, if_neg e]
      exact fun t => gen as 0 t (by omega)
    refine ⟨⟨S0, ρ, fun _ => False, ⟨⟨?_, ?_, ?_, hlow, fun b h => trivial⟩, ?_, rfl, ?_, ?_, ?_⟩, fun r hr => hr.elim, ?_, [], rfl, List.nodup_nil, by simp⟩, by simp⟩
    · intro r r' l l' b h1; cases h1
    · intro r l b h1; cases h1
    · intro r l h1; cases h1
    · show (us.toArray ++ Array.replicate (fn.ntmps - us.toArray.size) undef).size = fn.ntmps
      rw [Array.size_append, Array.size_replicate, hsize]; omega
    · intro t
      rw [hlk]
      split
      · rename_i e
        subst e
        have : (us.toArray ++ Array.replicate (fn.ntmps - us.toArray.size) undef).getD 999999 undef = undef := by
          rw [Array.getD_eq_getD_getElem?, Array.getElem?_eq_none (by rw [Array.size_append, Array.size_replicate, hsize]; omega)]; rfl
        show RepV w _ _ _ _ ((us.toArray ++ Array.replicate (fn.ntmps - us.toArray.size) undef).getD 999999 undef)
        rw [this]
        exact .mayF _ _ rfl
      · rw [look_argT]
        simp only [Nat.zero_le, if_true, Nat.sub_zero]
        cases hx : as[t]? with
        | none => exact .pure _ _ (.any _)
        | some x =>
          have ht : t < as.length := (List.getElem?_eq_some_iff.1 hx).1
          have ht' : t < us.length := by omega
          have hget : (us.toArray ++ Array.replicate (fn.ntmps - us.toArray.size) undef).getD t undef = us[t] := by
            rw [Array.getD_eq_getD_getElem?, Array.getElem?_append_left (by simpa using ht')]
            simp [ht']
          show RepV w _ _ _ _ ((us.toArray ++ Array.replicate (fn.ntmps - us.toArray.size) undef).getD t undef)
          rw [hget]
          exact .pure _ _ ((hrep' t x _ hx (List.getElem?_eq_getElem ht')).ext (Nat.le_refl _) (fun b _ hn => ⟨rfl, fun k => hn ((hS b).1 k)⟩))
    · intro r row hr; cases r <;> cases hr
    · intro r _; rfl
    · rw [hlk]
      simp only [if_true]
      have e1 : own ρ = fun _ => False := by funext b; simp [own, ρ]
      rw [e1]; exact hj
  refine wpIn_mono (hgw hJ (fun _ => undef) _ w hst) ?_
  rintro e a' w' ⟨T', H', q, ⟨⟨S1, ρ1, L1, hc1, hL1, hj1, Ds, hds, _, hDs⟩, _⟩⟩
  have hfin : (look T' 999999 = cntV xs.length ∨ look T' 999999 = stpV) → a'.defers = [] ∧ ∃ v, (results fn a'.tmps).run P w' = .ok v w' ∧ (∃ v', Ending.returned v = .returned v') ∧ ∃ S' O', (∀ b, S' b → b < w'.heap.size) ∧ (∀ b, O' b → b < w'.heap.size ∧ ¬ S' b) ∧ (J.rel (cntV xs.length) S' O' w' ∨ J.rel stpV S' O' w') := by
    intro hq
    refine ⟨?_, .tuple #[], ?_, ⟨_, rfl⟩, S1, own ρ1, hc1.wf.low, hc1.owned, ?_⟩
    · cases Ds with
      | nil => exact hds
      | cons D Ds => exact (hmk D (hDs D (by simp)).2.1).elim
    · have hrs : fn.results = #[] := by apply Array.ext'; simpa using hres
      unfold results
      rw [hrs]
      simp
    · rcases hq with hq | hq <;> rw [hq] at hj1
      · exact Or.inl hj1
      · exact Or.inr hj1
  cases e with
  | ret => exact hfin q
  | normal => exact hfin q
  | exit id => exact q.elim
  | goto l => exact q.elim
  | panic ch => exact q.elim
  | outgrown => exact q.elim

end
end Go.AM
/- The abstract machine, part L: a range over an iterator, and the contract of a function that holds such a range. No condition. -/
namespace Go.AM
open Go.RowKit
set_option linter.unusedVariables false
set_option linter.unusedSimpArgs false

/-- What a walk outside of iterators knows: what was foreign at its beginning lies as it lay; only blocks of 'B0' have been turned. -/
def JR (top : Bool) (w0 : World) (S0r : Nat → Prop) (hp : Nat → Option Obj) (B0 : Nat → Prop) : Jt :=
  { rel := fun _ S0 O w => (∀ b, S0r b → S0 b ∧ b < w.heap.size ∧ w.heap[b]? = hp b) ∧ Ext B0 w0 w ∧ (∀ b, O b → B0 b), mark := fun D => top = true ∧ w0.heap.size ≤ D }

def JC (top : Bool) (J : Jt) : Prop := ∃ w0 S0r hp B0, (∀ b, w0.heap.size ≤ b → B0 b) ∧ (∀ b, S0r b → b < w0.heap.size) ∧ J = JR top w0 S0r hp B0

theorem JR_ok {top : Bool} {w0 : World} {S0r : Nat → Prop} {hp : Nat → Option Obj} {B0 : Nat → Prop} (hB : ∀ b, w0.heap.size ≤ b → B0 b) : JOk (JR top w0 S0r hp B0) := by
  rintro y S0 O O' A A' ⟨h1, h2, h3⟩ hlow hown hext hO
  refine ⟨fun b hb => ?_, h2.trans (hext.mono fun b _ h => h3 b h), fun b hb => ?_⟩
  · obtain ⟨k1, k2, k3⟩ := h1 b hb
    exact ⟨k1, Nat.lt_of_lt_of_le k2 hext.size, (hext.block b k2 (fun h => (hown b h).2 k1)).trans k3⟩
  · rcases (hO b hb).2 with h | h
    · exact h3 b h
    · exact hB b (Nat.le_trans h2.size h)

theorem JC.ok {top : Bool} {J : Jt} (h : JC top J) : JOk J := by obtain ⟨w0, S0r, hp, B0, h1, _, rfl⟩ := h; exact JR_ok h1

/-- How a round may be left. -/
def roundQ (nt : Nat) (inv : Nat → Prop) (hp : Nat → Hp) (T1 : Tm) (Q : Exit → Tm → Hp → Prop) (n : Nat) : Exit → Tm → Hp → Prop
  | .normal, T', H' => inv (n + 1) ∧ Sub nt T' H' T1 (hp (n + 1))
  | .ret, T', H' => ∃ Hs, Sub nt T' H' T1 Hs ∧ Q .ret T1 Hs
  | .exit id, T', H' => ∃ Hs, Sub nt T' H' T1 Hs ∧ Q (.exit id) T1 Hs
  | _, _, _ => False

def onlyN (K : Tm → Hp → Prop) : Exit → Tm → Hp → Prop
  | .normal => K
  | _ => fun _ _ => False

theorem foldl_set_size : ∀ (l : List (Tmp × Value)) (t : Array Value), (l.foldl (fun t (p : Tmp × Value) => t.setIfInBounds p.1 p.2) t).size = t.size
  | [], t => rfl
  | (p, v) :: l, t => by simp only [List.foldl_cons]; rw [foldl_set_size l]; simp

theorem foldl_set_other : ∀ (l : List (Tmp × Value)) (t : Array Value) (i : Nat), i ∉ l.map (·.1) → (l.foldl (fun t (p : Tmp × Value) => t.setIfInBounds p.1 p.2) t).getD i undef = t.getD i undef
  | [], t, i, _ => rfl
  | (p, v) :: l, t, i, h => by
    simp only [List.map_cons, List.mem_cons, not_or] at h
    simp only [List.foldl_cons]
    rw [foldl_set_other l _ i h.2]
    simp only [Array.getD_eq_getD_getElem?]
    rw [Array.getElem?_setIfInBounds_ne (fun e => h.1 e.symm)]

theorem foldl_set_at : ∀ (l : List (Tmp × Value)) (t : Array Value) (p : Tmp) (v : Value), (l.map (·.1)).Nodup → (p, v) ∈ l → p < t.size → (l.foldl (fun t (p : Tmp × Value) => t.setIfInBounds p.1 p.2) t).getD p undef = v
  | (q, u) :: l, t, p, v, hn, hm, hp => by
    simp only [List.map_cons, List.nodup_cons] at hn
    simp only [List.foldl_cons]
    rcases List.mem_cons.1 hm with e | hm
    · cases e
      rw [foldl_set_other l _ q hn.1]
      simp only [Array.getD_eq_getD_getElem?]
      rw [Array.getElem?_setIfInBounds_self_of_lt hp]; rfl
    · exact foldl_set_at l _ p v hn.2 hm (by simpa using hp)

/-- The slots at a round's beginning. -/
theorem look_zip {R : Nat → AV → Prop} : ∀ (ps : List Tmp) (x : List AV) (T : Tm) (t : Nat), (t ∉ ps → R t (look T t)) → (∀ (i : Nat) (p : Tmp) (c : AV), ps[i]? = some p → x[i]? = some c → R p c) → ps.length = x.length → R t (look (ps.zip x ++ T) t)
  | [], [], T, t, h, _, _ => by simpa using h
  | p :: ps, c :: x, T, t, h, hx, hl => by
    simp only [List.zip_cons_cons, List.cons_append, look]
    split
    · rename_i e; subst e; exact hx 0 t c rfl rfl
    · rename_i e
      exact look_zip ps x T t (fun hn => h (by simp [e, hn])) (fun i p c h1 h2 => hx (i + 1) p c h1 h2) (by simpa using hl)

section
variable {P : Program} {nt : Nat} {kp : List Nat} {T : Tm} {H : Hp} {Q : Exit → Tm → Hp → Prop}

theorem ext_putObj {B : Nat → Prop} {w : World} {l : Nat} {o : Obj} (hB : B l) (hne : ∀ c t s, w.heap[l]? ≠ some (Obj.cells c t s)) : Ext B w (w.putObj l o) := by
  refine ⟨rfl, rfl, rfl, by simp, fun b hb hn => World.putObj_heap_other (fun e => hn (by rw [e]; exact hB)), fun b c t s hc => ?_⟩
  by_cases e : b = l
  · subst e; exact absurd hc (hne c t s)
  · exact ⟨c, t, s, (World.putObj_heap_other e).trans hc, rfl⟩

theorem size_putObj' (w : World) (l : Nat) (o : Obj) : (w.putObj l o).heap.size = w.heap.size := by simp

/-- THE STATE OF A LOOP between two rounds. -/
structure Base (W1 w0 w : World) (S0 B0 : Nat → Prop) (nt : Nat) (T1 : Tm) (a : Act) (D l : Nat) (Hx : Hp) (rec : Loop) (Si O : Nat → Prop) (W : World) (Sc : Nat → Prop) (ρc : Nat → Option Loc) (Lc : Nat → Prop) : Prop where
  core : Core anyB Sc nt W ρc Lc (look T1) (hget Hx) (bare a)
  len : ∀ r, Lc r → r < Hx.length
  its : ∀ b, O b → Sc b ∧ W1.heap.size ≤ b
  mine : ∀ b, own ρc b → Si b ∧ B0 b
  foreign : ∀ b, (S0 b ∨ b = D ∨ b = l) → Sc b ∧ Si b
  within : ∀ b, Sc b → Si b ∨ O b
  record : W.heap[l]? = some (.loop rec)
  mark : W.heap[D]? = some (.deferred (some []))
  ext : Ext B0 w0 W
  size : W1.heap.size ≤ W.heap.size
  old : ∀ b, S0 b → W.heap[b]? = w.heap[b]?

theorem Base.step {W1 w0 w : World} {S0 B0 : Nat → Prop} {nt : Nat} {T1 : Tm} {a : Act} {D l : Nat} {Hx : Hp} {rec : Loop} {Si O O' : Nat → Prop} {A A' : World} {Sc : Nat → Prop} {ρc : Nat → Option Loc} {Lc : Nat → Prop} (h : Base W1 w0 w S0 B0 nt T1 a D l Hx rec Si O A Sc ρc Lc) (hB : ∀ b, W1.heap.size ≤ b → B0 b)
    (hlow : ∀ b, Si b → b < A.heap.size) (hown : ∀ b, O b → b < A.heap.size ∧ ¬ Si b) (hext : Ext O A A') (hO : ∀ b, O' b → b < A'.heap.size ∧ (O b ∨ A.heap.size ≤ b)) :
    Base W1 w0 w S0 B0 nt T1 a D l Hx rec Si O' A' (fun b => (Sc b ∧ Si b) ∨ O' b) ρc Lc := by
  have hk : ∀ b, Si b → A'.heap[b]? = A.heap[b]? := fun b hb => hext.block b (hlow b hb) (fun k => (hown b k).2 hb)
  refine ⟨h.core.foreign hext.size (fun b hb hn => hext.block b hb (fun k => hn (h.its b k).1)) ?_, h.len, ?_, h.mine, ?_, ?_, ?_, ?_, ?_, Nat.le_trans h.size hext.size, ?_⟩
  · rintro b (⟨h1, _⟩ | h1)
    · exact ⟨Nat.lt_of_lt_of_le (h.core.wf.low b h1) hext.size, Or.inl h1⟩
    · refine ⟨(hO b h1).1, ?_⟩
      rcases (hO b h1).2 with h2 | h2
      · exact Or.inl (h.its b h2).1
      · exact Or.inr h2
  · intro b hb
    refine ⟨Or.inr hb, ?_⟩
    rcases (hO b hb).2 with h2 | h2
    · exact (h.its b h2).2
    · exact Nat.le_trans h.size h2
  · intro b hb; exact ⟨Or.inl (h.foreign b hb), (h.foreign b hb).2⟩
  · rintro b (⟨_, h1⟩ | h1)
    · exact Or.inl h1
    · exact Or.inr h1
  · rw [hk l (h.foreign l (Or.inr (Or.inr rfl))).2]; exact h.record
  · rw [hk D (h.foreign D (Or.inr (Or.inl rfl))).2]; exact h.mark
  · exact h.ext.trans (hext.mono fun b _ hb => hB b (h.its b hb).2)
  · intro b hb; rw [hk b (h.foreign b (Or.inl hb)).2]; exact h.old b hb

/-- A RANGE OVER AN ITERATOR. 'T1': the slots that stay, as they are between rounds; 'hp n': the rows behind n rounds. -/
theorem gwp_range {J : Jt} (hJC : JC true J) (T1 : Tm) (kl : List Nat) (hp : Nat → Hp) (inv : Nat → Prop) {g : Operand} {ps : Array Tmp} {assign body : Code} {f : FuncId} {caps : List AV} {xs : List (List AV)} (hg : evT (look T) g = .clo f caps) (hnr : caps.all (AV.noRef 2) = true) (hic : IterCall P f caps xs) (hnt : nt ≤ 999999)
    (hps : ps.toList.Nodup) (hpl : ∀ p ∈ ps.toList, p < nt ∧ p ∉ kl) (hx : ∀ x ∈ xs, x.length = ps.size)
    (h0 : inv 0) (hs0 : Sub nt T H T1 (hp 0)) (hT1 : ∀ t, t ∉ kl → look T1 t = .any)
    (round : ∀ n x, xs[n]? = some x → inv n → ∀ (l : Nat) (J1 : Jt), JC false J1 → GWp P (some l) J1 nt kl assign (ps.toList.zip x ++ T1) (hp n) (onlyN fun T' H' => ∀ J2 : Jt, JC false J2 → GWp P (some l) J2 nt kl body T' H' (roundQ nt inv hp T1 Q n)))
    (done : inv xs.length → Q .normal T1 (hp xs.length)) : GWp P none J nt kp (.rangeFunc g ps assign body) T H Q := by
  intro hJ kv a w hs
  obtain ⟨w0, S0r, hp0, B0, hB0, hlow0, rfl⟩ := hJC
  obtain ⟨⟨S0, ρ, L, hc, hL, hj, hm⟩, hk⟩ := hs
  obtain ⟨ρ1, L1, hc1, hL1, ho1⟩ := hc.sub hL hs0
  obtain ⟨hj1, hj2, hj3⟩ := hj
  have hgv := eval_repG (a := a) hc.tmps g
  rw [hg] at hgv
  obtain ⟨vs, hgv, hlen, hcaps⟩ := clo_cells hgv
  have hcp : ∀ (i : Nat) c x, caps[i]? = some c → vs[i]? = some x → RepP w (Sx S0 ρ) c x := fun i c x h1 h2 => noRef_rep 2 _ _ (List.all_eq_true.1 hnr _ (List.mem_of_getElem? h1)) (hcaps i c x h1 h2)
  refine wpIn_rangeFunc (fun fn _ => ?_)
  obtain ⟨rec, hrec⟩ : ∃ rec : LoopState → Option Code → Loop, rec = fun st pe => { state := st, pending := pe, fn, tmps := a.tmps, params := ps, assign, body, defers := w.heap.size } := ⟨_, rfl⟩
  obtain ⟨W1, hW1⟩ : ∃ W1, (w.alloc (.deferred (some []))).alloc (.loop (rec .ready none)) = W1 := ⟨_, rfl⟩
  have hsz1 : W1.heap.size = w.heap.size + 2 := by rw [← hW1]; simp
  have hL1' : W1.heap[w.heap.size + 1]? = some (.loop (rec .ready none)) := by
    rw [← hW1]; have := World.alloc_heap_new (w.alloc (.deferred (some []))) (.loop (rec .ready none)); rwa [World.size_alloc] at this
  have hK1 : W1.heap[w.heap.size]? = some (.deferred (some [])) := by
    rw [← hW1]; exact (Below.heap_alloc _ _ _ (by simp)).trans (World.alloc_heap_new w _)
  have hold1 : ∀ b, b < w.heap.size → W1.heap[b]? = w.heap[b]? := by
    intro b hb
    rw [← hW1]
    exact (Below.heap_alloc _ _ _ (by simp; omega)).trans (Below.heap_alloc _ _ _ hb)
  have hext1 : Ext (fun _ => False) w W1 := Ext.of_same (by rw [← hW1]; rfl) (by rw [← hW1]; rfl) (by rw [← hW1]; rfl) (by omega) hold1
  have hw01 : w0.heap.size ≤ w.heap.size := hj2.size
  have hBW : ∀ b, w.heap.size ≤ b → B0 b := fun b hb => hB0 b (Nat.le_trans hw01 hb)
  have hevx : a.eval g = .func (.func f) #[] vs.toArray := hgv
  refine ⟨w.heap.size + 1, [markOf w.heap.size], W1, { target := .fn (.func f) vs.toArray, args := #[.func (.yield (w.heap.size + 1)) #[] #[]] }, W1, f,
    #[.func (.yield (w.heap.size + 1)) #[] #[]] ++ vs.toArray, W1, ?_, ?_, fun _ _ => trivial, ?_, fr_depth, ?_⟩
  · rw [← hW1, hrec]; exact run_enterLoop_outer _ _ _ _ _
  · simp only [resolve, hevx]
    simp [go_sem]
  · have eg := hic.1
    simp [invoke, go_sem, eg]
  let B := Base W1 w0 w S0 B0 nt T1 a w.heap.size (w.heap.size + 1)
  let Jit : Jt :=
    { rel := fun y Si O W => (∃ n, y = cntV n ∧ inv n ∧ ∃ Sc ρc Lc, B (hp n) (rec .ready none) Si O W Sc ρc Lc) ∨
        (y = stpV ∧ ∃ c Hs, ((c = .ret ∧ Q .ret T1 Hs) ∨ ∃ id, c = .exit id ∧ Q (.exit id) T1 Hs) ∧ ∃ Sc ρc Lc, B Hs (rec .done (some c)) Si O W Sc ρc Lc), mark := fun _ => False }
  have hBW1 : ∀ b, W1.heap.size ≤ b → B0 b := fun b hb => hBW b (by omega)
  have hJit : JOk Jit := by
    rintro y Si O O' A A' hr hlow hown hext hO
    rcases hr with ⟨n, rfl, hi, Sc, ρc, Lc, hb⟩ | ⟨rfl, c, Hs, hq, Sc, ρc, Lc, hb⟩
    · exact Or.inl ⟨n, rfl, hi, _, _, _, hb.step hBW1 hlow hown hext hO⟩
    · exact Or.inr ⟨rfl, c, Hs, hq, _, _, _, hb.step hBW1 hlow hown hext hO⟩
  let Sit : Nat → Prop := fun b => S0 b ∨ own ρ b ∨ b = w.heap.size ∨ b = w.heap.size + 1
  have hSitlow : ∀ b, Sit b → b < W1.heap.size := by
    rintro b (h | h | h | h)
    · have := hc.wf.low b h; omega
    · have := (hc.owned b h).1; omega
    · omega
    · omega
  refine callsIn_fr.2 (Calls.mono (hic.2 Sit W1 vs hSitlow hlen ?_ (w.heap.size + 1) Jit hJit (fun _ h => h) ?_ ?_) ?_)
  · intro i c x h1 h2
    refine (hcp i c x h1 h2).ext hext1.size (fun b hb hn => ⟨hold1 b hb, ?_⟩)
    rintro (h | h | h | h)
    · exact hn (Or.inl h)
    · exact hn (Or.inr h)
    · omega
    · omega
  · -- A ROUND
    intro n x hxn Si O W vs' hrel hlow howned hlen' hreps
    obtain ⟨hi, Sc, ρc, Lc, hb⟩ : inv n ∧ ∃ Sc ρc Lc, B (hp n) (rec .ready none) Si O W Sc ρc Lc := by
      rcases hrel with ⟨n', e, hi, hb⟩ | ⟨e, _⟩
      · rw [cntV_inj] at e; subst e; exact ⟨hi, hb⟩
      · exact absurd e (cnt_stp n)
    have hxl : x.length = ps.size := hx x (List.mem_of_getElem? hxn)
    have hy := run_yield (P := P) (args := vs'.toArray) hb.record (by simp only [hrec, List.size_toArray]; omega)
    rw [hrec] at hy
    refine ⟨fn, _, assign, body, hy, roundIn_of_wpIn (F := Fence.wide) trivial ?_⟩
    obtain ⟨tm, htm⟩ : ∃ tm, tm = (ps.zip vs'.toArray).foldl (fun tmps (t, a) => tmps.setIfInBounds t a) a.tmps := ⟨_, rfl⟩
    have htm' : tm = ((ps.toList.zip vs').foldl (fun t (p : Tmp × Value) => t.setIfInBounds p.1 p.2) a.tmps) := by rw [htm, ← Array.foldl_toList]; simp
    have hzip : ∀ p ∈ (ps.toList.zip vs').map (·.1), p ∈ ps.toList := by
      intro p hp'
      obtain ⟨q, hq, rfl⟩ := List.mem_map.1 hp'
      exact (List.of_mem_zip hq).1
    have hzl : (ps.toList.zip vs').map (·.1) = ps.toList := by
      rw [List.map_fst_zip]; simp; omega
    have hother : ∀ t, t ∉ ps.toList → tm.getD t undef = a.tmps.getD t undef := by
      intro t ht; rw [htm']; exact foldl_set_other _ _ _ (by rw [hzl]; exact ht)
    have hsize : tm.size = nt := by rw [htm', foldl_set_size]; exact hc.size
    have hat : ∀ (i : Nat) p v, ps.toList[i]? = some p → vs'[i]? = some v → tm.getD p undef = v := by
      intro i p v h1 h2
      rw [htm']
      refine foldl_set_at _ _ p v (by rw [hzl]; exact hps) ?_ (by have := hc.size; have h3 := (hpl p (List.mem_of_getElem? h1)).1; show p < a.tmps.size; rw [show a.tmps.size = nt from hc.size]; exact h3)
      exact List.mem_of_getElem? (i := i) (by rw [List.getElem?_zip_eq_some]; exact ⟨h1, h2⟩)
    show assign.wpIn (fr (some (w.heap.size + 1))) 0 P _ { tmps := (ps.zip vs'.toArray).foldl (fun tmps (t, a) => tmps.setIfInBounds t a) a.tmps, defers := [] } W
    rw [← htm]
    let J1 : Jt := JR false W Sc (fun b => W.heap[b]?) (fun b => own ρc b ∨ W.heap.size ≤ b)
    have hJ1 : JC false J1 := ⟨W, Sc, _, _, fun b hb => Or.inr hb, hb.core.wf.low, rfl⟩
    have hsg : SG J1 nt kl (fun t => a.tmps.getD t undef) (ps.toList.zip x ++ T1) (hp n) { tmps := tm, defers := [] } W := by
      refine ⟨⟨Sc, ρc, Lc, ⟨hb.core.wf, hsize, rfl, fun t => ?_, hb.core.rows, hb.core.dead⟩, hb.len, ⟨fun b h => ⟨h, hb.core.wf.low b h, rfl⟩, Ext.refl _ _, fun b h => Or.inl h⟩, [], rfl, List.nodup_nil, by simp⟩, fun t ht => ?_⟩
      · refine look_zip (R := fun t c => RepV W (Sx Sc ρc) ρc Lc c (tm.getD t undef)) ps.toList x T1 t (fun ht => ?_) (fun i p c h1 h2 => ?_) (by simp [hxl])
        · rw [hother t ht]; exact hb.core.tmps t
        · obtain ⟨v, hv⟩ : ∃ v, vs'[i]? = some v := ⟨_, List.getElem?_eq_getElem (by have := (List.getElem?_eq_some_iff.1 h2).1; omega)⟩
          rw [hat i p v h1 hv]
          refine .pure _ _ ((hreps i c v h2 hv).ext (Nat.le_refl _) (fun b _ hn => ⟨rfl, ?_⟩))
          rintro (h | h)
          · exact hn (hb.within b h)
          · exact hn (Or.inl (hb.mine b h).1)
      · exact hother t (fun h => (hpl t h).2 ht)
    refine wpIn_mono (round n x hxn hi (w.heap.size + 1) J1 hJ1 hJ1.ok _ _ W hsg) ?_
    rintro e a1 w1 ⟨T', H', q, s⟩
    cases e with
    | normal =>
      obtain ⟨⟨S1, ρ1', L1', hc2, hL2, ⟨hk1, hk2, hk3⟩, hmk1⟩, hkeep1⟩ := s
      have hsW1 : W.heap.size ≤ w1.heap.size := hk2.size
      have hlS : Sc (w.heap.size + 1) := (hb.foreign _ (Or.inr (Or.inr rfl))).1
      have hDS : Sc w.heap.size := (hb.foreign _ (Or.inr (Or.inl rfl))).1
      have hl1 : w1.heap[w.heap.size + 1]? = some (.loop (rec .ready none)) := (hk1 _ hlS).2.2.trans hb.record
      have hbr := run_beginRound (P := P) hl1 (by rw [hrec])
      refine ⟨_, hbr, ?_⟩
      obtain ⟨w2, hw2⟩ : ∃ w2, w2 = w1.putObj (w.heap.size + 1) (.loop { rec .ready none with state := .busy }) := ⟨_, rfl⟩
      rw [← hw2]
      have hsz2 : w2.heap.size = w1.heap.size := by rw [hw2]; simp
      have hne2 : ∀ b, b ≠ w.heap.size + 1 → w2.heap[b]? = w1.heap[b]? := fun b hb => by rw [hw2]; exact World.putObj_heap_other hb
      have hl2 : w2.heap[w.heap.size + 1]? = some (.loop { rec .ready none with state := .busy }) := by rw [hw2]; exact World.putObj_heap_same (hk1 _ hlS).2.1
      have hc3 : Core anyB S1 nt w2 ρ1' L1' (look T') (hget H') (bare a1) := hc2.foreign (by omega) (fun b hb' hn => hne2 b (fun e => hn (by rw [e]; exact (hk1 _ hlS).1))) (fun b h => ⟨by rw [hsz2]; exact hc2.wf.low b h, Or.inl h⟩)
      let J2 : Jt := JR false w2 S1 (fun b => w2.heap[b]?) (fun b => own ρ1' b ∨ w2.heap.size ≤ b)
      have hJ2 : JC false J2 := ⟨w2, S1, _, _, fun b hb => Or.inr hb, fun b h => by rw [hsz2]; exact hc2.wf.low b h, rfl⟩
      have hmk2 : Marks J2 a1.defers S1 w2 := by
        obtain ⟨Ds, h1, h2, h3⟩ := hmk1
        cases Ds with
        | nil => exact ⟨[], h1, h2, by simp⟩
        | cons D Ds => exact absurd (h3 D (by simp)).2.1.1 (by simp)
      have hsg2 : SG J2 nt kl (fun t => a.tmps.getD t undef) T' H' a1 w2 :=
        ⟨⟨S1, ρ1', L1', hc3, hL2, ⟨fun b h => ⟨h, by rw [hsz2]; exact hc2.wf.low b h, rfl⟩, Ext.refl _ _, fun b h => Or.inl h⟩, hmk2⟩, hkeep1⟩
      refine wpIn_mono (q J2 hJ2 hJ2.ok _ a1 w2 hsg2) ?_
      rintro e a3 w3 ⟨T3, H3, q3, ⟨⟨S3, ρ3, L3, hc4, hL4, ⟨hn1, hn2, hn3⟩, _⟩, hkeep3⟩⟩
      have hsz3 : w2.heap.size ≤ w3.heap.size := hn2.size
      have hlS1 : S1 (w.heap.size + 1) := (hk1 _ hlS).1
      have hl3 : w3.heap[w.heap.size + 1]? = some (.loop { rec .ready none with state := .busy }) := (hn1 _ hlS1).2.2.trans hl2
      have hbsize := hb.size
      have fin : ∀ (Hx : Hp), Sub nt T3 H3 T1 Hx → ∀ (st : LoopState) (pe : Option Code) (w4 : World), w4 = w3.putObj (w.heap.size + 1) (.loop (rec st pe)) →
          W.heap.size ≤ w4.heap.size ∧ (∀ b, b < W.heap.size → ¬ Si b → w4.heap[b]? = W.heap[b]?) ∧ ∃ Sc ρc Lc, B Hx (rec st pe) (Grown Si W w4) O w4 Sc ρc Lc := by
        intro Hx hsub st pe w4 hw4
        obtain ⟨ρ4, L4, hc5, hL5, ho4⟩ := hc4.sub hL4 hsub
        have hsz4 : w4.heap.size = w3.heap.size := by rw [hw4]; simp
        have hne4 : ∀ b, b ≠ w.heap.size + 1 → w4.heap[b]? = w3.heap[b]? := fun b hb => by rw [hw4]; exact World.putObj_heap_other hb
        have hl4 : w4.heap[w.heap.size + 1]? = some (.loop (rec st pe)) := by rw [hw4]; exact World.putObj_heap_same (hn1 _ hlS1).2.1
        have hlSi : Si (w.heap.size + 1) := (hb.foreign _ (Or.inr (Or.inr rfl))).2
        have hunch : ∀ b, b < W.heap.size → ¬ Si b → w4.heap[b]? = W.heap[b]? := by
          intro b hlt hnS
          have e1 : w1.heap[b]? = W.heap[b]? := hk2.block b hlt (by
            rintro (h | h)
            · exact hnS (hb.mine b h).1
            · omega)
          have hne : b ≠ w.heap.size + 1 := fun e => hnS (by rw [e]; exact hlSi)
          have e3 : w3.heap[b]? = w2.heap[b]? := hn2.block b (by omega) (by
            rintro (h | h)
            · rcases hk3 b h with h' | h'
              · exact hnS (hb.mine b h').1
              · omega
            · omega)
          rw [hne4 b hne, e3, hne2 b hne, e1]
        have hfor : ∀ b, Sc b → b ≠ w.heap.size + 1 → w4.heap[b]? = W.heap[b]? := by
          intro b hS hne
          have k1 := hk1 b hS
          rw [hne4 b hne]
          refine ((hn1 b k1.1).2.2).trans ?_
          show w2.heap[b]? = _
          rw [hne2 b hne]
          exact k1.2.2
        refine ⟨by omega, hunch, fun b => S3 b ∧ (Grown Si W w4 b ∨ O b), ρ4, L4, ⟨?_, hL5, ?_, ?_, ?_, fun b h => h.2, hl4, ?_, ?_, by omega, ?_⟩⟩
        · have hcore : Core anyB S3 nt w3 ρ4 L4 (look T1) (hget Hx) (bare a) := by
            refine ⟨hc5.wf, hc.size, rfl, fun t => ?_, hc5.rows, hc5.dead⟩
            by_cases ht : t ∈ kl
            · have h1 := hc5.tmps t
              have h2 : (bare a3).tmps.getD t undef = a.tmps.getD t undef := hkeep3 t ht
              rw [h2] at h1
              exact h1
            · rw [hT1 t ht]; exact .pure _ _ (.any _)
          refine hcore.foreign (by omega) (fun b hb' hn => hne4 b (fun e => hn (by rw [e]; exact (hn1 _ hlS1).1))) (fun b h => ⟨by rw [hsz4]; exact hc5.wf.low b h.1, Or.inl h.1⟩)
        · intro b hO
          have h1 := hb.its b hO
          exact ⟨⟨(hn1 b (hk1 b h1.1).1).1, Or.inr hO⟩, h1.2⟩
        · intro b ho
          have h3 := hc4.owned b (ho4 b ho)
          rcases hn3 b (ho4 b ho) with h | h
          · rcases hk3 b h with h' | h'
            · exact ⟨Or.inl (hb.mine b h').1, (hb.mine b h').2⟩
            · exact ⟨Or.inr ⟨h', by omega⟩, hBW1 b (by omega)⟩
          · exact ⟨Or.inr ⟨by omega, by omega⟩, hBW1 b (by omega)⟩
        · intro b h
          have h1 := hb.foreign b h
          exact ⟨⟨(hn1 b (hk1 b h1.1).1).1, Or.inl (Or.inl h1.2)⟩, Or.inl h1.2⟩
        · rw [hfor _ hDS (by omega)]; exact hb.mark
        · refine hb.ext.trans ((hk2.mono (fun b _ h => ?_)).trans (?_ : Ext B0 w1 w4))
          · rcases h with h | h
            · exact (hb.mine b h).2
            · exact hBW1 b (by omega)
          · have e2 : Ext B0 w1 w2 := by rw [hw2]; exact ext_putObj (hBW _ (by omega)) (by intro c t s h; rw [hl1] at h; cases h)
            have e4 : Ext B0 w3 w4 := by rw [hw4]; exact ext_putObj (hBW _ (by omega)) (by intro c t s h; rw [hl3] at h; cases h)
            refine e2.trans ((hn2.mono (fun b _ h => ?_)).trans e4)
            rcases h with h | h
            · rcases hk3 b h with h' | h'
              · exact (hb.mine b h').2
              · exact hBW1 b (by omega)
            · exact hBW1 b (by omega)
        · intro b h
          have hlt := hc.wf.low b h
          rw [hfor b (hb.foreign b (Or.inl h)).1 (by omega)]
          exact hb.old b h
      cases e with
      | normal =>
        obtain ⟨hi', hsub⟩ := q3
        obtain ⟨f1, f2, f3⟩ := fin _ hsub .ready none _ rfl
        refine ⟨_, _, run_endRound (P := P) none hl3, ?_⟩
        have : ∀ W', W' = w3.putObj (w.heap.size + 1) (.loop (rec .ready none)) → W.heap.size ≤ W'.heap.size ∧ (∀ b, b < W.heap.size → ¬ Si b → W'.heap[b]? = W.heap[b]?) ∧
            ((Ending.returned (.bool true) = .returned (.bool true) ∧ Jit.rel (cntV (n + 1)) (Grown Si W W') O W') ∨ (Ending.returned (.bool true) = .returned (.bool false) ∧ Jit.rel stpV (Grown Si W W') O W')) := by
          rintro W' rfl
          exact ⟨f1, f2, Or.inl ⟨rfl, Or.inl ⟨n + 1, rfl, hi', f3⟩⟩⟩
        exact this _ (by rw [hrec]; simp)
      | ret =>
        obtain ⟨Hs, hsub, hq⟩ := q3
        obtain ⟨f1, f2, f3⟩ := fin _ hsub .done (some .ret) _ rfl
        refine ⟨_, _, run_endRound (P := P) (some .ret) hl3, ?_⟩
        have : ∀ W', W' = w3.putObj (w.heap.size + 1) (.loop (rec .done (some .ret))) → W.heap.size ≤ W'.heap.size ∧ (∀ b, b < W.heap.size → ¬ Si b → W'.heap[b]? = W.heap[b]?) ∧
            ((Ending.returned (.bool false) = .returned (.bool true) ∧ Jit.rel (cntV (n + 1)) (Grown Si W W') O W') ∨ (Ending.returned (.bool false) = .returned (.bool false) ∧ Jit.rel stpV (Grown Si W W') O W')) := by
          rintro W' rfl
          exact ⟨f1, f2, Or.inr ⟨rfl, Or.inr ⟨rfl, _, Hs, Or.inl ⟨rfl, hq⟩, f3⟩⟩⟩
        exact this _ (by rw [hrec]; simp)
      | exit id =>
        obtain ⟨Hs, hsub, hq⟩ := q3
        obtain ⟨f1, f2, f3⟩ := fin _ hsub .done (some (.exit id)) _ rfl
        refine ⟨_, _, run_endRound (P := P) (some (.exit id)) hl3, ?_⟩
        have : ∀ W', W' = w3.putObj (w.heap.size + 1) (.loop (rec .done (some (.exit id)))) → W.heap.size ≤ W'.heap.size ∧ (∀ b, b < W.heap.size → ¬ Si b → W'.heap[b]? = W.heap[b]?) ∧
            ((Ending.returned (.bool false) = .returned (.bool true) ∧ Jit.rel (cntV (n + 1)) (Grown Si W W') O W') ∨ (Ending.returned (.bool false) = .returned (.bool false) ∧ Jit.rel stpV (Grown Si W W') O W')) := by
          rintro W' rfl
          exact ⟨f1, f2, Or.inr ⟨rfl, Or.inr ⟨rfl, _, Hs, Or.inr ⟨id, rfl, hq⟩, f3⟩⟩⟩
        exact this _ (by rw [hrec]; simp)
      | goto t => exact q3.elim
      | panic chain => exact q3.elim
      | outgrown => exact q3.elim
    | exit id => exact q.elim
    | goto t => exact q.elim
    | ret => exact q.elim
    | panic chain => exact q.elim
    | outgrown => exact q.elim
  · -- AT THE BEGINNING
    refine Or.inl ⟨0, rfl, h0, fun b => S0 b ∨ b = w.heap.size ∨ b = w.heap.size + 1, ρ1, L1, ⟨hc1.foreign hext1.size (fun b hb _ => hold1 b hb) ?_, hL1, fun b h => h.elim, fun b hb => ⟨Or.inr (Or.inl (ho1 b hb)), hj3 b (ho1 b hb)⟩, ?_, ?_, hL1', hK1, hj2.trans (hext1.mono fun b _ h => h.elim), Nat.le_refl _, fun b hb => hold1 b (hc.wf.low b hb)⟩⟩
    · rintro b (h | h | h)
      · have := hc.wf.low b h; exact ⟨by omega, Or.inl h⟩
      · exact ⟨by omega, Or.inr (by omega)⟩
      · exact ⟨by omega, Or.inr (by omega)⟩
    · rintro b (h | h | h)
      · exact ⟨Or.inl h, Or.inl h⟩
      · exact ⟨Or.inr (Or.inl h), Or.inr (Or.inr (Or.inl h))⟩
      · exact ⟨Or.inr (Or.inr h), Or.inr (Or.inr (Or.inr h))⟩
    · rintro b (h | h | h)
      · exact Or.inl (Or.inl h)
      · exact Or.inl (Or.inr (Or.inr (Or.inl h)))
      · exact Or.inl (Or.inr (Or.inr (Or.inr h)))
  · -- BEHIND THE ITERATOR
    rintro e W2 ⟨⟨v, rfl⟩, S', O', hl', ho', hrel⟩
    have fin : ∀ (Hx : Hp) (rc : Loop) (Sc : Nat → Prop) (ρc : Nat → Option Loc) (Lc : Nat → Prop), B Hx rc S' O' W2 Sc ρc Lc → ∀ o, SG (JR true w0 S0r hp0 B0) nt kp kv T1 Hx { a with defers := [markOf w.heap.size] ++ a.defers } (W2.putObj (w.heap.size + 1) o) := by
      intro Hx rc Sc ρc Lc hb o
      obtain ⟨w4, hw4⟩ : ∃ w4, w4 = W2.putObj (w.heap.size + 1) o := ⟨_, rfl⟩
      rw [← hw4]
      have hsz4 : w4.heap.size = W2.heap.size := by rw [hw4]; simp
      have hne4 : ∀ b, b ≠ w.heap.size + 1 → w4.heap[b]? = W2.heap[b]? := fun b hb => by rw [hw4]; exact World.putObj_heap_other hb
      have hlS : Sc (w.heap.size + 1) := (hb.foreign _ (Or.inr (Or.inr rfl))).1
      obtain ⟨Ds, hd1, hd2, hd3⟩ := hm
      refine ⟨⟨Sc, ρc, Lc, ?_, hb.len, ⟨?_, ?_, fun b h => (hb.mine b h).2⟩, w.heap.size :: Ds, by simp [hd1], ?_, ?_⟩, hk⟩
      · exact hb.core.foreign (by omega) (fun b hb' hn => hne4 b (fun e => hn (by rw [e]; exact hlS))) (fun b h => ⟨by rw [hsz4]; exact hb.core.wf.low b h, Or.inl h⟩)
      · intro b h
        obtain ⟨k1, k2, k3⟩ := hj1 b h
        refine ⟨(hb.foreign b (Or.inl k1)).1, by have := hb.size; omega, ?_⟩
        rw [hne4 b (by omega), hb.old b k1]; exact k3
      · rw [hw4]; exact hb.ext.trans (ext_putObj (hBW _ (by omega)) (by intro c t s h; rw [hb.record] at h; cases h))
      · rw [List.nodup_cons]
        exact ⟨fun h => by have := hc.wf.low _ (hd3 _ h).1; omega, hd2⟩
      · intro D hD
        rcases List.mem_cons.1 hD with rfl | hD
        · exact ⟨(hb.foreign _ (Or.inr (Or.inl rfl))).1, ⟨rfl, hw01⟩, by rw [hne4 _ (by omega)]; exact hb.mark⟩
        · obtain ⟨k1, k2, k3⟩ := hd3 D hD
          have := hc.wf.low D k1
          exact ⟨(hb.foreign D (Or.inl k1)).1, k2, by rw [hne4 _ (by omega), hb.old D k1]; exact k3⟩
    have hcase : (inv xs.length ∧ ∃ Sc ρc Lc, B (hp xs.length) (rec .ready none) S' O' W2 Sc ρc Lc) ∨
        (∃ c Hs, ((c = .ret ∧ Q .ret T1 Hs) ∨ ∃ id, c = .exit id ∧ Q (.exit id) T1 Hs) ∧ ∃ Sc ρc Lc, B Hs (rec .done (some c)) S' O' W2 Sc ρc Lc) := by
      rcases hrel with hrel | hrel
      · rcases hrel with ⟨n', e, hi, hb⟩ | ⟨e, _⟩
        · rw [cntV_inj] at e; subst e; exact Or.inl ⟨hi, hb⟩
        · exact absurd e (cnt_stp _)
      · rcases hrel with ⟨n', e, hi, hb⟩ | ⟨_, h⟩
        · exact absurd e.symm (cnt_stp _)
        · exact Or.inr h
    rcases hcase with ⟨hi, Sc, ρc, Lc, hb⟩ | ⟨c, Hs, hq, Sc, ρc, Lc, hb⟩
    · exact ⟨none, _, by have := run_endLoop (P := P) hb.record (by rw [hrec]; simp); rw [show (rec .ready none).pending = none by rw [hrec]] at this; exact this, T1, _, done hi, fin _ _ _ _ _ hb _⟩
    · refine ⟨some c, _, by have := run_endLoop (P := P) hb.record (by rw [hrec]; simp); rw [show (rec .done (some c)).pending = some c by rw [hrec]] at this; exact this, ?_⟩
      have hsg := fin _ _ _ _ _ hb
      rcases hq with ⟨rfl, hq⟩ | ⟨id, rfl, hq⟩
      · exact wpIn_ret ⟨T1, Hs, hq, hsg _⟩
      · exact wpIn_exit ⟨T1, Hs, hq, hsg _⟩

/-- The marks are taken. -/
theorem leaves_marks {fn : Func} {tmps : Array Value} {R : Ending → World → Prop} : ∀ (Ds : List Nat) (w' : World), Ds.Nodup → (∀ D ∈ Ds, w'.heap[D]? = some (.deferred (some []))) →
    (∀ w'', Ext (fun b => b ∈ Ds) w' w'' → w''.heap.size = w'.heap.size → ∃ v, (results fn tmps).run P w'' = .ok v w'' ∧ R (.returned v) w'') → LeavesInM Fence.wide 0 P fn tmps R (Ds.map markOf) .returning w'
  | [], w', _, _, h => h w' (Ext.refl _ _) rfl
  | D :: Ds, w', hn, hD, h => by
    rw [List.nodup_cons] at hn
    refine ⟨by simp, Or.inl ⟨D, _, rfl, run_takeDeferred (hD D (by simp)), ?_⟩⟩
    refine leaves_marks Ds _ hn.2 (fun D' hD' => ?_) (fun w'' hx hs => h w'' ?_ ?_)
    · rw [World.putObj_heap_other (fun e => hn.1 (by rw [← e]; exact hD'))]
      exact hD D' (by simp [hD'])
    · exact (ext_putObj (B := fun b => b ∈ D :: Ds) (by simp) (by intro c t s h; rw [hD D (by simp)] at h; cases h)).trans (hx.mono fun b _ hb => by simp [hb])
    · rw [hs]; simp

theorem look_argT' (xs : List AV) (t : Nat) : look (argT 0 xs) t = (xs[t]?).getD .any := by rw [look_argT]; simp

/-- A CONTRACT OUT OF A BODY that may hold ranges over functions. -/
theorem PureCall.of_bodyG {f : FuncId} {fn : Func} {c : Code} {args : List AV} {res : AV} (hf : P.funcs[f]? = some fn) (hb : fn.body = some c) (hname : (fn.name == "runtime.NumGoroutine") = false) (hnt : args.length ≤ fn.ntmps)
    (h : ∀ J : Jt, JC true J → GWp P none J fn.ntmps [] c (argT 0 args) [] (retQ P fn.results.toList res)) : PureCall P f args res := by
  have hn' : ¬ fn.name = "runtime.NumGoroutine" := by simpa using hname
  refine Or.inl ⟨fun w vs => by simp [callFunc, hf, hn', hb], ?_⟩
  intro S0 w vs hlow hlen hrep
  refine callsIn_wide.1 (callsIn_of_wp_marks (n := 0) (F := Fence.wide) hf hb trivial ?_)
  let ρ : Nat → Option Loc := fun _ => none
  have hS : ∀ b, Sx S0 ρ b ↔ S0 b := by
    intro b
    constructor
    · rintro (h | ⟨r, l, h1, _⟩)
      · exact h
      · cases h1
    · exact Or.inl
  have hsize : vs.toArray.size = args.length := by simp [hlen]
  let J : Jt := JR true w S0 (fun b => w.heap[b]?) (fun b => w.heap.size ≤ b)
  have hJ : JC true J := ⟨w, S0, _, _, fun b h => h, hlow, rfl⟩
  have hst : SG J fn.ntmps [] (fun _ => undef) (argT 0 args) [] { tmps := vs.toArray ++ Array.replicate (fn.ntmps - vs.toArray.size) undef, defers := [] } w := by
    refine ⟨⟨S0, ρ, fun _ => False, ⟨⟨?_, ?_, ?_, hlow, fun b h => trivial⟩, ?_, rfl, ?_, ?_, ?_⟩, fun r hr => hr.elim, ⟨fun b h => ⟨h, hlow b h, rfl⟩, Ext.refl _ _, ?_⟩, [], rfl, List.nodup_nil, by simp⟩, by simp⟩
    · intro r r' l l' b h1; cases h1
    · intro r l b h1; cases h1
    · intro r l h1; cases h1
    · show (vs.toArray ++ Array.replicate (fn.ntmps - vs.toArray.size) undef).size = fn.ntmps
      rw [Array.size_append, Array.size_replicate, hsize]; omega
    · intro t
      rw [look_argT']
      cases hx : args[t]? with
      | none => exact .pure _ _ (.any _)
      | some x =>
        have ht : t < args.length := (List.getElem?_eq_some_iff.1 hx).1
        have ht' : t < vs.length := by omega
        have hget : (vs.toArray ++ Array.replicate (fn.ntmps - vs.toArray.size) undef).getD t undef = vs[t] := by
          rw [Array.getD_eq_getD_getElem?, Array.getElem?_append_left (by simpa using ht')]
          simp [ht']
        show RepV w _ _ _ _ ((vs.toArray ++ Array.replicate (fn.ntmps - vs.toArray.size) undef).getD t undef)
        rw [hget]
        exact .pure _ _ ((hrep t x _ hx (List.getElem?_eq_getElem ht')).ext (Nat.le_refl _) (fun b _ hn => ⟨rfl, fun k => hn ((hS b).1 k)⟩))
    · intro r row hr; cases r <;> cases hr
    · intro r _; rfl
    · rintro b ⟨r, l, h1, _⟩; cases h1
  refine wpIn_mono (h J hJ hJ.ok (fun _ => undef) _ w hst) ?_
  rintro e a' w' ⟨T', H', q, ⟨⟨S1, ρ1, L1, hc1, hL1, ⟨hj1, hj2, hj3⟩, Ds, hds, hnd, hDs⟩, _⟩⟩
  have hfin : (resP P T' H' fn.results.toList fun xs => frzP H' 6 (tupOf xs) = res) → LeavesInM Fence.wide 0 P fn a'.tmps (fun e w' => ∃ v, e = .returned v ∧ RepP w' S0 res v ∧ Ext (fun _ => False) w w') a'.defers .returning w' := by
    intro hr
    rw [hds]
    refine leaves_marks Ds w' hnd (fun D hD => (hDs D hD).2.2) (fun w'' hx hsz => ?_)
    have hc2 : Core anyB S1 fn.ntmps w'' ρ1 L1 (look T') (hget H') (bare a') := hc1.foreign hx.size (fun b hb hn => hx.block b hb (fun hD => hn (hDs b hD).1)) (fun b hb => ⟨by rw [hsz]; exact hc1.wf.low b hb, Or.inl hb⟩)
    obtain ⟨xs, vs', h1, h2, h3, h4, h5⟩ := run_results hc2 fn.results.toList _ hr
    have hm : (fn.results.mapM fun (x : ResultVar) => (match x with
        | .tmp t => pure (a'.tmps.getD t undef)
        | .cell ad t => do loadVar t (← asAddr (a'.tmps.getD ad undef)) : Sem Value)).run P w'' = .ok vs'.toArray w'' := by
      rw [Array.mapM_eq_mapM_toList, Sem.run_map]
      have h1' : (fn.results.toList.mapM fun (x : ResultVar) => (match x with
        | .tmp t => pure (a'.tmps.getD t undef)
        | .cell ad t => do loadVar t (← asAddr (a'.tmps.getD ad undef)) : Sem Value)).run P w'' = .ok vs' w'' := h1
      rw [h1']; rfl
    have hrun : (results fn a'.tmps).run P w'' = .ok (if h : vs'.toArray.size = 1 then vs'.toArray[0] else .tuple vs'.toArray) w'' := by
      unfold results
      rw [Sem.run_bind]
      exact congrArg (fun (r : Result (Array Value)) => r.andThen fun a w' => Sem.run P (pure (if h : a.size = 1 then a[0] else Value.tuple a)) w') hm
    refine ⟨_, hrun, _, rfl, ?_, ?_⟩
    · have hfz : RepP w'' S1 res (if h : vs'.toArray.size = 1 then vs'.toArray[0] else .tuple vs'.toArray) := by
        rw [← h5]
        refine frzP_rep hc2.wf hc2.rows 6 _ _ ?_
        match xs, vs', h2, h3 with
        | [], [], _, _ => simp only [tupOf]; rw [dif_neg (by simp)]; exact .tup [] [] rfl (by simp)
        | [x], [v], _, h3 => simp only [tupOf]; rw [dif_pos (by simp)]; exact h3 0 x v rfl rfl
        | x :: y :: xs, v :: u :: vs', h2, h3 => simp only [tupOf]; rw [dif_neg (by simp)]; exact .tup _ (v :: u :: vs') h2 h3
      exact hfz.ext (Nat.le_refl _) (fun b _ hn => ⟨rfl, fun hb => hn (hj1 b hb).1⟩)
    · refine Ext.of_same (hx.os.trans hj2.os) (hx.tape.trans hj2.tape) (hx.output.trans hj2.output) (Nat.le_trans hj2.size hx.size) fun b hb => ?_
      rw [hx.block b (Nat.lt_of_lt_of_le hb hj2.size) (fun hD => ?_), hj2.block b hb (by omega)]
      have := (hDs b hD).2.1.2
      omega
  cases e with
  | ret => exact hfin q
  | normal => exact hfin q
  | exit id => exact q.elim
  | goto l => exact q.elim
  | panic ch => exact q.elim
  | outgrown => exact q.elim
end
end Go.AM
/- The abstract machine, part M: what simp knows of code in rounds and iterators. No condition. -/
namespace Go.AM
set_option linter.unusedVariables false
set_option linter.unusedSimpArgs false

attribute [simp] gOps guardM yArgs onlyN roundQ iterQ
@[congr] theorem gOps_congr {P : Program} {l0 : Nat} {xs : List (List AV)} {nt : Nat} {dsts : List (Option Tmp)} {l : List Oper} {T T' : Tm} {H H' : Hp} {K : Tm → Hp → Prop} (hT : T = T') (hH : H = H') : gOps P l0 xs nt dsts l T H K = gOps P l0 xs nt dsts l T' H' K := by rw [hT, hH]

@[simp] theorem renAV_cnt (g : List (Option Nat)) (n k : Nat) : renAV g (n + 1) (cntV k) = cntV k := by cases n <;> rfl
@[simp] theorem renAV_stp (g : List (Option Nat)) (n : Nat) : renAV g (n + 1) stpV = stpV := by cases n <;> rfl
@[simp] theorem renF_cnt (H : Nat → Option ARow) (g : List (Option Nat)) (n k : Nat) : renF H g (n + 1) (cntV k) = cntV k := by cases n <;> rfl

section
variable {P : Program} {ro : Option Nat} {J : Jt} {nt : Nat} {kp : List Nat} {l : List Oper} {dsts : List (Option Tmp)} {T : Tm} {H : Hp} {Q : Exit → Tm → Hp → Prop} {id : Nat} {y c : Code}
theorem gwp_sr (hd : l.map (·.dst) = dsts) (hnt : nt ≤ 999999) (hkp : keepOk kp dsts = true) (hnd : l.all noDefer = true) (h : ∀ K : Tm → Hp → Prop, (∀ T' H', GWp P ro J nt kp y T' H' Q → K T' H') → vcOps P nt dsts l T H K) : GWp P ro J nt kp (.seq (.region id l.toArray false) y) T H Q :=
  gwp_seq (gwp_region hd hnt hkp hnd (h _ fun _ _ h => h))
theorem gwp_r (hd : l.map (·.dst) = dsts) (hnt : nt ≤ 999999) (hkp : keepOk kp dsts = true) (hnd : l.all noDefer = true) (h : ∀ K : Tm → Hp → Prop, (∀ T' H', Q .normal T' H' → K T' H') → vcOps P nt dsts l T H K) : GWp P ro J nt kp (.region id l.toArray false) T H Q :=
  gwp_region hd hnt hkp hnd (h _ fun _ _ h => h)
theorem gwp_sd (hm : P.follows .mixedOrders = true) (hd : l.map (·.dst) = dsts) (hnt : nt ≤ 999999) (hkp : keepOk kp dsts = true) (hnd : l.all noDefer = true)
    (h : ∀ K : Tm → Hp → List Tr → Prop, (∀ T' H' tr, drawB l tr = true → GWp P ro J nt kp y T' H' Q → K T' H' tr) → vcOpsD P nt dsts l T H [] K) : GWp P ro J nt kp (.seq (.region id l.toArray true) y) T H Q :=
  gwp_seq (gwp_draw hm hd hnt hkp hnd h)
theorem gwp_ss (h : GWp P ro J nt kp y T H Q) : GWp P ro J nt kp (.seq .skip y) T H Q := gwp_seq (gwp_skip h)
theorem gwp_sy (hmk : ∀ D, ¬ J.mark D) {l0 : Nat} {xs : List (List AV)} (hY : YSpec P l0 J xs) (hd : l.map (·.dst) = dsts) (hnt : nt ≤ 999999) (hkp : keepOk kp dsts = true) (hnd : l.all noDefer = true)
    (h : ∀ K : Tm → Hp → Prop, (∀ T' H', GWp P none J nt kp y T' H' Q → K T' H') → gOps P l0 xs nt dsts l T H K) : GWp P none J nt kp (.seq (.region id l.toArray false) y) T H Q :=
  gwp_seq (gwp_yields hmk hY hd hnt hkp hnd (h _ fun _ _ h => h))

theorem gsub {T' : Tm} {H' : Hp} (h : Sub nt T H T' H') (hy : look T' 999999 = look T 999999) : GSub nt T H T' H' := ⟨h, hy⟩
theorem gwp_flag (hnt : nt ≤ 999998) (h : GWp P ro J nt kp c ((999998, flagV) :: T) H Q) : GWp P ro J nt kp c T H Q := gwp_weak (gsub (sub_flag hnt) (by simp [look])) h
theorem look_prune (T : Tm) (t : Nat) : ∀ live : List Nat, t ∈ live → look (prune T live) t = look T t
  | [], h => by cases h
  | q :: l, h => by
    simp only [prune, List.map_cons, look]
    split
    · rename_i e; rw [e]
    · rename_i e; exact look_prune T t l ((List.mem_cons.1 h).resolve_left e)

/-- To the slots that live ('Y': whether the count of an iterator is among them). -/
theorem gwp_prune (live : List Nat) (hy : live.contains 999999 = true ∨ look T 999999 = .any) (h : GWp P ro J nt kp c (prune T live) H Q) : GWp P ro J nt kp c T H Q := by
  refine gwp_weak ⟨sub_same (subE_prune T live), ?_⟩ h
  by_cases hl : 999999 ∈ live
  · exact look_prune T _ live hl
  · rcases hy with hy | hy
    · exact absurd (by simpa using hy) hl
    · rw [hy]
      have gen : ∀ live : List Nat, 999999 ∉ live → look (prune T live) 999999 = .any := by
        intro live
        induction live with
        | nil => intro _; rfl
        | cons q l ih =>
          intro h
          simp only [List.mem_cons, not_or] at h
          simp only [prune, List.map_cons, look]
          rw [if_neg h.1]
          exact ih h.2
      exact gen live hl

theorem gwp_loop_l {α : Type} (live : List Nat) (upd : α → Tm) (hp : α → Hp) (inv : α → Prop) (μ : α → Nat) (x0 : α) (h0 : inv x0) (hs0 : GSub nt T H (upd x0 ++ prune T live) (hp x0))
    (round : ∀ x, inv x → GWp P ro J nt kp c (upd x ++ prune T live) (hp x) (thenA (fun T' H' => ∃ y, inv y ∧ μ y < μ x ∧ GSub nt T' H' (upd y ++ prune T live) (hp y)) Q)) : GWp P ro J nt kp (.loop c) T H Q :=
  gwp_loop (fun x => (upd x ++ prune T live, hp x)) inv μ x0 h0 hs0 round

theorem gwp_seq_j {x : Code} (live : List Nat) (upd : Tm) (H' : Hp)
    (h : GWp P ro J nt kp x T H (thenA (fun T1 H1 => GSub nt T1 H1 (upd ++ prune T live) H') Q)) (k : GWp P ro J nt kp y (upd ++ prune T live) H' Q) : GWp P ro J nt kp (.seq x y) T H Q :=
  gwp_seq (gwp_mono h fun e T1 H1 q => by
    cases e with
    | normal => exact gwp_weak q k
    | _ => exact q)

theorem keysAny {kl : List Nat} (h : T.map (·.1) = kl) : ∀ t, t ∉ kl → look T t = .any := by
  subst h
  intro t ht
  induction T with
  | nil => rfl
  | cons p T ih =>
    obtain ⟨i, x⟩ := p
    simp only [List.map_cons, List.mem_cons, not_or] at ht
    simp only [look]
    rw [if_neg ht.1]
    exact ih ht.2

/-- The same slots in all rounds. -/
theorem gwp_range_s {J : Jt} (hJC : JC true J) (kl : List Nat) (hp : Nat → Hp) (inv : Nat → Prop) {g : Operand} {ps : Array Tmp} {assign body : Code} {f : FuncId} {caps : List AV} {xs : List (List AV)} (hT1 : T.map (·.1) = kl) (hic : IterCall P f caps xs) (hg : evT (look T) g = .clo f caps) (hnr : caps.all (AV.noRef 2) = true) (hnt : nt ≤ 999999)
    (hps : ps.toList.Nodup) (hpl : ∀ p ∈ ps.toList, p < nt ∧ p ∉ kl) (hx : ∀ x ∈ xs, x.length = ps.size)
    (h0 : inv 0) (hs0 : Sub nt T H T (hp 0))
    (round : ∀ n x, xs[n]? = some x → inv n → ∀ (l : Nat) (J1 : Jt), JC false J1 → GWp P (some l) J1 nt kl assign (ps.toList.zip x ++ T) (hp n) (onlyN fun T' H' => ∀ J2 : Jt, JC false J2 → GWp P (some l) J2 nt kl body T' H' (roundQ nt inv hp T Q n)))
    (done : inv xs.length → Q .normal T (hp xs.length)) : GWp P none J nt kp (.rangeFunc g ps assign body) T H Q :=
  gwp_range hJC T kl hp inv hg hnr hic hnt hps hpl hx h0 hs0 (keysAny hT1) round done
end
end Go.AM
/- The abstract machine, part P: the contract of a function that is given rows, out of its body. No condition. -/
namespace Go.AM
set_option linter.unusedVariables false
set_option linter.unusedSimpArgs false

def pinPs : List AV → Nat → Prop
  | [], _ => False
  | .ptr q _ _ :: cs, r => q = r ∨ pinPs cs r
  | _ :: cs, r => pinPs cs r
def pinCs : List AV → Nat → Prop
  | [], _ => False
  | .clo _ caps :: cs, r => pinPs caps r ∨ pinCs cs r
  | .row q _ n :: cs, r => (q = r ∧ 1 ≤ n) ∨ pinCs cs r
  | _ :: cs, r => pinCs cs r
def pinP : AV → Nat → Prop
  | .ptr q _ _, r => q = r
  | .vptr cs, r => pinCs cs r
  | .row q _ n, r => q = r ∧ 1 ≤ n
  | .ifc _ (.ptr q _ _), r => q = r
  | _, _ => False
def sameSz : Option ARow → Option ARow → Prop
  | some (.els s _), some (.els s' _) => s = s'
  | some _, none => True
  | _, _ => False
/-- The slots that hold on to the rows that stay. -/
def pinL (T0 : Tm) (H0 : Hp) (T : Tm) (H : Hp) : Nat → List Nat → Prop
  | _, [] => True
  | r, t :: ts => pinP (look T0 t) r ∧ look T t = look T0 t ∧ sameSz (hget H0 r) (hget H r) ∧ pinL T0 H0 T H (r + 1) ts
attribute [simp] pinP pinCs pinPs sameSz pinL

def renT (g : List (Option Nat)) (T : Tm) : Tm := T.map fun p => (p.1, renAV g 40 (look T p.1))
attribute [simp] renT

theorem sub_renM {nt : Nat} {T : Tm} {H : Hp} (g : List (Option Nat)) (hn : nodupB g = true) : Sub nt T H (renT g T) (renH H g) := by
  refine sub_rb g hn ?_ rfl
  have gen : ∀ l : Tm, subT g T (l.map fun p => (p.1, renAV g 40 (look T p.1))) := by
    intro l
    induction l with
    | nil => trivial
    | cons x l ih => exact ⟨Or.inr rfl, ih⟩
  exact gen T

/-- The end of a call that is given rows: 'g' says where its rows are. -/
def endM (P : Program) (pins : List Nat) (T0 : Tm) (H0 : Hp) (rs : List ResultVar) (res : AV) (H' : Hp) (T : Tm) (H : Hp) : Prop :=
  ∃ g, nodupB g = true ∧ look (renT g T) 999999 = look T 999999 ∧ renH H g = H' ∧ pinL T0 H0 (renT g T) H' 0 pins ∧ resP P (renT g T) H' rs fun xs => tupOf xs = res
def retM (P : Program) (pins : List Nat) (T0 : Tm) (H0 : Hp) (rs : List ResultVar) (res : AV) (H' : Hp) : Exit → Tm → Hp → Prop
  | .ret, T, H => endM P pins T0 H0 rs res H' T H
  | .normal, T, H => endM P pins T0 H0 rs res H' T H
  | _, _, _ => False

section
variable {P : Program}
theorem pinL_at {T0 : Tm} {H0 : Hp} {T : Tm} {H : Hp} : ∀ {ts : List Nat} {r0 r t : Nat}, pinL T0 H0 T H r0 ts → ts[r]? = some t → pinP (look T0 t) (r0 + r) ∧ look T t = look T0 t ∧ sameSz (hget H0 (r0 + r)) (hget H (r0 + r))
  | [], r0, r, t, _, h => by simp at h
  | t0 :: ts, r0, 0, t, h, ht => by
    simp only [List.getElem?_cons_zero, Option.some.injEq] at ht
    subst ht
    exact ⟨h.1, h.2.1, h.2.2.1⟩
  | t0 :: ts, r0, r + 1, t, h, ht => by
    have := pinL_at h.2.2.2 (by simpa using ht)
    rwa [show r0 + 1 + r = r0 + (r + 1) by omega] at this

theorem pinPs_get : ∀ {cs : List AV} {r : Nat}, pinPs cs r → ∃ (i j o : Nat), cs[i]? = some (AV.ptr r j o)
  | [], r, h => h.elim
  | x :: cs, r, h => by
    have tail : pinPs cs r → ∃ (i j o : Nat), (x :: cs)[i]? = some (AV.ptr r j o) := fun h => by
      obtain ⟨i, j, n, h1⟩ := pinPs_get h
      exact ⟨i + 1, j, n, by simpa using h1⟩
    cases x with
    | ptr q j n =>
      simp only [pinPs] at h
      rcases h with rfl | h
      · exact ⟨0, j, n, rfl⟩
      · exact tail h
    | _ => exact tail h
theorem pinCs_get : ∀ {cs : List AV} {r : Nat}, pinCs cs r → (∃ (i j n : Nat), cs[i]? = some (AV.row r j n) ∧ 1 ≤ n) ∨ ∃ (i : Nat) (f : FuncId) (caps : List AV), cs[i]? = some (AV.clo f caps) ∧ pinPs caps r
  | [], r, h => h.elim
  | x :: cs, r, h => by
    have tail : pinCs cs r → (∃ (i j n : Nat), (x :: cs)[i]? = some (AV.row r j n) ∧ 1 ≤ n) ∨ ∃ (i : Nat) (f : FuncId) (caps : List AV), (x :: cs)[i]? = some (AV.clo f caps) ∧ pinPs caps r := fun h => by
      rcases pinCs_get h with ⟨i, j, n, h1, h2⟩ | ⟨i, f, caps, h1, h2⟩
      · exact Or.inl ⟨i + 1, j, n, by simpa using h1, h2⟩
      · exact Or.inr ⟨i + 1, f, caps, by simpa using h1, h2⟩
    cases x with
    | row q j n =>
      simp only [pinCs] at h
      rcases h with ⟨rfl, h⟩ | h
      · exact Or.inl ⟨0, j, n, rfl, h⟩
      · exact tail h
    | clo f caps =>
      simp only [pinCs] at h
      rcases h with h | h
      · exact Or.inr ⟨0, f, caps, rfl, h⟩
      · exact tail h
    | _ => exact tail h

/-- Two places of the same row are one. -/
theorem pin_loc {w w' : World} {S S' : Nat → Prop} {ρ ρ' : Nat → Option Loc} {L L' : Nat → Prop} {x : AV} {r : Nat} {v : Value} {l l' : Loc} {sz : Nat} {es es' : List (List AV)} (hp : pinP x r) (h : RepV w S ρ L x v) (h' : RepV w' S' ρ' L' x v) (hl : ρ r = some l) (hl' : ρ' r = some l')
    (hr : RowRep w S ρ L l (.els sz es)) (hr' : RowRep w' S' ρ' L' l' (.els sz es')) (hc : ∀ (b : Nat) c t s, w.heap[b]? = some (Obj.cells c t s) → ∃ c' t' s', w'.heap[b]? = some (Obj.cells c' t' s') ∧ c'.size = c.size)
    (hsame : ∀ b, b < w.heap.size → ¬ S b → w'.heap[b]? = w.heap[b]?) : l' = l := by
  have fin : ∀ b, l.b = some b → l'.b = some b → l.o = l'.o → l' = l := by
    intro b h1 h2 h3
    obtain ⟨e1, _, _, e4⟩ := hr
    obtain ⟨f1, _, _, f4⟩ := hr'
    obtain ⟨c, t, p1, p2, _⟩ := e4 b h1
    obtain ⟨c', t', q1, q2, _⟩ := f4 b h2
    obtain ⟨c'', t'', s'', k1, k2⟩ := hc b c t _ p1
    rw [q1] at k1
    simp only [Option.some.injEq, Obj.cells.injEq] at k1
    have hm : l'.m = l.m := by rw [← q2, ← p2, k1.1, k2]
    cases l; cases l'
    simp only at h1 h2 h3 e1 f1 hm
    subst h1 h2 h3 e1 f1 hm
    rfl
  have hsz : l.sz = l'.sz := hr.1.trans hr'.1.symm
  have ptr : ∀ {i off : Nat} {v : Value}, RepV w S ρ L (.ptr r i off) v → RepV w' S' ρ' L' (.ptr r i off) v → l' = l := by
    intro i off v h h'
    cases h with
    | pure _ _ h => cases h
    | ptr _ _ _ _ _ _ h =>
      cases h' with
      | pure _ _ h' => cases h'
      | ptr _ _ _ _ _ _ h' =>
        obtain ⟨b, h1, h2⟩ := h l hl
        obtain ⟨b', k1, k2⟩ := h' l' hl'
        rw [h2] at k2
        simp only [Value.pointer.injEq, Option.some.injEq, Addr.mk.injEq, and_true] at k2
        obtain ⟨rfl, k2⟩ := k2
        rw [hsz] at k2
        exact fin b h1 k1 (by omega)
  have row : ∀ {i n : Nat} {v : Value}, 1 ≤ n → RepV w S ρ L (.row r i n) v → RepV w' S' ρ' L' (.row r i n) v → l' = l := by
    intro i n v hn h h'
    cases h with
    | pure _ _ h => cases h
    | row _ _ _ _ _ _ h =>
      cases h' with
      | pure _ _ h' => cases h'
      | row _ _ _ _ _ _ h' =>
        obtain ⟨h0, h1⟩ := h l hl
        obtain ⟨k0, k1⟩ := h' l' hl'
        cases hb : l.b with
        | none => have := (h0 hb).2.1; omega
        | some b =>
          obtain ⟨off, cap, h2, h3, h4⟩ := h1 b hb
          cases hb' : l'.b with
          | none => have := (k0 hb').2.1; omega
          | some b' =>
            obtain ⟨off', cap', k2, k3, k4⟩ := k1 b' hb'
            rw [h2] at k2
            simp only [Value.slice.injEq, Option.some.injEq, Addr.mk.injEq, and_true] at k2
            obtain ⟨⟨rfl, rfl⟩, _, rfl⟩ := k2
            have e1 := h4.resolve_left (by omega)
            have e2 := k4.resolve_left (by omega)
            rw [← hsz] at e2
            exact fin b hb hb' (by omega)
  cases x with
  | vptr cs =>
    obtain ⟨b, off, vs, rfl, hSb, hb, hln, hv, hc1⟩ := vptr_cells h
    obtain ⟨b', off', vs', e, hSb', hb', hln', hv', hc1'⟩ := vptr_cells h'
    simp only [Value.pointer.injEq, Option.some.injEq, Addr.mk.injEq, and_true] at e
    obtain ⟨rfl, rfl⟩ := e
    rcases pinCs_get hp with ⟨i, j, n, h1, h2⟩ | ⟨i, f, caps, h1, h2⟩
    rotate_left
    · have hi : i < cs.length := (List.getElem?_eq_some_iff.1 h1).1
      have g1 := List.getElem?_eq_getElem (l := vs) (i := i) (by omega)
      have g2 := List.getElem?_eq_getElem (l := vs') (i := i) (by omega)
      have q1 := (hv i _ g1).1
      have q2 := (hv' i _ g2).1
      rw [cell_of_block (hsame b hb hSb), q1] at q2
      simp only [Option.some.injEq] at q2
      have r1 := hc1 i _ _ h1 g1
      have r2 := hc1' i _ _ h1 g2
      rw [← q2] at r2
      obtain ⟨ks, e1, l1, m1⟩ := clo_cells r1
      obtain ⟨ks', e2, l2, m2⟩ := clo_cells r2
      rw [e1] at e2
      simp only [Value.func.injEq, true_and] at e2
      have e3 : ks = ks' := by simpa using congrArg Array.toList e2
      subst e3
      obtain ⟨u, ju, ou, hu⟩ := pinPs_get h2
      have hul : u < caps.length := (List.getElem?_eq_some_iff.1 hu).1
      have g3 := List.getElem?_eq_getElem (l := ks) (i := u) (by omega)
      exact ptr (m1 u _ _ hu g3) (m2 u _ _ hu g3)
    have hi : i < cs.length := (List.getElem?_eq_some_iff.1 h1).1
    have g1 := List.getElem?_eq_getElem (l := vs) (i := i) (by omega)
    have g2 := List.getElem?_eq_getElem (l := vs') (i := i) (by omega)
    have q1 := (hv i _ g1).1
    have q2 := (hv' i _ g2).1
    rw [cell_of_block (hsame b hb hSb), q1] at q2
    simp only [Option.some.injEq] at q2
    have r1 := hc1 i _ _ h1 g1
    have r2 := hc1' i _ _ h1 g2
    rw [← q2] at r2
    exact row h2 r1 r2
  | ptr q i off =>
    simp only [pinP] at hp
    subst hp
    exact ptr h h'
  | ifc t x =>
    obtain ⟨y, e1, h⟩ := ifc_cells h
    obtain ⟨y', e2, h'⟩ := ifc_cells h'
    rw [e1] at e2
    simp only [Value.iface.injEq, true_and] at e2
    subst e2
    cases x with
    | ptr q i off =>
      simp only [pinP] at hp
      subst hp
      exact ptr h h'
    | _ => exact hp.elim
  | row q i n =>
    simp only [pinP] at hp
    obtain ⟨rfl, hn⟩ := hp
    exact row hn h h'
  | _ => exact hp.elim

/-- A CONTRACT OUT OF A BODY that is given rows. 'pins': for each row that stays, a slot that holds on to it and is never written. -/
theorem MutCall.of_bodyG {f : FuncId} {fn : Func} {c : Code} {args : List AV} {Hk Hd : Hp} {res : AV} {Hk' Hn : Hp} (pins : List Nat) (hf : P.funcs[f]? = some fn) (hb : fn.body = some c) (hname : (fn.name == "runtime.NumGoroutine") = false) (hnt : args.length ≤ fn.ntmps) (hlk : Hk.length = Hk'.length) (hpl : pins.length = Hk.length)
    (h : ∀ J : Jt, JC true J → GWp P none J fn.ntmps pins c (argT 0 args) (Hk ++ Hd) (retM P pins (argT 0 args) (Hk ++ Hd) fn.results.toList res (Hk' ++ Hn))) : MutCall P f args Hk Hd res Hk' Hn := by
  have hn' : ¬ fn.name = "runtime.NumGoroutine" := by simpa using hname
  refine ⟨fun w vs => by simp [callFunc, hf, hn', hb], hlk, ?_⟩
  intro S0 w ρ vs hh hlen hrep
  refine callsIn_wide.1 (callsIn_of_wp_marks (n := 0) (F := Fence.wide) hf hb trivial ?_)
  have hsize : vs.toArray.size = args.length := by simp [hlen]
  let J : Jt := JR true w S0 (fun b => w.heap[b]?) (fun b => own ρ b ∨ w.heap.size ≤ b)
  have hJ : JC true J := ⟨w, S0, _, _, fun b h => Or.inr h, hh.wf.low, rfl⟩
  obtain ⟨tm, htm⟩ : ∃ tm, tm = vs.toArray ++ Array.replicate (fn.ntmps - vs.toArray.size) undef := ⟨_, rfl⟩
  have htmps : ∀ t, RepV w (Sx S0 ρ) ρ (fun r => r < (Hk ++ Hd).length) (look (argT 0 args) t) (tm.getD t undef) := by
    intro t
    rw [look_argT']
    cases hx : args[t]? with
    | none => exact .pure _ _ (.any _)
    | some x =>
      have ht : t < args.length := (List.getElem?_eq_some_iff.1 hx).1
      have ht' : t < vs.length := by omega
      have hget : tm.getD t undef = vs[t] := by
        rw [htm, Array.getD_eq_getD_getElem?, Array.getElem?_append_left (by simpa using ht')]
        simp [ht']
      rw [hget]
      exact hrep t x _ hx (List.getElem?_eq_getElem ht')
  have hst : SG J fn.ntmps pins (fun t => tm.getD t undef) (argT 0 args) (Hk ++ Hd) { tmps := vs.toArray ++ Array.replicate (fn.ntmps - vs.toArray.size) undef, defers := [] } w := by
    rw [← htm]
    refine ⟨⟨S0, ρ, fun r => r < (Hk ++ Hd).length, ⟨hh.wf, ?_, rfl, htmps, hh.rows, hh.dead⟩, fun r hr => hr, ⟨fun b h => ⟨h, hh.wf.low b h, rfl⟩, Ext.refl _ _, fun b hb => Or.inl hb⟩, [], rfl, List.nodup_nil, by simp⟩, fun t _ => rfl⟩
    show tm.size = fn.ntmps
    rw [htm, Array.size_append, Array.size_replicate, hsize]; omega
  refine wpIn_mono (h J hJ hJ.ok (fun t => tm.getD t undef) _ w hst) ?_
  rintro e a' w' ⟨T', H', q, hsg⟩
  have hfin : endM P pins (argT 0 args) (Hk ++ Hd) fn.results.toList res (Hk' ++ Hn) T' H' → LeavesInM Fence.wide 0 P fn a'.tmps (fun e w' => ∃ v ρ', e = .returned v ∧ Held S0 w' ρ' (Hk' ++ Hn) ∧ RepV w' (Sx S0 ρ') ρ' (fun r => r < (Hk' ++ Hn).length) res v ∧
        (∀ r l, r < Hk.length → ρ' r = some l → ρ r = some l) ∧ (∀ b, own ρ' b → own ρ b ∨ w.heap.size ≤ b) ∧ Ext (own ρ) w w') a'.defers .returning w' := by
    rintro ⟨g, hgn, hgy, hH, hpin, hr⟩
    have hsg' := hsg.sub hJ.ok ⟨sub_renM g hgn, hgy⟩
    rw [hH] at hsg'
    obtain ⟨H2, hH2⟩ : ∃ H2, H2 = Hk' ++ Hn := ⟨_, rfl⟩
    rw [← hH2] at hsg' hpin hr
    clear hH
    have hH := hH2
    generalize renT g T' = T' at hsg' hpin hr
    obtain ⟨⟨S1, ρ1, L1, hc1, hL1, ⟨hj1, hj2, hj3⟩, Ds, hds, hnd, hDs⟩, hkeep⟩ := hsg'
    rw [hds]
    refine leaves_marks Ds w' hnd (fun D hD => (hDs D hD).2.2) (fun w'' hx hsz => ?_)
    have hc2 : Core anyB S1 fn.ntmps w'' ρ1 L1 (look T') (hget H2) (bare a') := hc1.foreign hx.size (fun b hb hn => hx.block b hb (fun hD => hn (hDs b hD).1)) (fun b hb => ⟨by rw [hsz]; exact hc1.wf.low b hb, Or.inl hb⟩)
    obtain ⟨xs, vs', h1, h2, h3, h4, h5⟩ := run_results hc2 fn.results.toList _ hr
    have hm : (fn.results.mapM fun (x : ResultVar) => (match x with
        | .tmp t => pure (a'.tmps.getD t undef)
        | .cell ad t => do loadVar t (← asAddr (a'.tmps.getD ad undef)) : Sem Value)).run P w'' = .ok vs'.toArray w'' := by
      rw [Array.mapM_eq_mapM_toList, Sem.run_map]
      have h1' : (fn.results.toList.mapM fun (x : ResultVar) => (match x with
        | .tmp t => pure (a'.tmps.getD t undef)
        | .cell ad t => do loadVar t (← asAddr (a'.tmps.getD ad undef)) : Sem Value)).run P w'' = .ok vs' w'' := h1
      rw [h1']; rfl
    have hrun : (results fn a'.tmps).run P w'' = .ok (if h : vs'.toArray.size = 1 then vs'.toArray[0] else .tuple vs'.toArray) w'' := by
      unfold results
      rw [Sem.run_bind]
      exact congrArg (fun (r : Result (Array Value)) => r.andThen fun a w' => Sem.run P (pure (if h : a.size = 1 then a[0] else Value.tuple a)) w') hm
    have hSx : ∀ b, ¬ Sx S1 ρ1 b → ¬ Sx S0 ρ1 b := by
      rintro b hn (h | h)
      · exact hn (Or.inl (hj1 b h).1)
      · exact hn (Or.inr h)
    have hLb : ∀ r, L1 r → r < (Hk' ++ Hn).length := fun r hr => by rw [← hH]; exact hL1 r hr
    have hrows : ∀ r row, hget (Hk' ++ Hn) r = some row → ∃ l, ρ1 r = some l ∧ RowRep w'' (Sx S0 ρ1) ρ1 (fun r => r < (Hk' ++ Hn).length) l row := by
      intro r row hr
      obtain ⟨l, g1, g2⟩ := hc2.rows r row (by rw [hH]; exact hr)
      exact ⟨l, g1, g2.ext (Nat.le_refl _) (fun b _ hn => ⟨rfl, hSx b hn⟩) hLb (fun r l _ h => h) (fun _ _ => rfl)⟩
    have hold : ∀ b, b < w.heap.size → ¬ own ρ b → w''.heap[b]? = w.heap[b]? := by
      intro b hb hno
      rw [hx.block b (Nat.lt_of_lt_of_le hb hj2.size) (fun hD => ?_), hj2.block b hb (by rintro (h | h); exact hno h; omega)]
      have := (hDs b hD).2.1.2
      omega
    have hcells : ∀ (b : Nat) c t s, w.heap[b]? = some (Obj.cells c t s) → ∃ c' t' s', w''.heap[b]? = some (Obj.cells c' t' s') ∧ c'.size = c.size := (hj2.trans (hx.mono (M' := fun b => own ρ b ∨ w.heap.size ≤ b) (fun b _ hD => Or.inr (hDs b hD).2.1.2))).cells
    refine ⟨_, hrun, _, ρ1, rfl, ⟨⟨hc2.wf.inj, fun r l b g1 g2 => ?_, fun r l g1 => hLb r (hc2.wf.given r l g1), fun b hb => ?_, fun _ _ => trivial⟩, hrows, fun r hr => hc2.dead r (by rw [hH]; exact hr)⟩, ?_, ?_, hj3, ?_⟩
    · obtain ⟨g3, g4, _⟩ := hc2.wf.own r l b g1 g2
      exact ⟨g3, fun h => g4 (hj1 b h).1, trivial⟩
    · exact Nat.lt_of_lt_of_le (hj1 b hb).2.1 (Nat.le_of_eq hsz.symm)
    · rw [← h5]
      have hz : RepV w'' (Sx S1 ρ1) ρ1 L1 (tupOf xs) (if h : vs'.toArray.size = 1 then vs'.toArray[0] else .tuple vs'.toArray) := by
        match xs, vs', h2, h3 with
        | [], [], _, _ => simp only [tupOf]; rw [dif_neg (by simp)]; exact .tup [] [] rfl (by simp)
        | [x], [v], _, h3 => simp only [tupOf]; rw [dif_pos (by simp)]; exact h3 0 x v rfl rfl
        | x :: y :: xs, v :: u :: vs', h2, h3 => simp only [tupOf]; rw [dif_neg (by simp)]; exact .tup _ (v :: u :: vs') h2 h3
      exact hz.ext (Nat.le_refl _) (fun b _ hn => ⟨rfl, hSx b hn⟩) hLb (fun r l _ h => h)
    · intro r l' hrk hl'
      obtain ⟨t, ht⟩ : ∃ t, pins[r]? = some t := ⟨_, List.getElem?_eq_getElem (by omega)⟩
      obtain ⟨p1, p2, p3⟩ := pinL_at hpin ht
      rw [Nat.zero_add] at p1 p3
      have hv := hc2.tmps t
      rw [p2] at hv
      have hk := hkeep t (List.mem_of_getElem? ht)
      have hv' : (bare a').tmps.getD t undef = tm.getD t undef := hk
      rw [hv'] at hv
      cases h0 : hget (Hk ++ Hd) r with
      | none => rw [h0] at p3; simp only [sameSz] at p3
      | some row =>
        cases row with
        | map => 
          rw [h0] at p3
          cases h8 : hget H2 r with
          | none => have := hc2.dead r h8; rw [this] at hl'; cases hl'
          | some row' => rw [h8] at p3; simp only [sameSz] at p3
        | itr =>
          rw [h0] at p3
          cases h8 : hget H2 r with
          | none => have := hc2.dead r h8; rw [this] at hl'; cases hl'
          | some row' => rw [h8] at p3; simp only [sameSz] at p3
        | els sz es =>
          rw [h0] at p3
          cases h8 : hget H2 r with
          | none => have := hc2.dead r h8; rw [this] at hl'; cases hl'
          | some row' =>
            rw [h8] at p3
            cases row' with
            | map => simp only [sameSz] at p3
            | itr => simp only [sameSz] at p3
            | els sz' es' =>
              simp only [sameSz] at p3
              subst p3
              obtain ⟨l, g1, g2⟩ := hh.rows r _ h0
              obtain ⟨l2, g3, g4⟩ := hc2.rows r _ h8
              rw [hl'] at g3
              simp only [Option.some.injEq] at g3
              subst g3
              rw [pin_loc p1 (htmps t) hv g1 hl' g2 g4 hcells (fun b hb hn => hold b hb (fun ⟨r, l, k1, k2⟩ => hn (Or.inr ⟨r, l, k1, k2⟩)))]; exact g1
    · have he := hj2.trans (hx.mono (M' := fun b => own ρ b ∨ w.heap.size ≤ b) (fun b _ hD => Or.inr (hDs b hD).2.1.2))
      exact ⟨he.os, he.tape, he.output, he.size, hold, he.cells⟩
  cases e with
  | ret => exact hfin q
  | normal => exact hfin q
  | exit id => exact q.elim
  | goto l => exact q.elim
  | panic ch => exact q.elim
  | outgrown => exact q.elim
end
end Go.AM
/- The abstract machine, part Q: a region that draws its order, whose end (with a call of yield) stands behind all the rest. No condition. -/
namespace Go.AM
set_option linter.unusedVariables false
set_option linter.unusedSimpArgs false

theorem wpIn_monoP {F : Fence} {n : Nat} {P : Program} {o : Oper} {a : Act} {w : World} {K : Act → World → Prop} {Q Q' : Exit → Act → World → Prop} (hq : ∀ e a w, e ≠ Exit.normal → Q e a w → Q' e a w) (h : o.wpIn F n P a w K Q) : o.wpIn F n P a w K Q' := by
  refine ⟨h.1, ?_⟩
  have h := h.2
  generalize (o.semAt F.round a.eval).run P w = r at h ⊢
  cases r with
  | ok x w' =>
    cases x with
    | enter f args => exact ⟨h.1, h.2.mono fun e w'' hh => by cases e <;> first | exact hh | exact hq _ _ _ (by simp) hh | (obtain ⟨a, w, hh⟩ := hh; exact ⟨a, w, hq _ _ _ (by simp) hh⟩)⟩
    | round l f t as bd => exact ⟨h.1, h.2.mono fun e w'' hh => by cases e <;> first | exact hh | exact hq _ _ _ (by simp) hh | (obtain ⟨a, w, hh⟩ := hh; exact ⟨a, w, hq _ _ _ (by simp) hh⟩)⟩
    | _ => exact h
  | halt x w' => cases x <;> first | exact hq _ _ _ (by simp) h | exact h

theorem getD_tf {A : Array Bool} {j : Nat} : A.getD j true = false ↔ j < A.size ∧ A.getD j false = false := by
  simp only [Array.getD_eq_getD_getElem?]
  by_cases h : j < A.size
  · simp [h]
  · simp [h]
theorem getD_set {A : Array Bool} {i k : Nat} (h : i < A.size) : (A.setIfInBounds i true).getD k false = (A.getD k false || k == i) := by
  by_cases e : k = i
  · subst e
    simp [Array.getD_eq_getD_getElem?, Array.getElem?_setIfInBounds_self_of_lt h]
  · rw [getD_set_ne false (fun h => e h.symm)]
    simp [e]

/-- From the p-th operation on, each one has all that stand ahead of it as forerunners. -/
def sfxB (l : List Oper) (p : Nat) : Bool := (List.range l.length).all fun k => decide (k < p) || (List.range k).all fun j => ((closL l []).getD k 0).testBit j
def guardsB (l : List Oper) : Bool := l.all fun o => match o.guard with | none => true | some (j, _) => decide (j < l.length)

section
variable {F : Fence} {n : Nat} {P : Program} {Q : Exit → Act → World → Prop}

theorem ready_down {l : List Oper} {listed : Array Bool} (hD : Down l.toArray fun k => listed.getD k false) {i : Nat} (hi : i ∈ Region.ready .any l.toArray listed) : i < l.length ∧ listed.getD i false = false ∧ Down l.toArray fun k => listed.getD k false || k == i := by
  obtain ⟨h1, o, ho, hpre⟩ := mem_ready.1 hi
  refine ⟨by simpa using (Array.getElem?_eq_some_iff.1 ho).1, (getD_tf.1 h1).2, ?_⟩
  intro k ok hok hk e he hb
  simp only [Bool.or_eq_true, beq_iff_eq] at hk ⊢
  rcases hk with hk | rfl
  · exact Or.inl (hD k ok hok hk e he hb)
  · rw [ho] at hok
    simp only [Option.some.injEq] at hok
    subst hok
    exact Or.inl (hpre e he hb)

theorem sfx_spec {l : List Oper} {p : Nat} (hs : sfxB l p = true) {k j : Nat} (hk : k < l.length) (hp : p ≤ k) (hj : j < k) : ((closL l []).getD k 0).testBit j = true := by
  simp only [sfxB, List.all_eq_true, List.mem_range, Bool.or_eq_true, decide_eq_true_eq] at hs
  exact (hs k hk).resolve_left (by omega) j hj

/-- The end, in its order. -/
theorem any_tail {l : List Oper} (hback : backB l 0 = true) {p0 : Nat} (hs : sfxB l p0 = true) : ∀ (l2 : List Oper) (p : Nat) (listed : Array Bool) (a : Act) (w : World), (∀ j : Nat, l2[j]? = l[p + j]?) → p0 ≤ p → listed.size = l.length → (∀ k, listed.getD k false = decide (k < p)) →
    wpListIn F n P l.toArray Q l2 a w → wpAnyIn F n P .any l.toArray Q l2.length listed a w
  | [], p, listed, a, w, hl, hp, hsz, hli, h => by
    have hlen : l.length ≤ p := by have := hl 0; simp at this; omega
    refine ⟨List.eq_nil_iff_forall_not_mem.2 fun k hk => ?_, h⟩
    obtain ⟨h1, o, ho, _⟩ := mem_ready.1 hk
    have h2 := getD_tf.1 h1
    rw [hli k, decide_eq_false_iff_not] at h2
    omega
  | o :: rest, p, listed, a, w, hl, hp, hsz, hli, h => by
    have hop : l[p]? = some o := by have := hl 0; simpa using this.symm
    have hpl : p < l.length := (List.getElem?_eq_some_iff.1 hop).1
    have hD : Down l.toArray fun k => listed.getD k false := by
      intro k ok hok hk e he hb
      simp only [hli, decide_eq_true_eq] at hk ⊢
      have := back_spec l 0 hback k ok (by simpa using hok) e he hb
      omega
    have hpr : p ∈ Region.ready .any l.toArray listed := by
      refine mem_ready.2 ⟨getD_tf.2 ⟨by omega, by rw [hli]; simp⟩, o, by simpa using hop, fun e he hb => ?_⟩
      rw [hli, decide_eq_true_eq]
      have := back_spec l 0 hback p o hop e he hb
      omega
    refine ⟨fun hnil => absurd hpr (by rw [hnil]; simp), fun i hi => ?_⟩
    obtain ⟨hil, hif, hD'⟩ := ready_down hD hi
    have hip : i = p := by
      rw [hli, decide_eq_false_iff_not] at hif
      by_cases e : i = p
      · exact e
      · have ht := sfx_spec hs hil (by omega) (show p < i by omega)
        have := clos_spec hD' l [] (by simp) (by simp) i p (by simp) ht
        simp only [hli, Bool.or_eq_true, decide_eq_true_eq, beq_iff_eq] at this
        omega
    subst hip
    have ih : ∀ a w, wpListIn F n P l.toArray Q rest a w → wpAnyIn F n P .any l.toArray Q rest.length (listed.setIfInBounds i true) a w := fun a w h =>
      any_tail hback hs rest (i + 1) _ a w (fun j => by have := hl (j + 1); simp only [List.getElem?_cons_succ] at this; rw [this]; congr 1; omega) (by omega) (by simp [hsz]) (fun k => by
        rw [getD_set (by omega), hli, Bool.eq_iff_iff]
        simp only [Bool.or_eq_true, decide_eq_true_eq, beq_iff_eq]
        omega) h
    unfold wpListIn at h
    unfold wpOpIn
    have hop' : l.toArray[i]? = some o := by simpa using hop
    simp only [hop']
    split
    · rename_i hw; rw [if_pos hw] at h; exact Oper.wpIn_mono ih h
    · rename_i hw; rw [if_neg hw] at h; exact ⟨h.1, ih _ _ h.2⟩

/-- The beginning, in whatever order, and then the end. -/
theorem any_split {l1 l2 : List Oper} (hback : backB (l1 ++ l2) 0 = true) (hg : guardsB l1 = true) (hs : sfxB (l1 ++ l2) l1.length = true) {R : Act → World → Prop} (hR : ∀ a w, R a w → wpListIn F n P (l1 ++ l2).toArray Q l2 a w) :
    ∀ (fuel : Nat) (listed1 listed : Array Bool) (a : Act) (w : World), listed1.size = l1.length → listed.size = (l1 ++ l2).length → (∀ k, listed.getD k false = listed1.getD k false) → listed1.toList.count false = fuel → Down (l1 ++ l2).toArray (fun k => listed.getD k false) →
      wpAnyIn F n P .any l1.toArray (onlyNormal R) fuel listed1 a w → wpAnyIn F n P .any (l1 ++ l2).toArray Q (fuel + l2.length) listed a w := by
  intro fuel
  induction fuel with
  | zero =>
    intro listed1 listed a w hs1 hs2 hsame hc hD h
    rw [Nat.zero_add]
    refine any_tail hback hs l2 l1.length listed a w (fun j => by rw [List.getElem?_append_right (by omega)]; simp) (Nat.le_refl _) hs2 (fun k => ?_) (hR a w h.2)
    rw [hsame]
    by_cases hk : k < l1.length
    · have hk1 : k < listed1.size := by omega
      rw [List.count_eq_zero] at hc
      simp only [Array.getD_eq_getD_getElem?, Array.getElem?_eq_getElem hk1, Option.getD_some]
      cases hv : listed1[k] with
      | true => simp [hk]
      | false => exact absurd (by rw [← hv]; simp) hc
    · simp only [Array.getD_eq_getD_getElem?, Array.getElem?_eq_none (by omega : listed1.size ≤ k), Option.getD_none]
      simp [hk]
  | succ fuel ih =>
    intro listed1 listed a w hs1 hs2 hsame hc hD h
    -- one is left
    obtain ⟨j, hj, hjf⟩ : ∃ j, j < l1.length ∧ listed.getD j false = false := by
      have : false ∈ listed1.toList := List.count_pos_iff.1 (by omega)
      obtain ⟨j, hj, hv⟩ := List.getElem_of_mem this
      have hj' : j < listed1.size := by simpa using hj
      refine ⟨j, by omega, ?_⟩
      rw [hsame]
      simp only [Array.getD_eq_getD_getElem?, Array.getElem?_eq_getElem hj', Option.getD_some]
      simpa using hv
    have key : ∀ i, i ∈ Region.ready .any (l1 ++ l2).toArray listed → i < l1.length ∧ i ∈ Region.ready .any l1.toArray listed1 ∧ listed.getD i false = false ∧ Down (l1 ++ l2).toArray fun k => listed.getD k false || k == i := by
      intro i hi
      obtain ⟨hil, hif, hD'⟩ := ready_down hD hi
      have hlt : i < l1.length := by
        by_cases hlt : i < l1.length
        · exact hlt
        · have ht := sfx_spec hs hil (by omega) (show j < i by omega)
          have := clos_spec hD' (l1 ++ l2) [] (by simp) (by simp) i j (by simp) ht
          rw [hjf] at this
          simp only [Bool.false_or, beq_iff_eq] at this
          omega
      obtain ⟨h1, o, ho, hpre⟩ := mem_ready.1 hi
      have ho1 : l1[i]? = some o := by rw [← List.getElem?_append_left (l₂ := l2) hlt]; simpa using ho
      refine ⟨hlt, mem_ready.2 ⟨getD_tf.2 ⟨by omega, by rw [← hsame]; exact hif⟩, o, by simpa using ho1, fun e he hb => by rw [← hsame]; exact hpre e he hb⟩, hif, hD'⟩
    rw [show fuel + 1 + l2.length = (fuel + l2.length) + 1 by omega]
    refine ⟨fun hnil => ?_, fun i hi => ?_⟩
    · -- the least one that is left is ready
      exfalso
      have hall : ∀ k, k < l1.length → listed.getD k false = true := by
        intro k
        induction k using Nat.strongRecOn with
        | _ k ihk =>
          intro hk
          cases hv : listed.getD k false with
          | true => rfl
          | false =>
            exfalso
            have hok : (l1 ++ l2)[k]? = some l1[k] := by rw [List.getElem?_append_left hk]; simp
            have hmem : k ∈ Region.ready .any (l1 ++ l2).toArray listed := by
              refine mem_ready.2 ⟨getD_tf.2 ⟨by simp at hs2; omega, hv⟩, l1[k], by simpa using hok, fun e he hb => ?_⟩
              have := back_spec (l1 ++ l2) 0 hback k l1[k] hok e he hb
              exact ihk e.on (by omega) (by omega)
            rw [hnil] at hmem; cases hmem
      rw [hall j hj] at hjf; cases hjf
    · obtain ⟨hlt, hi1, hif, hD'⟩ := key i hi
      have h2 := h.2 i hi1
      have his : i < listed1.size := by omega
      have ih' : ∀ a w, wpAnyIn F n P .any l1.toArray (onlyNormal R) fuel (listed1.setIfInBounds i true) a w → wpAnyIn F n P .any (l1 ++ l2).toArray Q (fuel + l2.length) (listed.setIfInBounds i true) a w := fun a w h => by
        refine ih _ _ a w (by simp [hs1]) (by simpa using hs2) (fun k => by rw [getD_set (by simp at hs2; omega), getD_set his, hsame]) ?_ ?_ h
        · rw [Array.toList_setIfInBounds, List.count_set (by simpa using his), hc]
          have : listed1.toList[i]'(by simpa using his) = false := by
            rw [hsame] at hif
            simp only [Array.getD_eq_getD_getElem?, Array.getElem?_eq_getElem his, Option.getD_some] at hif
            simpa using hif
          simp [this]
        · have e : (fun k => (listed.setIfInBounds i true).getD k false) = fun k => listed.getD k false || k == i := by
            funext k; exact getD_set (by simp at hs2; omega)
          rw [e]; exact hD'
      have ho1 : l1.toArray[i]? = some l1[i] := by simp [hlt]
      have ho : (l1 ++ l2).toArray[i]? = some l1[i] := by simp [List.getElem?_append_left hlt, hlt]
      have hw : ∀ tm, Region.wanted l1[i] (yielded (l1 ++ l2).toArray tm) = Region.wanted l1[i] (yielded l1.toArray tm) := by
        intro tm
        have := List.all_eq_true.1 hg l1[i] (List.getElem_mem hlt)
        unfold Region.wanted
        cases hgd : l1[i].guard with
        | none => rfl
        | some g =>
          obtain ⟨q, want⟩ := g
          rw [hgd] at this
          simp only [decide_eq_true_eq] at this
          simp only [yielded, List.getElem?_toArray, List.getElem?_append_left this]
      unfold wpOpIn at h2 ⊢
      rw [ho1] at h2
      rw [ho]
      simp only at h2 ⊢
      rw [hw]
      split
      · rename_i hx
        rw [if_pos hx] at h2
        exact wpIn_monoP (fun e a w hne hh => by cases e <;> first | exact absurd rfl hne | exact hh.elim) (Oper.wpIn_mono ih' h2)
      · rename_i hx
        rw [if_neg hx] at h2
        exact ⟨h2.1, ih' _ _ h2.2⟩
end

section
variable {P : Program} {nt : Nat} {J : Jt} {kp : List Nat}
theorem gwp_drawY (p : Nat) {T : Tm} {H : Hp} {Q : Exit → Tm → Hp → Prop} (hm : P.follows .mixedOrders = true) (hmk : ∀ D, ¬ J.mark D) {l0 : Nat} {xs : List (List AV)} (hY : YSpec P l0 J xs) {id : Nat} {l : List Oper} {dsts : List (Option Tmp)} (hd : l.map (·.dst) = dsts) (hnt : nt ≤ 999999)
    (hkp : keepOk kp dsts = true) (hkp1 : keepOk kp ((l.take p).map (·.dst)) = true) (hnd : l.all noDefer = true) (hp : p ≤ l.length ∧ backB l 0 = true ∧ guardsB (l.take p) = true ∧ sfxB l p = true)
    (h : ∀ K : Tm → Hp → List Tr → Prop, (∀ T' H' tr, drawB (l.take p) tr = true → gOps P l0 xs nt dsts (l.drop p) T' H' (Q .normal) → K T' H' tr) → vcOpsD P nt ((l.take p).map (·.dst)) (l.take p) T H [] K) : GWp P none J nt kp (.region id l.toArray true) T H Q := by
  intro hJ kv a w hs
  obtain ⟨hpl, hback, hg, hsf⟩ := hp
  have h' := h (fun T' H' tr => drawB (l.take p) tr = true ∧ gOps P l0 xs nt dsts (l.drop p) T' H' (Q .normal)) (fun _ _ _ h1 h2 => ⟨h1, h2⟩)
  have hl : l.take p ++ l.drop p = l := List.take_append_drop p l
  have hlen : (l.take p).length = p := by rw [List.length_take]; omega
  have hd' : ∀ j : Nat, ((l.take p).map (·.dst))[j]? = ((l.take p).toArray[j]?).map (·.dst) := by intro j; rw [List.getElem?_toArray, List.getElem?_map]
  obtain ⟨Ts, Hs, es, t0, h0, hlex, hB, hQ⟩ := lex_of hd' (l.take p) T H [] h'
  refine wpIn_region_any hm ?_
  have hnd1 : ∀ o ∈ (l.take p).toArray.toList, noDefer o = true := by intro o ho; exact List.all_eq_true.1 hnd o (List.mem_of_mem_take (by simpa using ho))
  have := draw_soundG hJ hnt hkp1 (kv := kv) hlex rfl (by simpa using hB) (Q := onlyNormal fun a' w' => ∃ T' H', gOps P l0 xs nt dsts (l.drop p) T' H' (Q .normal) ∧ SG J nt kp kv T' H' a' w') (fun a w hst => ⟨_, _, hQ, hst⟩) (a := a) (w := { w with drawn := w.drawn + 1 }) (by rw [t0, h0]; exact hs.draw hJ _)
  have h2 := wpAnyIn_of (ro := none) hnd1 _ _ _ _ this
  have e1 : (l.take p).toArray.size = p := by simpa using hlen
  rw [e1] at h2
  have h3 := any_split (Q := fun e a' w' => ∃ T' H', Q e T' H' ∧ SG J nt kp kv T' H' a' w') (l2 := l.drop p) (by rw [hl]; exact hback) hg (by rw [hl, hlen]; exact hsf) (fun a' w' ⟨T', H', q, s⟩ => by
    rw [hl]
    exact gOps_sound hJ hmk hY hnt (ops := l.toArray) (dsts := dsts) (K := Q .normal) (by intro j; rw [← hd]; simp) hkp (fun T H a w q s => ⟨T, H, q, s⟩) (l.drop p) (fun o ho => ⟨List.all_eq_true.1 hnd o (List.mem_of_mem_drop ho), by rw [← hd]; exact List.mem_map_of_mem (List.mem_of_mem_drop ho)⟩) T' H' a' w' q s)
    p (Array.replicate p false) (Array.replicate l.length false) a _ (by simp [hlen]) (by rw [hl]; simp) (fun k => by
      simp only [Array.getD_eq_getD_getElem?, Array.getElem?_replicate]
      split <;> split <;> rfl) (by simp) (by
      intro k o _ hk
      simp only [Array.getD_eq_getD_getElem?, Array.getElem?_replicate] at hk
      split at hk <;> cases hk) h2
  rw [hl] at h3
  have e2 : p + (l.drop p).length = l.toArray.size := by rw [List.length_drop]; simp; omega
  rw [e2] at h3
  exact h3
theorem gwp_sdy (p : Nat) {T : Tm} {H : Hp} {Q : Exit → Tm → Hp → Prop} {y : Code} (hm : P.follows .mixedOrders = true) (hmk : ∀ D, ¬ J.mark D) {l0 : Nat} {xs : List (List AV)} (hY : YSpec P l0 J xs) {id : Nat} {l : List Oper} {dsts : List (Option Tmp)} (hd : l.map (·.dst) = dsts) (hnt : nt ≤ 999999)
    (hkp : keepOk kp dsts = true) (hkp1 : keepOk kp ((l.take p).map (·.dst)) = true) (hnd : l.all noDefer = true) (hp : p ≤ l.length ∧ backB l 0 = true ∧ guardsB (l.take p) = true ∧ sfxB l p = true)
    (h : ∀ K : Tm → Hp → Prop, (∀ T' H', GWp P none J nt kp y T' H' Q → K T' H') → ∀ K1 : Tm → Hp → List Tr → Prop, (∀ T' H' tr, drawB (l.take p) tr = true → gOps P l0 xs nt dsts (l.drop p) T' H' K → K1 T' H' tr) → vcOpsD P nt ((l.take p).map (·.dst)) (l.take p) T H [] K1) : GWp P none J nt kp (.seq (.region id l.toArray true) y) T H Q :=
  gwp_seq (gwp_drawY p hm hmk hY hd hnt hkp hkp1 hnd hp (h _ fun _ _ h => h))
end
end Go.AM
/- The abstract machine, part S: a step of a range over a map, whichever entry comes out. No condition. -/
namespace Go.AM
set_option linter.unusedVariables false
set_option linter.unusedSimpArgs false

theorem filter_erase : ∀ (l : List MapEntry) (i : Nat) (e : MapEntry), (l.map (·.born)).Nodup → l[i]? = some e → l.filter (fun x => !(x.born == e.born)) = l.eraseIdx i
  | [], i, e, _, h => by simp at h
  | x :: l, 0, e, hn, h => by
    simp only [List.getElem?_cons_zero, Option.some.injEq] at h
    subst h
    simp only [List.map_cons, List.nodup_cons] at hn
    simp only [List.filter_cons, beq_self_eq_true, Bool.not_true, Bool.false_eq_true, if_false, List.eraseIdx_cons_zero]
    rw [List.filter_eq_self]
    intro y hy
    have : y.born ≠ x.born := fun e => hn.1 (by rw [← e]; exact List.mem_map_of_mem hy)
    simp [this]
  | x :: l, i + 1, e, hn, h => by
    simp only [List.getElem?_cons_succ] at h
    simp only [List.map_cons, List.nodup_cons] at hn
    have hx : x.born ≠ e.born := fun k => hn.1 (by rw [k]; exact List.mem_map_of_mem (List.mem_of_getElem? h))
    have ih := filter_erase l i e hn.2 h
    have hb : (!(x.born == e.born)) = true := by simp [hx]
    rw [List.filter_cons, if_pos hb, ih, List.eraseIdx_cons_succ]

theorem map_eraseIdx' {α β : Type} (f : α → β) : ∀ (l : List α) (j : Nat), (l.eraseIdx j).map f = (l.map f).eraseIdx j
  | [], _ => by simp
  | _ :: _, 0 => by simp
  | x :: l, j + 1 => by simp [map_eraseIdx' f l j]

section
variable {P : Program} {nt : Nat}

/-- What the step does to the range's row, seen from the world behind it. -/
theorem itr_next {w : World} {S : Nat → Prop} {b : Nat} {ag : Bool} {kts : List KT} {left : List (List KC × Value)} {cur : Option (List KC × Value)} (h : ItrRep w S b ag kts left cur) (hSb : S b) (ty : TypeId) :
    (left = [] ∧ (Instr.next (.pointer (some ⟨b, 0, none⟩)) false ty).run P w = .ok (.tuple #[.bool false]) w) ∨
    ∃ i p, left[i]? = some p ∧ ∃ (w1 : World) (ob : Obj), (w1 = w ∨ w1 = w.drew) ∧ (Instr.next (.pointer (some ⟨b, 0, none⟩)) false ty).run P w = .ok (.tuple #[.bool true, keyVal ag p.1, p.2]) { w1 with heap := w1.heap.setIfInBounds b ob } ∧
      (∀ c t s, w.heap[b]? ≠ some (Obj.cells c t s)) ∧ ItrRep { w1 with heap := w1.heap.setIfInBounds b ob } S b ag kts (left.eraseIdx i) (some p) := by
  obtain ⟨mb, since, seen, c0, es, clock, h1, h2, h3, h4, h5, h6, h7, h8, h9, h10⟩ := h
  have hne : b ≠ mb := by rintro rfl; exact h2 hSb
  have hlt : b < w.heap.size := (Array.getElem?_eq_some_iff.1 h1).1
  rcases run_next_at w ty b mb since c0 seen es clock h1 h4 h7 h5.1 with ⟨k1, k2⟩ | ⟨e, he, w1, hw1, hrun⟩
  · left
    refine ⟨?_, k2⟩
    have : (leftOf es seen).toList.length = 0 := by rw [Array.length_toList]; exact k1
    have h8' := congrArg List.length h8
    simp only [List.length_map] at h8'
    exact List.eq_nil_of_length_eq_zero (by omega)
  · right
    obtain ⟨i, hi⟩ := List.getElem?_of_mem he
    have hi2 : ((leftOf es seen).toList.map (fun e => (e.key, e.val)))[i]? = some (e.key, e.val) := by rw [List.getElem?_map, hi]; rfl
    rw [h8, List.getElem?_map, Option.map_eq_some_iff] at hi2
    obtain ⟨p, hp, hpe⟩ := hi2
    simp only [Prod.mk.injEq] at hpe
    have hm := mem_left he
    refine ⟨i, p, hp, w1, .mapIter (some mb) since (seen.push e.born) clock, hw1, ?_, ?_, ?_⟩
    · rw [hpe.1, hpe.2]; exact hrun
    · intro c t s hc; rw [h1] at hc; cases hc
    · have hheap : w1.heap = w.heap := by rcases hw1 with rfl | rfl <;> rfl
      refine ⟨mb, since, seen.push e.born, clock, es, clock, ?_, h2, ?_, ?_, ?_, h6, h7, ?_, ?_, ?_⟩
      · show (w1.heap.setIfInBounds b _)[b]? = _
        rw [hheap]; simp [hlt]
      · show mb < (w1.heap.setIfInBounds b _).size
        rw [hheap]; simpa using h3
      · show (w1.heap.setIfInBounds b _)[mb]? = _
        rw [hheap, Array.getElem?_setIfInBounds_ne hne]; exact h4
      · exact ⟨h5.2, h5.2⟩
      · have hl : (leftOf es (seen.push e.born)).toList = (leftOf es seen).toList.eraseIdx i := by
          have hnd : ((leftOf es seen).toList.map (·.born)).Nodup := by
            unfold leftOf
            rw [Array.toList_filter]
            exact List.Nodup.sublist ((List.filter_sublist).map _) h6
          rw [← filter_erase _ i e hnd hi]
          unfold leftOf
          simp only [Array.toList_filter, List.filter_filter]
          congr 1
          funext x
          rw [contains_push]
          cases seen.contains x.born <;> cases (x.born == e.born) <;> rfl
        rw [hl, map_eraseIdx', h8, map_eraseIdx']
      · intro q hq; exact h9 q (List.mem_of_mem_eraseIdx hq)
      · intro q hq
        simp only [Option.some.injEq] at hq
        subst hq
        exact ⟨e, hm.1, seen, rfl, rfl, hpe.1.symm, hpe.2.symm⟩

/-- A step of a range over a map. -/
theorem SG.next {J : Jt} (hJ : JOk J) {o : Oper} {kp : List Nat} {kv : Nat → Value} {T : Tm} {H : Hp} {a : Act} {w : World} (hs : SG J nt kp kv T H a w) (hnt : nt ≤ 999999) {it : Operand} {r : Nat} {ag : Bool} {kts : List KT} {left : List (List KC × Value)} {cur : Option (List KC × Value)}
    (ho : o.op = .next it false) (hx : evT (look T) it = .ptr r 0 0) (hr : hget H r = some (.itr ag kts left cur)) (hrl : r < H.length)
    (hd : ∀ d, o.dst = some d → d < nt) (hkp : ∀ d, o.dst = some d → ∀ t ∈ kp, d ≠ t) {K : Act → World → Prop} {Q : Exit → Act → World → Prop}
    (h0 : left = [] → ∀ a' w', SG J nt kp kv (putT T o.dst (.tup [.v (.bool false)])) H a' w' → K a' w')
    (h1 : ∀ i p, left[i]? = some p → ∀ a' w', SG J nt kp kv (putT T o.dst (.tup [.v (.bool true), .v (keyVal ag p.1), .v p.2])) (hset H r (some (.itr ag kts (left.eraseIdx i) (some p)))) a' w' → K a' w') : o.wp P a w K Q := by
  obtain ⟨⟨S0, ρ, L, hc, hL, hj, hm⟩, hk⟩ := hs
  obtain ⟨l, hl, b, hb, ho0, hrep⟩ := hc.rows r _ hr
  have hy : a.eval it = .pointer (some ⟨b, 0, none⟩) := by
    have he := eval_repG (a := a) hc.tmps it
    rw [hx] at he
    generalize a.eval it = y at he
    cases he with
    | pure _ _ h => cases h
    | ptr _ _ _ y q1 q2 q3 =>
      obtain ⟨b', hb', hy⟩ := q3 l hl
      rw [hb] at hb'
      simp only [Option.some.injEq] at hb'
      subst hb'
      rw [hy, ho0]; simp
  have hSb : Sx S0 ρ b := Or.inr ⟨r, l, hl, hb⟩
  rcases itr_next (P := P) hrep hSb o.type with ⟨k1, k2⟩ | ⟨i, p, hp, w1, ob, hw1, hrun, hnc, hrep'⟩
  · unfold Oper.wp
    have : (execOp a.eval o).run P w = .ok (.value (.tuple #[.bool false])) w := by
      simp only [execOp, ho, hy, Sem.run_bind, k2, Result.andThen_ok, Sem.run_pure]
    rw [this]
    refine h0 k1 _ _ (SG.post (e := ⟨.tup [.v (.bool false)], [], []⟩) hJ hc hL hj hm hk hnt (post_skip hc.wf ?_) hd hkp trivial rfl)
    exact .pure _ _ (.tup _ [.bool false] rfl (fun i c y q1 q2 => by
      match i with
      | 0 => simp at q1 q2; subst q1 q2; exact .v _
      | n + 1 => simp at q1))
  · unfold Oper.wp
    have : (execOp a.eval o).run P w = .ok (.value (.tuple #[.bool true, keyVal ag p.1, p.2])) { w1 with heap := w1.heap.setIfInBounds b ob } := by
      simp only [execOp, ho, hy, Sem.run_bind, hrun, Result.andThen_ok, Sem.run_pure]
    rw [this]
    have hheap : w1.heap = w.heap := by rcases hw1 with rfl | rfl <;> rfl
    have hos : w1.os = w.os ∧ w1.tape = w.tape ∧ w1.output = w.output := by rcases hw1 with rfl | rfl <;> exact ⟨rfl, rfl, rfl⟩
    have hsize : ({ w1 with heap := w1.heap.setIfInBounds b ob } : World).heap.size = w.heap.size := by simp [hheap]
    have hother : ∀ k, k ≠ b → ({ w1 with heap := w1.heap.setIfInBounds b ob } : World).heap[k]? = w.heap[k]? := by
      intro k hk
      show (w1.heap.setIfInBounds b ob)[k]? = _
      rw [hheap, Array.getElem?_setIfInBounds_ne (Ne.symm hk)]
    have hin : upsIn H [(r, some (ARow.itr ag kts (left.eraseIdx i) (some p)))] := ⟨Nat.le_of_lt hrl, trivial⟩
    refine h1 i p hp _ _ (SG.post (e := ⟨.tup [.v (.bool true), .v (keyVal ag p.1), .v p.2], [(r, some (.itr ag kts (left.eraseIdx i) (some p)))], []⟩) (ρ' := ρ) hJ hc hL hj hm hk hnt ?_ hd hkp hin rfl)
    exact
      { wf := ⟨hc.wf.inj, fun r l b h1 h2 => by rw [hsize]; exact hc.wf.own r l b h1 h2, fun r l h1 => Or.inl (hc.wf.given r l h1), fun b h => by rw [hsize]; exact hc.wf.low b h, fun b h => trivial⟩
        rep := .pure _ _ (.tup _ [.bool true, keyVal ag p.1, p.2] rfl (fun i c y q1 q2 => by
          match i with
          | 0 => simp at q1 q2; subst q1 q2; exact .v _
          | 1 => simp at q1 q2; subst q1 q2; exact .v _
          | 2 => simp at q1 q2; subst q1 q2; exact .v _
          | n + 3 => simp at q1))
        ups := by
          intro r' o' hm
          simp only [List.mem_singleton, Prod.mk.injEq] at hm
          obtain ⟨rfl, rfl⟩ := hm
          exact ⟨l, hl, b, hb, ho0, hrep'⟩
        others := fun r _ => rfl
        only := fun r l hl => Or.inl hl
        ext := ⟨hos.1, hos.2.1, hos.2.2, by omega, fun k hk hm => hother k (by rintro rfl; exact hm ⟨r, l, some (.itr ag kts (left.eraseIdx i) (some p)), by simp, hl, hb⟩), fun k c t s hc => by
          by_cases e : k = b
          · subst e; exact absurd hc (hnc c t s)
          · exact ⟨c, t, s, (hother k e).trans hc, rfl⟩⟩ }

/-- A REGION that begins with a step of a range over a map: walked for its end, and for each entry that may come out. -/
theorem gwp_sn {ro : Option Nat} {J : Jt} {kp : List Nat} {T : Tm} {H : Hp} {Q : Exit → Tm → Hp → Prop} {id : Nat} {o : Oper} {l : List Oper} {y : Code} {dsts : List (Option Tmp)} (it : Operand) (r : Nat) {ag : Bool} {kts : List KT} {left : List (List KC × Value)} {cur : Option (List KC × Value)}
    (hd : (o :: l).map (·.dst) = dsts) (hnt : nt ≤ 999999) (hkp : keepOk kp dsts = true) (hnd : (o :: l).all noDefer = true) (ho : o.op = .next it false) (hg : o.guard = none) (hdk : dstOk nt o.dst)
    (hx : evT (look T) it = .ptr r 0 0) (hr : hget H r = some (.itr ag kts left cur))
    (h0 : left = [] → ∀ K : Tm → Hp → Prop, (∀ T' H', GWp P ro J nt kp y T' H' Q → K T' H') → vcOps P nt dsts l (putT T o.dst (.tup [.v (.bool false)])) H K)
    (h1 : ∀ i p, left[i]? = some p → ∀ K : Tm → Hp → Prop, (∀ T' H', GWp P ro J nt kp y T' H' Q → K T' H') → vcOps P nt dsts l (putT T o.dst (.tup [.v (.bool true), .v (keyVal ag p.1), .v p.2])) (hset H r (some (.itr ag kts (left.eraseIdx i) (some p)))) K) :
    GWp P ro J nt kp (.seq (.region id (o :: l).toArray false) y) T H Q := by
  refine gwp_seq ?_
  intro hJ kv a w hs
  refine wpIn_region_lit ?_
  have hrl : r < H.length := by
    rcases Nat.lt_or_ge r H.length with h | h
    · exact h
    · rw [hget_none H r h] at hr; cases hr
  have hall := List.all_eq_true.1 hnd
  have hrest : ∀ o' ∈ l, noDefer o' = true ∧ o'.dst ∈ dsts := fun o' ho' => ⟨hall o' (by simp [ho']), by rw [← hd]; exact List.mem_map_of_mem (by simp [ho'])⟩
  have hdst : o.dst ∈ dsts := by rw [← hd]; exact List.mem_map_of_mem (by simp)
  have snd := fun T H a w => vcOps_soundG (P := P) (ro := ro) (QQ := fun e a' w' => ∃ T' H', thenA (fun T' H' => GWp P ro J nt kp y T' H' Q) Q e T' H' ∧ SG J nt kp kv T' H' a' w') hJ hnt (ops := (o :: l).toArray) (dsts := dsts) (K := fun T' H' => GWp P ro J nt kp y T' H' Q) (by intro j; rw [← hd, List.getElem?_map, List.getElem?_toArray]) hkp (fun T H a w q s => ⟨T, H, q, s⟩) l hrest T H a w
  have := hs.next (P := P) (o := o) (K := fun a w => wpListIn (fr ro) 0 P (o :: l).toArray (fun e a' w' => ∃ T' H', thenA (fun T' H' => GWp P ro J nt kp y T' H' Q) Q e T' H' ∧ SG J nt kp kv T' H' a' w') l a w) (Q := fun e a' w' => ∃ T' H', thenA (fun T' H' => GWp P ro J nt kp y T' H' Q) Q e T' H' ∧ SG J nt kp kv T' H' a' w')
    hJ hnt ho hx hr hrl (fun d hd => by rw [hd] at hdk; exact hdk) (fun d hd' => keepOk_spec hkp (by rw [← hd']; exact hdst))
    (fun hl0 a' w' hs' => snd _ _ a' w' (h0 hl0 _ fun _ _ h => h) hs') (fun i p hp a' w' hs' => snd _ _ a' w' (h1 i p hp _ fun _ _ h => h) hs')
  unfold wpListIn
  split
  · exact wpIn_of_op (hall o (by simp)) this
  · rename_i hw; exact absurd (by simp [Region.wanted, hg]) hw
end

/-- A call that takes lists by content may be handed rows for them, which are gone behind it. -/
theorem MutCall.eat {P : Program} {f : FuncId} {args args' : List AV} {Hk Hd Hk' Hn : Hp} {res : AV} (dep k : Nat) (hk : k = Hk.length) (hren : (List.range k).map (fun r => (hget (Hk ++ Hd) r).map (renRow ((List.range k).map some))) = Hk) (ha : args.map (renC (hget (Hk ++ Hd)) (List.range k) dep) = args')
    (h : MutCall P f args' Hk [] res Hk' Hn) : MutCall P f args Hk Hd res Hk' Hn := by
  subst ha
  obtain ⟨hcf, hkl, hcall⟩ := h
  refine ⟨hcf, hkl, ?_⟩
  intro S0 w ρ vs hh hlen hrep
  obtain ⟨G, hG⟩ : ∃ G, G = (List.range k).map some := ⟨_, rfl⟩
  have hGs : ∀ (r q : Nat), G[r]? = some (some q) ↔ (r < k ∧ q = r) := by
    intro r q
    rw [hG, List.getElem?_map]
    by_cases hr : r < k
    · rw [List.getElem?_range hr]; simp [hr, eq_comm]
    · rw [List.getElem?_eq_none (by simp; omega)]; simp [hr]
  have hlt : ∀ r : Nat, (∃ q, G[r]? = some (some q)) → r < (Hk ++ []).length := by
    rintro r ⟨q, hq⟩
    have := ((hGs r q).1 hq).1
    simp; omega
  have hS : ∀ b, Sx S0 (renρ ρ G) b → Sx S0 ρ b := by
    rintro b (h | ⟨r, l, h1, h2⟩)
    · exact Or.inl h
    · obtain ⟨q, _, h3⟩ := renρ_spec h1
      exact Or.inr ⟨q, l, h3, h2⟩
  have hown : ∀ b, own (renρ ρ G) b → own ρ b := by
    rintro b ⟨r, l, h1, h2⟩
    obtain ⟨q, _, h3⟩ := renρ_spec h1
    exact ⟨q, l, h3, h2⟩
  have hh2 : Held S0 w (renρ ρ G) (Hk ++ []) := by
    refine ⟨⟨?_, ?_, ?_, hh.wf.low, fun _ _ => trivial⟩, ?_, ?_⟩
    · intro r r' l l' b h1 h2 k1 k2
      obtain ⟨q, g1, p1⟩ := renρ_spec h1
      obtain ⟨q', g2, p2⟩ := renρ_spec h2
      have := hh.wf.inj q q' l l' b p1 p2 k1 k2
      have e1 := ((hGs _ _).1 g1).2
      have e2 := ((hGs _ _).1 g2).2
      omega
    · intro r l b h1 k1
      obtain ⟨q, g1, p1⟩ := renρ_spec h1
      exact hh.wf.own q l b p1 k1
    · intro r l h1
      obtain ⟨q, g1, _⟩ := renρ_spec h1
      exact hlt r ⟨q, g1⟩
    · intro r row hr
      rw [List.append_nil, ← hren, hget_map] at hr
      split at hr
      · rename_i q hq
        have hqk : q < k ∧ q = r := by
          have hr' : r < k := by
            have := (List.getElem?_eq_some_iff.1 hq).1
            simpa using this
          rw [List.getElem?_range hr'] at hq
          simp only [Option.some.injEq] at hq
          omega
        simp only [Option.map_eq_some_iff] at hr
        obtain ⟨row0, h0, rfl⟩ := hr
        obtain ⟨l, hl, hrow⟩ := hh.rows q row0 h0
        refine ⟨l, ?_, ?_⟩
        · simp only [renρ, (hGs r q).2 ⟨by omega, by omega⟩]; exact hl
        · rw [← hG]
          exact (renRow_rep hS hrow).ext (Nat.le_refl _) (fun b _ hnb => ⟨rfl, hnb⟩) hlt (fun r l _ h => h) (fun _ _ => rfl)
      · cases hr
    · intro r hr
      cases h2 : renρ ρ G r with
      | none => rfl
      | some l =>
        exfalso
        obtain ⟨q, g1, p1⟩ := renρ_spec h2
        obtain ⟨e1, e2⟩ := (hGs _ _).1 g1
        subst e2
        rw [List.append_nil, ← hren, hget_map, List.getElem?_range e1] at hr
        simp only [Option.map_eq_none_iff] at hr
        have := hh.dead q hr
        rw [this] at p1; cases p1
  refine (hcall S0 w (renρ ρ G) vs hh2 (by simpa using hlen) (fun i c y h1 h2 => ?_)).mono ?_
  · simp only [List.getElem?_map, Option.map_eq_some_iff] at h1
    obtain ⟨c', h1, rfl⟩ := h1
    rw [hG]
    refine (renC_rep hh.wf dep c' y (fun r _ row hr => hh.rows r row hr) (hrep i c' y h1 h2)).ext (Nat.le_refl _) (fun b _ hnb => ⟨rfl, hnb⟩) ?_ (fun r l _ h => h)
    rw [← hG]; exact hlt
  · rintro e w' ⟨v, ρ', rfl, h1, h2, h3, h4, h5⟩
    refine ⟨v, ρ', rfl, h1, h2, fun r l hr hl => ?_, fun b hb => (h4 b hb).imp (hown b) id, h5.mono fun b _ hb => hown b hb⟩
    obtain ⟨q, g1, p1⟩ := renρ_spec (h3 r l hr hl)
    have := ((hGs _ _).1 g1).2
    subst this
    exact p1
end Go.AM
