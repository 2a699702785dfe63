/- The abstract machine, part 9: one operation, as a condition on what goes on behind it. No condition. -/
import Derived.Test.YteodgilndjjgdaaAmO
namespace Go.AM
set_option linter.unusedVariables false
set_option linter.unusedSimpArgs false

/-- What goes on behind a step, kept whole: simp leaves 'K' alone, since the type of what follows leans on it. -/
structure Ph {α : Type} (K : α → Prop) : Type where mk ::
def ct {α : Type} (K : α → Prop) (_ : Ph K) : α → Prop := K
theorem ct_apply {α : Type} {K : α → Prop} {h : Ph K} {e : α} : ct K h e = K e := rfl

/-- The value that is meant, where it is known to the last sign. -/
def exactCells : List AV → Option (List Value)
  | [] => some []
  | .v x :: cs => if x.oneCell' = true then (exactCells cs).map (x :: ·) else none
  | _ => none

def exactOf : AV → Option Value
  | .v x => some x
  | .agg cs => (exactCells cs).map fun l => .agg l.toArray
  | _ => none

theorem exactCells_rep {w : World} {S : Nat → Prop} {ρ : Nat → Option Loc} {L : Nat → Prop} : ∀ (cs : List AV) (vs us : List Value), exactCells cs = some us → cs.length = vs.length →
    (∀ (i : Nat) c x, cs[i]? = some c → vs[i]? = some x → x.oneCell' = true ∧ RepV w S ρ L c x) → vs = us := by
  intro cs
  induction cs with
  | nil => intro vs us h1 h2 _; simp [exactCells] at h1; subst h1; exact List.eq_nil_of_length_eq_zero h2.symm
  | cons c cs ih =>
    intro vs us h1 h2 h3
    match vs, h2 with
    | v :: vs, h2 =>
      cases c with
      | v x =>
        simp only [exactCells] at h1
        split at h1
        · simp only [Option.map_eq_some_iff] at h1
          obtain ⟨us', h1, rfl⟩ := h1
          have := exact_v (h3 0 _ _ rfl rfl).2
          subst this
          rw [ih vs us' h1 (by simpa using h2) (fun i c x k1 k2 => h3 (i + 1) c x k1 k2)]
        · cases h1
      | _ => cases h1

theorem exactOf_rep {w : World} {S : Nat → Prop} {ρ : Nat → Option Loc} {L : Nat → Prop} {x : AV} {y z : Value} (h : exactOf x = some z) (hr : RepV w S ρ L x y) : y = z := by
  cases x with
  | v x => simp only [exactOf, Option.some.injEq] at h; subst h; exact exact_v hr
  | agg cs =>
    simp only [exactOf, Option.map_eq_some_iff] at h
    obtain ⟨l, h1, rfl⟩ := h
    obtain ⟨vs, rfl, hl, hc⟩ := agg_cells hr
    rw [exactCells_rep cs vs l h1 hl hc]
  | _ => cases h

def minI (x y : Int) : Int := if y < x then y else x
def maxI (x y : Int) : Int := if y > x then y else x

/-- All are integers of one kind. -/
def intsOf (k : IntKind) : List AV → Option (List Int)
  | [] => some []
  | .v (.int k' n) :: cs => if k' = k then (intsOf k cs).map (n :: ·) else none
  | _ => none

/-- A side condition, where the operation stands under a condition. -/
def cnd : List Bool → Prop → Prop
  | [], p => p
  | m, p => m.all id = true → p

theorem cnd_use {m : List Bool} {p : Prop} (h : cnd m p) (hm : m.all id = true) : p := by
  cases m with
  | nil => exact h
  | cons b m => exact h hm

def aAlloc (td : TD) (N : Nat) (K : Eff → Prop) : Prop :=
  match td with
  | .bad => False
  | td => K ⟨.ptr N 0 0, [(N, some (.els td.size [td.zero.map .v]))], []⟩

def aBox (x : AV) (N : Nat) (K : Eff → Prop) : Prop :=
  match x.cells with
  | some cs => K ⟨.ptr N 0 0, [(N, some (.els cs.length [cs]))], []⟩
  | none => False

def aBuild (P : Program) (td : TD) (parts : List (Nat × Operand)) (ev : Operand → AV) (K : Eff → Prop) : Prop :=
  match td with
  | .agg z fs => match bfill (fun i => (fs[i]?).map fun (q : Nat × Nat × TypeId) => (q.1, q.2.1)) ev parts (z.map .v) with
    | some res => K ⟨.agg res, [], []⟩
    | none => False
  | .arr z n e => tdOf P e ≠ .bad ∧ match bfill (fun i => some (i * (tdOf P e).size, (tdOf P e).size)) ev parts (z.map .v) with
    | some res => K ⟨.agg res, [], []⟩
    | none => False
  | _ => False

def aLit (P : Program) (td : TD) (n : Nat) (parts : Array (Nat × Operand)) (ev : Operand → AV) (K : Eff → Prop) : Prop :=
  match td with
  | .slice e => n = parts.toList.length ∧ (tdOf P e).size ≠ 0 ∧ parts.toList.length * (tdOf P e).size ≤ 16777216 ∧ match litEls ev (tdOf P e).size parts.toList 0 with
    | some els => (els.all fun el => el.all (AV.noRef 2)) = true ∧ K ⟨.full (tdOf P e).size els, [], []⟩
    | none => False
  | _ => False

def aLoad (td : TD) (x : AV) (H : Nat → Option ARow) (K : Eff → Prop) : Prop :=
  td ≠ .bad ∧ match x with
  | .ptr r i off => match H r with
    | some (.els sz es) => match es[i]? with
      | some e => off + td.size ≤ e.length ∧ K ⟨mk td ((e.drop off).take td.size), [], [r]⟩
      | none => False
    | _ => False
  | .iptr cs => td.size ≤ cs.length ∧ K ⟨mk td (cs.take td.size), [], []⟩
  | _ => False

/-- A load under a condition: one that can't be met may look where nothing is. -/
def aLoadM (m : List Bool) (td : TD) (x : AV) (H : Nat → Option ARow) (K : Eff → Prop) : Prop :=
  td ≠ .bad ∧ match x with
  | .ptr r i off => match H r with
    | some (.els sz es) => match es[i]? with
      | some e => off + td.size ≤ e.length ∧ K ⟨mk td ((e.drop off).take td.size), [], [r]⟩
      | none => m.all id = false ∧ K ⟨mk td (td.zero.map .v), [], []⟩
    | _ => False
  | .iptr cs => td.size ≤ cs.length ∧ K ⟨mk td (cs.take td.size), [], []⟩
  | _ => False

def aStore (td : TD) (p x : AV) (H : Nat → Option ARow) (K : Eff → Prop) : Prop :=
  td ≠ .bad ∧ match p with
  | .ptr r i off => match H r with
    | some (.els sz es) => match es[i]? with
      | some e => match x.cells with
        | some cs => cs.length = td.size ∧ off + cs.length ≤ e.length ∧ K ⟨.any, [(r, some (.els sz (es.set i (splice e off cs))))], [r]⟩
        | none => False
      | none => False
    | _ => False
  | _ => False

def aNil (x : AV) (H : Nat → Option ARow) (K : Eff → Prop) : Prop :=
  match x with
  | .ptr r i off => match H r with
    | some (.els sz es) => K ⟨.ptr r i off, [], [r]⟩
    | _ => False
  | .iptr cs => K ⟨.iptr cs, [], []⟩
  | _ => False

def aBin (P : Program) (m0 : List Bool) (op : BinOp) (t : TypeId) (x y : Operand) (u v : AV) (K : Eff → Prop) : Prop :=
  match op, u, v with
  | .add, .v (.int k m), .v (.int k' n) => k = k' ∧ K ⟨.v (.int k (k.wrap (m + n))), [], []⟩
  | .sub, .v (.int k m), .v (.int k' n) => k = k' ∧ K ⟨.v (.int k (k.wrap (m - n))), [], []⟩
  | .mul, .v (.int k m), .v (.int k' n) => k = k' ∧ K ⟨.v (.int k (k.wrap (m * n))), [], []⟩
  | .quo, .v (.int k m), .v (.int k' n) => k = k' ∧ cnd m0 (n ≠ 0) ∧ K ⟨.v (.int k (k.wrap (m.tdiv n))), [], []⟩
  | .rem, .v (.int k m), .v (.int k' n) => k = k' ∧ cnd m0 (n ≠ 0) ∧ K ⟨.v (.int k (m.tmod n)), [], []⟩
  | .lss, .v (.int k m), .v (.int k' n) => k = k' ∧ K ⟨.v (.bool (decide (m < n))), [], []⟩
  | .leq, .v (.int k m), .v (.int k' n) => k = k' ∧ K ⟨.v (.bool (decide (m ≤ n))), [], []⟩
  | .gtr, .v (.int k m), .v (.int k' n) => k = k' ∧ K ⟨.v (.bool (decide (n < m))), [], []⟩
  | .geq, .v (.int k m), .v (.int k' n) => k = k' ∧ K ⟨.v (.bool (decide (n ≤ m))), [], []⟩
  | .eql, .v (.int k m), .v (.int k' n) => k = k' ∧ K ⟨.v (.bool (m == n)), [], []⟩
  | .neq, .v (.int k m), .v (.int k' n) => k = k' ∧ K ⟨.v (.bool (m != n)), [], []⟩
  | .and, .v (.int k m), .v (.int k' n) => k = k' ∧ K ⟨.v (.int k (bits .and k m n)), [], []⟩
  | .shr, .v (.int k m), .v (.int k' n) => cnd m0 (0 ≤ n ∧ n ≤ k.bits) ∧ K ⟨.v (.int k (m / 2 ^ n.toNat)), [], []⟩
  | .eql, .agg xs, .agg ys => match skOf P t, kcs xs, kcs ys with
    | some ts, some ks, some ls => kcFit ts ks = true ∧ kcFit ts ls = true ∧ K ⟨.v (.bool (decide (ks = ls))), [], []⟩
    | _, _, _ => False
  | .neq, .agg xs, .agg ys => match skOf P t, kcs xs, kcs ys with
    | some ts, some ks, some ls => kcFit ts ks = true ∧ kcFit ts ls = true ∧ K ⟨.v (.bool (!decide (ks = ls))), [], []⟩
    | _, _, _ => False
  | op, u, v => match exactOf u, exactOf v with
    | some p, some q => ∃ z, (∀ w : World, (eqGuard op t x y p q).run P w = .ok () w) ∧ (∀ w : World, (binOp op t p q).run P w = .ok z w) ∧ K ⟨.v z, [], []⟩
    | _, _ => False

def aUn (op : UnOp) (x : AV) (K : Eff → Prop) : Prop :=
  match op, x with
  | .not, .v (.bool b) => K ⟨.v (.bool !b), [], []⟩
  | .neg, .v (.int k n) => K ⟨.v (.int k (k.wrap (0 - n))), [], []⟩
  | _, _ => False

def aConv (P : Program) (s d : TypeId) (x : AV) (K : Eff → Prop) : Prop :=
  match x with
  | .v u => ∃ z, (∀ w : World, (convert s d u).run P w = .ok z w) ∧ K ⟨.v z, [], []⟩
  | _ => False

def natOf (ev : Operand → AV) (x : Option Operand) (d : Nat) (K : Nat → Prop) : Prop :=
  match x with
  | none => K d
  | some y => match ev y with
    | .v (.int _ n) => 0 ≤ n ∧ K n.toNat
    | _ => False

def aSlice (P : Program) (td : TD) (x : AV) (lo hi : Option Operand) (ev : Operand → AV) (H : Nat → Option ARow) (K : Eff → Prop) : Prop :=
  match td with
  | .slice e => (tdOf P e).size ≠ 0 ∧ match x with
    | .lst sz els => sz = (tdOf P e).size ∧ natOf ev lo 0 (ct (fun l => natOf ev hi els.length (ct (fun h => l ≤ h ∧ h ≤ els.length ∧ K ⟨.lst sz ((els.take h).drop l), [], []⟩) ⟨⟩)) ⟨⟩)
    | .full sz els => sz = (tdOf P e).size ∧ natOf ev lo 0 (ct (fun l => natOf ev hi els.length (ct (fun h => l ≤ h ∧ h ≤ els.length ∧ K ⟨.lst sz ((els.take h).drop l), [], []⟩) ⟨⟩)) ⟨⟩)
    | .row r i n => match H r with
      | some (.els sz es) => sz = (tdOf P e).size ∧ i + n ≤ es.length ∧ natOf ev lo 0 (ct (fun l => natOf ev hi n (ct (fun h => l ≤ h ∧ h ≤ n ∧ K ⟨if l = 0 ∧ n = 0 then .row r i n else .row r (i + l) (h - l), [], [r]⟩) ⟨⟩)) ⟨⟩)
      | _ => False
    | .v (.slice none 0 0) => natOf ev lo 0 (ct (fun l => natOf ev hi 0 (ct (fun h => l ≤ h ∧ h ≤ 0 ∧ K ⟨.v (.slice none 0 0), [], []⟩) ⟨⟩)) ⟨⟩)
    | _ => False
  | _ => False

def aFieldAddr (td : TD) (x : AV) (f : Nat) (H : Nat → Option ARow) (K : Eff → Prop) : Prop :=
  match td with
  | .agg z fs => match fs[f]? with
    | some (off, sz, t) => sz ≠ 0 ∧ match x with
      | .ptr r i o => match H r with
        | some (.els _ _) => K ⟨.ptr r i (o + off), [], [r]⟩
        | _ => False
      | .iptr cs => off ≤ cs.length ∧ K ⟨.iptr (cs.drop off), [], []⟩
      | _ => False
    | none => False
  | _ => False

def aField (P : Program) (td : TD) (x : AV) (f : Nat) (K : Eff → Prop) : Prop :=
  match td with
  | .agg z fs => match fs[f]? with
    | some (off, _, t) => tdOf P t ≠ .bad ∧ match x with
      | .agg cs => off + (tdOf P t).size ≤ cs.length ∧ K ⟨mk (tdOf P t) ((cs.drop off).take (tdOf P t).size), [], []⟩
      | _ => False
    | none => False
  | _ => False

/-- An element by an index, under a condition. -/
def idxK (m : List Bool) (els : List (List AV)) (n : Nat) (K : Eff → Prop) : Prop := ∃ el, (m.all id = true → els[n]? = some el) ∧ K ⟨.iptr el, [], []⟩

def aElem (m : List Bool) (els : List (List AV)) (n : Nat) (K : Eff → Prop) : Prop :=
  match m with
  | [] => match els[n]? with
    | some el => K ⟨.iptr el, [], []⟩
    | none => False
  | m => idxK m els n K

theorem aElem_use {m : List Bool} {els : List (List AV)} {n : Nat} {K : Eff → Prop} (h : aElem m els n K) : ∃ el, (m.all id = true → els[n]? = some el) ∧ K ⟨.iptr el, [], []⟩ := by
  unfold aElem at h
  split at h
  · split at h
    · rename_i el he; exact ⟨el, fun _ => he, h⟩
    · exact h.elim
  · exact h

def aIndex (P : Program) (m : List Bool) (td : TD) (x i : AV) (H : Nat → Option ARow) (K : Eff → Prop) : Prop :=
  match td with
  | .slice e => (tdOf P e).size ≠ 0 ∧ match i with
    | .v (.int _ n) => cnd m (0 ≤ n) ∧ match x with
      | .lst sz els => sz = (tdOf P e).size ∧ aElem m els n.toNat K
      | .full sz els => sz = (tdOf P e).size ∧ aElem m els n.toNat K
      | .row r i0 len => match H r with
        | some (.els sz es) => sz = (tdOf P e).size ∧ cnd m (n.toNat < len) ∧ K ⟨.ptr r (i0 + n.toNat) 0, [], [r]⟩
        | _ => False
      | _ => False
    | _ => False
  | .arr z len e => (tdOf P e).size ≠ 0 ∧ match i with
    | .v (.int _ n) => cnd m (0 ≤ n ∧ n < len) ∧ match x with
      | .ptr r i0 off => match H r with
        | some (.els _ _) => K ⟨.ptr r i0 (off + n.toNat * (tdOf P e).size), [], [r]⟩
        | _ => False
      | .iptr cs => K ⟨.iptr (cs.drop (n.toNat * (tdOf P e).size)), [], []⟩
      | _ => False
    | _ => False
  | _ => False

def aLen (td : TD) (x : AV) (H : Nat → Option ARow) (K : Eff → Prop) : Prop :=
  match td with
  | .slice e => match x with
    | .lst sz els => K ⟨.v (.int .i64 els.length), [], []⟩
    | .full sz els => K ⟨.v (.int .i64 els.length), [], []⟩
    | .row r i n => match H r with
      | some (.els _ _) => K ⟨.v (.int .i64 n), [], [r]⟩
      | _ => False
    | .v (.slice none 0 0) => K ⟨.v (.int .i64 0), [], []⟩
    | _ => False
  | _ => False

/-- So much fits into the memory. -/
def Fits (a b : Nat) : Prop := a * b ≤ 140737488355328

theorem fits_of {a b : Nat} (ha : a ≤ 1000000) (hb : b ≤ 1000000) : Fits a b := by
  unfold Fits
  exact Nat.le_trans (Nat.mul_le_mul ha hb) (by decide)

def AV.isFull (sz : Nat) : AV → Bool
  | .full s _ => decide (s = sz)
  | _ => false

def aAppend (P : Program) (t t' : TypeId) (td : TD) (x y : AV) (H : Nat → Option ARow) (N : Nat) (K : Eff → Prop) : Prop :=
  t = t' ∧ match td with
  | .slice e => (tdOf P e).size ≠ 0 ∧ match srcEls H (tdOf P e).size y with
    | some (s, rd) => if s.isEmpty = true ∧ AV.isFull (tdOf P e).size x = true then K ⟨x, [], rd⟩ else match baseEls H (tdOf P e).size s x with
      | some (b, kill) => Fits (b.length + s.length) (P.bytesOf e + 1) ∧ K (appEff N (tdOf P e).size b s kill rd)
      | none => False
    | none => False
  | _ => False

/-- A call: its contract, and what goes on behind it. -/
def callK (P : Program) (m : List Bool) (f : FuncId) (args : List AV) (fl : Bool) (rd : List Nat) (N : Nat) (K : Eff → Prop) : Prop :=
  (∃ res, cnd m (PureCall P f args res) ∧ (fl = true ∨ res.flat 3 = true) ∧ K ⟨res, [], rd⟩) ∨
  (m = [] ∧ fl = true ∧ ∃ i k sz es, OwnCall P f args i k sz es ∧ K ⟨.row N i k, [(N, some (.els sz es))], []⟩)

def aCall (P : Program) (m : List Bool) (x : AV) (args : List AV) (H : Nat → Option ARow) (N : Nat) (K : Eff → Prop) : Prop :=
  match x with
  | .clo f caps => callK P m f ((args ++ caps).map (frz H 3)) ((args ++ caps).all (AV.noRef 2)) ((args ++ caps).flatMap (frzRd 3)) N K
  | _ => False

/-- A value that is said in other words behind it. -/
def valK (m : List Bool) (val : AV) (rd : List Nat) (K : Eff → Prop) : Prop := ∃ av, (m.all id = true → val = av) ∧ K ⟨av, [], rd⟩

def valM (m : List Bool) (val : AV) (K : Eff → Prop) : Prop :=
  match m with
  | [] => K ⟨val, [], []⟩
  | m => valK m val [] K

theorem valM_use {m : List Bool} {val : AV} {K : Eff → Prop} (h : valM m val K) : ∃ av, (m.all id = true → val = av) ∧ K ⟨av, [], []⟩ := by
  cases m with
  | nil => exact ⟨val, fun _ => rfl, h⟩
  | cons b m => exact h

def aIdx (P : Program) (m : List Bool) (td : TD) (x i : AV) (K : Eff → Prop) : Prop :=
  match td with
  | .arr z n e => tdOf P e ≠ .bad ∧ match x, i with
    | .agg cs, .v (.int _ j) => cnd m (0 ≤ j ∧ j < n ∧ j.toNat * (tdOf P e).size + (tdOf P e).size ≤ cs.length) ∧ valM m (mk (tdOf P e) ((cs.drop (j.toNat * (tdOf P e).size)).take (tdOf P e).size)) K
    | _, _ => False
  | _ => False

def aMake (mk : Option (Bool × List KT × Value)) (N : Nat) (K : Eff → Prop) : Prop :=
  match mk with
  | some (ag, kts, _) => K ⟨.mp N, [(N, some (.map ag kts []))], []⟩
  | none => False

def aLookup (m : List Bool) (mk : Option (Bool × List KT × Value)) (x q : AV) (ok : Bool) (H : Nat → Option ARow) (K : Eff → Prop) : Prop :=
  match mk, mapIn H x, keyK q with
  | some (ag, kts, z), some (ag', kts', kvs, rd), some (ag'', ks) => ag = ag' ∧ kts = kts' ∧ ag = ag'' ∧ kcFit kts ks = true ∧
    valK m (if ok then .tup [.v ((kvGet kvs ks).getD z), .v (.bool (kvGet kvs ks).isSome)] else .v ((kvGet kvs ks).getD z)) rd K
  | _, _, _ => False

def aMapSet (mk : Option (Bool × List KT × Value)) (x q v : AV) (H : Nat → Option ARow) (K : Eff → Prop) : Prop :=
  match mk, x, keyK q, v with
  | some (ag, kts, z), .mp r, some (ag', ks), .v u => (match H r with
    | some (.map ag'' kts' kvs) => ag = ag' ∧ ag = ag'' ∧ kts = kts' ∧ kcFit kts ks = true ∧ K ⟨.any, [(r, some (.map ag kts (kvSet kvs ks u)))], [r]⟩
    | _ => False)
  | _, _, _, _ => False

def aLenM (mk : Option (Bool × List KT × Value)) (x : AV) (H : Nat → Option ARow) (K : Eff → Prop) : Prop :=
  match mk, mapIn H x with
  | some _, some (_, _, kvs, rd) => K ⟨.v (.int .i64 kvs.length), [], rd⟩
  | _, _ => False

/-- So many zeros onto nothing. -/
def aAppZ (P : Program) (td : TD) (kt : Option KT) (n : Int) (N : Nat) (K : Eff → Prop) : Prop :=
  match td, kt with
  | .slice e, some (.i _) => (tdOf P e).size ≠ 0 ∧ 1 ≤ n ∧ Fits n.toNat (P.bytesOf e + 1) ∧ K ⟨.row N 0 n.toNat, [(N, some (.els (tdOf P e).size (List.replicate n.toNat ((tdOf P e).zero.map .v))))], []⟩
  | _, _ => False

def aCapN (td : TD) (K : Eff → Prop) : Prop :=
  match td with
  | .slice _ => K ⟨.v (.int .i64 0), [], []⟩
  | _ => False

def aBuiltin (P : Program) (b : Builtin) (args : List AV) (ts : List TypeId) (H : Nat → Option ARow) (N : Nat) (K : Eff → Prop) : Prop :=
  match b, args, ts with
  | .len, [.mp r], [t] => aLenM (mkOf P t) (.mp r) H K
  | .len, [.mpc a b c], [t] => aLenM (mkOf P t) (.mpc a b c) H K
  | .len, [x], [t] => aLen (tdOf P t) x H K
  | .append, [.v (.slice none 0 0), .v (.int _ n)], [t, t'] => aAppZ P (tdOf P t) (ktOf P t') n N K
  | .cap, [.v (.slice none 0 0)], [t] => aCapN (tdOf P t) K
  | .append, [x, y], [t, t'] => aAppend P t t' (tdOf P t) x y H N K
  | .min, .v (.int k m) :: rest, _ => match intsOf k rest with
    | some ns => K ⟨.v (.int k (ns.foldl minI m)), [], []⟩
    | none => False
  | .max, .v (.int k m) :: rest, _ => match intsOf k rest with
    | some ns => K ⟨.v (.int k (ns.foldl maxI m)), [], []⟩
    | none => False
  | _, _, _ => False

/-- ONE OPERATION. -/
def aop (P : Program) (m : List Bool) (op : Op) (ev : Operand → AV) (H : Nat → Option ARow) (N : Nat) (K : Eff → Prop) : Prop :=
  match op with
  | .move x => K ⟨ev x, [], []⟩
  | .assign x => K ⟨ev x, [], []⟩
  | .alloc t => aAlloc (tdOf P t) N K
  | .box _ x => aBox (ev x) N K
  | .build t ps => aBuild P (tdOf P t) ps.toList ev K
  | .buildSlice t n ps => aLit P (tdOf P t) n ps ev K
  | .load t x => aLoadM m (tdOf P t) (ev x) H K
  | .store t p x => aStore (tdOf P t) (ev p) (ev x) H K
  | .nilCheck x => aNil (ev x) H K
  | .binOp op t x y _ => aBin P m op t x y (ev x) (ev y) K
  | .unOp op _ x => aUn op (ev x) K
  | .convert s d x => aConv P s d (ev x) K
  | .makeFunc (.func f) first caps => first = #[] ∧ K ⟨.clo f (caps.toList.map ev), [], []⟩
  | .slice t x lo hi none => aSlice P (tdOf P t) (ev x) lo hi ev H K
  | .fieldAddr s x f => aFieldAddr (tdOf P s) (ev x) f H K
  | .field s x f => aField P (tdOf P s) (ev x) f K
  | .indexAddr t x i => aIndex P m (tdOf P t) (ev x) (ev i) H K
  | .extract x i => match ev x with
    | .tup cs => match cs[i]? with
      | some c => K ⟨c, [], []⟩
      | none => False
    | _ => False
  | .index t x i => aIdx P m (tdOf P t) (ev x) (ev i) K
  | .makeMap t none => aMake (mkOf P t) N K
  | .lookup t x q ok => aLookup m (mkOf P t) (ev x) (ev q) ok H K
  | .mapUpdate t x q v => aMapSet (mkOf P t) (ev x) (ev q) (ev v) H K
  | .call c => match c.callee with
    | .builtin b => aBuiltin P b (c.args.toList.map ev) c.argTypes.toList H N K
    | .value x => aCall P m (ev x) (c.args.toList.map ev) H N K
    | _ => False
  | _ => False

section
variable {P : Program} {o : Oper} {ev : Operand → AV} {H : Nat → Option ARow} {N : Nat}

theorem ok_exact2 {y : Value} (h : ∀ a : Act, (∀ x ∈ o.op.operands, ∀ z, exactOf (ev x) = some z → a.eval x = z) → ∀ w : World, (execOp a.eval o).run P w = .ok (.value y) w) : OpOk P o ev H N ⟨.v y, [], []⟩ := by
  refine OpOk.of_pure fun B S0 a w ρ L hw hops hrd => ⟨y, Or.inl (h a ?_ w), .pure _ _ (.v y)⟩
  intro x hx z hz
  exact exactOf_rep hz (hops x hx)

theorem intsOf_eval {a : Act} {k : IntKind} : ∀ (xs : List Operand) (ns : List Int), intsOf k (xs.map ev) = some ns → (∀ x ∈ xs, ∀ z, exactOf (ev x) = some z → a.eval x = z) → xs.map a.eval = ns.map (Value.int k ·) := by
  intro xs
  induction xs with
  | nil => intro ns h _; simp [intsOf] at h; subst h; rfl
  | cons x xs ih =>
    intro ns h hx
    simp only [List.map_cons] at h
    cases hv : ev x with
    | v u =>
      cases u with
      | int k' n =>
        rw [hv] at h
        simp only [intsOf] at h
        split at h
        · rename_i e; subst e
          simp only [Option.map_eq_some_iff] at h
          obtain ⟨ns', h1, rfl⟩ := h
          simp only [List.map_cons]
          rw [ih ns' h1 (fun y hy => hx y (by simp [hy])), hx x (by simp) (.int k' n) (by rw [hv]; rfl)]
        · cases h
      | _ => rw [hv] at h; cases h
    | _ => rw [hv] at h; cases h

theorem run_min_ints {w : World} {ts : Array TypeId} {t : TypeId} {k : IntKind} (m : Int) (ns : List Int) : (Builtin.min_ ts t ((Value.int k m) :: ns.map (Value.int k ·)).toArray).run P w = .ok (.int k (ns.foldl minI m)) w := by
  simp only [Builtin.min_]
  induction ns generalizing m with
  | nil => simp
  | cons n ns ih =>
    simp only [List.map_cons, List.foldlM_cons, List.foldl_cons, Sem.run_bind]
    have : (Builtin.min2 (.int k m) (.int k n)).run P w = .ok (.int k (minI m n)) w := rfl
    rw [this]
    exact ih (minI m n)

theorem run_max_ints {w : World} {ts : Array TypeId} {t : TypeId} {k : IntKind} (m : Int) (ns : List Int) : (Builtin.max_ ts t ((Value.int k m) :: ns.map (Value.int k ·)).toArray).run P w = .ok (.int k (ns.foldl maxI m)) w := by
  simp only [Builtin.max_]
  induction ns generalizing m with
  | nil => simp
  | cons n ns ih =>
    simp only [List.map_cons, List.foldlM_cons, List.foldl_cons, Sem.run_bind]
    have : (Builtin.max2 (.int k m) (.int k n)).run P w = .ok (.int k (maxI m n)) w := rfl
    rw [this]
    exact ih (maxI m n)

theorem natOf_bound {x : Option Operand} {d : Nat} {K : Nat → Prop} (h : natOf ev x d K) : ∃ n, BoundAs ev x n ∧ K (n.getD d) := by
  unfold natOf at h
  cases x with
  | none => exact ⟨none, trivial, h⟩
  | some y =>
    simp only at h
    split at h
    · rename_i k n hy
      exact ⟨some n.toNat, ⟨k, n, hy, h.1, rfl⟩, h.2⟩
    · exact h.elim

theorem aop_sound {m : List Bool} {K : Eff → Prop} (h : aop P m o.op ev H N K) : ∃ e, (m.all id = true → OpOk P o ev H N e) ∧ K e := by
  unfold aop at h
  split at h
  · rename_i x ho; exact ⟨_, fun _ => ok_move (Or.inl ho), h⟩
  · rename_i x ho; exact ⟨_, fun _ => ok_move (Or.inr ho), h⟩
  · rename_i t ho
    have hne : tdOf P t ≠ .bad := by intro hb; rw [hb] at h; exact h
    have : K ⟨.ptr N 0 0, [(N, some (.els (tdOf P t).size [(tdOf P t).zero.map .v]))], []⟩ := by
      unfold aAlloc at h; split at h
      · exact h.elim
      · exact h
    exact ⟨_, fun _ => ok_alloc ho hne, this⟩
  · rename_i t x ho
    unfold aBox at h
    split at h
    · rename_i cs hcs; exact ⟨_, fun _ => ok_box ho hcs, h⟩
    · exact h.elim
  · rename_i t ps ho
    unfold aBuild at h
    split at h
    · rename_i z fs ht
      split at h
      · rename_i res hres; exact ⟨_, fun _ => ok_build_struct ho ht hres, h⟩
      · exact h.elim
    · rename_i z n e ht
      obtain ⟨hne, h⟩ := h
      split at h
      · rename_i res hres; exact ⟨_, fun _ => ok_build_arr ho ht hne hres, h⟩
      · exact h.elim
    · exact h.elim
  · rename_i t n ps ho
    unfold aLit at h
    split at h
    · rename_i e ht
      obtain ⟨rfl, hsz, hsm, h⟩ := h
      split at h
      · rename_i els hels
        refine ⟨_, fun _ => ok_buildSlice ho ht rfl hsz hsm hels ?_, h.2⟩
        intro el hel c hc
        have := h.1
        simp only [List.all_eq_true] at this
        exact this el hel c hc
      · exact h.elim
    · exact h.elim
  · rename_i t x ho
    obtain ⟨hne, h⟩ := h
    split at h
    · rename_i r i off hx
      split at h
      · rename_i sz es hH
        split at h
        · rename_i e he; exact ⟨_, fun _ => ok_load_row ho hne hx hH he h.1, h.2⟩
        · exact ⟨_, (fun hm => by rw [h.1] at hm; cases hm), h.2⟩
      · exact h.elim
    · rename_i cs hx; exact ⟨_, fun _ => ok_load_iptr ho hne hx h.1, h.2⟩
    · exact h.elim
  · rename_i t p x ho
    obtain ⟨hne, h⟩ := h
    split at h
    · rename_i r i off hp
      split at h
      · rename_i sz es hH
        split at h
        · rename_i e he
          split at h
          · rename_i cs hcs; exact ⟨_, fun _ => ok_store ho hne hp hH he hcs h.1 h.2.1, h.2.2⟩
          · exact h.elim
        · exact h.elim
      · exact h.elim
    · exact h.elim
  · rename_i x ho
    unfold aNil at h
    split at h
    · rename_i r i off hx
      split at h
      · rename_i sz es hH; exact ⟨_, fun _ => ok_nilCheck_row (e := []) ho hx hH, h⟩
      · exact h.elim
    · rename_i cs hx; exact ⟨_, fun _ => ok_nilCheck_iptr ho hx, h⟩
    · exact h.elim
  · rename_i op t x y ty ho
    have gen : ∀ {p q z : Value}, exactOf (ev x) = some p → exactOf (ev y) = some q → (∀ w : World, (eqGuard op t x y p q).run P w = .ok () w) → (∀ w : World, (binOp op t p q).run P w = .ok z w) → OpOk P o ev H N ⟨.v z, [], []⟩ := by
      intro p q z hp hq hg hz
      refine ok_exact2 fun a ha w => ?_
      have h1 := ha x (by simp [ho, Op.operands]) _ hp
      have h2 := ha y (by simp [ho, Op.operands]) _ hq
      simp [execOp, ho, h1, h2, hg, hz]
    have ints : ∀ {k : IntKind} {m n : Int} {z : Value}, ev x = .v (.int k m) → ev y = .v (.int k n) → (∀ w : World, (binOp op t (.int k m) (.int k n)).run P w = .ok z w) → OpOk P o ev H N ⟨.v z, [], []⟩ :=
      fun hx hy hz => ok_binInt ho hx hy hz
    unfold aBin at h
    split at h
    · rename_i k m k' n hx hy; obtain ⟨rfl, h⟩ := h; exact ⟨_, fun _ => ints hx hy (fun w => by simp [binOp, Op.intArith]), h⟩
    · rename_i k m k' n hx hy; obtain ⟨rfl, h⟩ := h; exact ⟨_, fun _ => ints hx hy (fun w => by simp [binOp, Op.intArith]), h⟩
    · rename_i k m k' n hx hy; obtain ⟨rfl, h⟩ := h; exact ⟨_, fun _ => ints hx hy (fun w => by simp [binOp, Op.intArith]), h⟩
    · rename_i k m k' n hx hy; obtain ⟨rfl, h0, h⟩ := h; exact ⟨_, fun hm => ints hx hy (fun w => by simp [binOp, Op.intDiv, cnd_use h0 hm]), h⟩
    · rename_i k m k' n hx hy; obtain ⟨rfl, h0, h⟩ := h; exact ⟨_, fun hm => ints hx hy (fun w => by simp [binOp, Op.intDiv, cnd_use h0 hm]), h⟩
    · rename_i k m k' n hx hy; obtain ⟨rfl, h⟩ := h; exact ⟨_, fun _ => ints hx hy (fun w => by simp [binOp, Op.intCmp]), h⟩
    · rename_i k m k' n hx hy; obtain ⟨rfl, h⟩ := h; exact ⟨_, fun _ => ints hx hy (fun w => by simp [binOp, Op.intCmp]), h⟩
    · rename_i k m k' n hx hy; obtain ⟨rfl, h⟩ := h; exact ⟨_, fun _ => ints hx hy (fun w => by simp [binOp, Op.intCmp]), h⟩
    · rename_i k m k' n hx hy; obtain ⟨rfl, h⟩ := h; exact ⟨_, fun _ => ints hx hy (fun w => by simp [binOp, Op.intCmp]), h⟩
    · rename_i k m k' n hx hy; obtain ⟨rfl, h⟩ := h; exact ⟨_, fun _ => ints hx hy (fun w => by simp [binOp, Op.intCmp]), h⟩
    · rename_i k m k' n hx hy; obtain ⟨rfl, h⟩ := h; exact ⟨_, fun _ => ints hx hy (fun w => by simp [binOp, Op.intCmp]), h⟩
    · rename_i k m k' n hx hy
      obtain ⟨rfl, h⟩ := h
      exact ⟨_, fun _ => ints hx hy (fun w => by simp [binOp_and, intBits_and]), h⟩
    · rename_i k m k' n hx hy
      obtain ⟨h0, h⟩ := h
      refine ⟨_, fun hm => ok_exact2 fun a ha w => ?_, h⟩
      have h1 := ha x (by simp [ho, Op.operands]) (.int k m) (by rw [hx]; rfl)
      have h2 := ha y (by simp [ho, Op.operands]) (.int k' n) (by rw [hy]; rfl)
      obtain ⟨g1, g2⟩ := cnd_use h0 hm
      simp [execOp, ho, h1, h2, eqGuard_shr, binOp_shr, shift_shr k k' m n g1 g2]
    · rename_i xs ys hx hy
      split at h
      · rename_i ts ks ls ht hk hl
        exact ⟨_, fun _ => ok_eq_struct ho (Or.inl rfl) hx hy ht hk hl h.1 h.2.1, h.2.2⟩
      · exact h.elim
    · rename_i xs ys hx hy
      split at h
      · rename_i ts ks ls ht hk hl
        exact ⟨_, fun _ => ok_eq_struct ho (Or.inr rfl) hx hy ht hk hl h.1 h.2.1, h.2.2⟩
      · exact h.elim
    · split at h
      · rename_i p q hp hq
        obtain ⟨z, hg, hz, h⟩ := h
        exact ⟨_, fun _ => gen hp hq hg hz, h⟩
      · exact h.elim
  · rename_i op t x ho
    unfold aUn at h
    split at h
    · rename_i b hx; exact ⟨_, fun _ => ok_notBool ho hx, h⟩
    · rename_i k n hx; exact ⟨_, fun _ => ok_negInt ho hx, h⟩
    · exact h.elim
  · rename_i s d x ho
    unfold aConv at h
    split at h
    · rename_i u hx
      obtain ⟨z, hz, h⟩ := h
      exact ⟨_, fun _ => ok_convert ho hx hz, h⟩
    · exact h.elim
  · rename_i f first caps ho
    obtain ⟨rfl, h⟩ := h
    exact ⟨_, fun _ => ok_makeFunc ho, h⟩
  · rename_i t x lo hi ho
    unfold aSlice at h
    split at h
    · rename_i e ht
      obtain ⟨hsz, h⟩ := h
      split at h
      · rename_i sz els hx
        obtain ⟨rfl, h⟩ := h
        obtain ⟨l, bl, h⟩ := natOf_bound h
        obtain ⟨u, bu, h1, h2, h⟩ := natOf_bound h
        exact ⟨_, fun _ => ok_slice_lst ho ht rfl hsz (Or.inl hx) bl bu h1 h2, h⟩
      · rename_i sz els hx
        obtain ⟨rfl, h⟩ := h
        obtain ⟨l, bl, h⟩ := natOf_bound h
        obtain ⟨u, bu, h1, h2, h⟩ := natOf_bound h
        exact ⟨_, fun _ => ok_slice_lst ho ht rfl hsz (Or.inr hx) bl bu h1 h2, h⟩
      · rename_i r i n hx
        split at h
        · rename_i sz es hH
          obtain ⟨rfl, hin, h⟩ := h
          obtain ⟨l, bl, h⟩ := natOf_bound h
          obtain ⟨u, bu, h1, h2, h⟩ := natOf_bound h
          exact ⟨_, fun _ => ok_slice_row ho ht rfl hsz hx hH bl bu h1 h2 (Or.inr hin), h⟩
        · exact h.elim
      · rename_i hx
        obtain ⟨l, bl, h⟩ := natOf_bound h
        obtain ⟨u, bu, h1, h2, h⟩ := natOf_bound h
        exact ⟨_, fun _ => ok_slice_nil ho ht hsz hx bl bu h1 h2, h⟩
      · exact h.elim
    · exact h.elim
  · rename_i s x f ho
    unfold aFieldAddr at h
    split at h
    · rename_i z fs ht
      split at h
      · rename_i off sz t hf
        obtain ⟨hsz, h⟩ := h
        split at h
        · rename_i r i o' hx
          split at h
          · rename_i hH; exact ⟨_, fun _ => ok_fieldAddr_row ho ht hf hsz hx hH, h⟩
          · exact h.elim
        · rename_i cs hx; exact ⟨_, fun _ => ok_fieldAddr_iptr ho ht hf hsz hx h.1, h.2⟩
        · exact h.elim
      · exact h.elim
    · exact h.elim
  · rename_i s x f ho
    unfold aField at h
    split at h
    · rename_i z fs ht
      split at h
      · rename_i off sz t hf
        obtain ⟨hne, h⟩ := h
        split at h
        · rename_i cs hx; exact ⟨_, fun _ => ok_field ho ht hf hne hx h.1, h.2⟩
        · exact h.elim
      · exact h.elim
    · exact h.elim
  · rename_i t x i ho
    unfold aIndex at h
    split at h
    · rename_i e ht
      obtain ⟨hsz, h⟩ := h
      split at h
      · rename_i k n hi
        obtain ⟨hn, h⟩ := h
        split at h
        · rename_i sz els hx
          obtain ⟨rfl, h⟩ := h
          obtain ⟨el, hel, h⟩ := aElem_use h
          exact ⟨_, fun hm => ok_index_lst ho ht rfl hsz (Or.inl hx) hi (cnd_use hn hm) (hel hm), h⟩
        · rename_i sz els hx
          obtain ⟨rfl, h⟩ := h
          obtain ⟨el, hel, h⟩ := aElem_use h
          exact ⟨_, fun hm => ok_index_lst ho ht rfl hsz (Or.inr hx) hi (cnd_use hn hm) (hel hm), h⟩
        · rename_i r i0 len hx
          split at h
          · rename_i sz es hH
            obtain ⟨rfl, hlt, h⟩ := h
            exact ⟨_, fun hm => ok_index_row ho ht rfl hsz hx hH hi (cnd_use hn hm) (cnd_use hlt hm), h⟩
          · exact h.elim
        · exact h.elim
      · exact h.elim
    · rename_i z len e ht
      obtain ⟨hsz, h⟩ := h
      split at h
      · rename_i k n hi
        obtain ⟨hn, h⟩ := h
        split at h
        · rename_i r i0 off hx
          split at h
          · rename_i hH; exact ⟨_, fun hm => ok_indexArr_row ho ht hsz hx hH hi (cnd_use hn hm).1 (cnd_use hn hm).2, h⟩
          · exact h.elim
        · rename_i cs hx; exact ⟨_, fun hm => ok_indexArr_iptr ho ht hsz hx hi (cnd_use hn hm).1 (cnd_use hn hm).2, h⟩
        · exact h.elim
      · exact h.elim
    · exact h.elim
  · rename_i x i ho
    split at h
    · rename_i cs hx
      split at h
      · rename_i c hc; exact ⟨_, fun _ => ok_extract ho hx hc, h⟩
      · exact h.elim
    · exact h.elim
  · rename_i t x i ho
    unfold aIdx at h
    split at h
    · rename_i z n e ht
      obtain ⟨hne, h⟩ := h
      split at h
      · rename_i cs k j hx hi
        obtain ⟨h0, h⟩ := h
        obtain ⟨av, hav, h⟩ := valM_use h
        refine ⟨_, fun hm => ?_, h⟩
        obtain ⟨g1, g2, g3⟩ := cnd_use h0 hm
        have := ok_index (N := N) (H := H) ho ht hne hx hi g1 g2 g3
        rw [hav hm] at this
        exact this
      · exact h.elim
    · exact h.elim
  · rename_i t ho
    unfold aMake at h
    split at h
    · rename_i ag kts z hmk; exact ⟨_, fun _ => ok_makeMap ho hmk, h⟩
    · exact h.elim
  · rename_i t x q ok ho
    unfold aLookup at h
    split at h
    · rename_i ag kts z ag' kts' kvs rd ag'' ks hmk hx hq
      obtain ⟨rfl, rfl, rfl, hf, av, hav, h⟩ := h
      refine ⟨_, fun hm => ?_, h⟩
      have := ok_lookup (N := N) ho hmk hx hq hf
      rw [hav hm] at this
      exact this
    · exact h.elim
  · rename_i t x q v ho
    unfold aMapSet at h
    split at h
    · rename_i ag kts z r ag' ks u hmk hx hq hv
      split at h
      · rename_i ag'' kts' kvs hH
        obtain ⟨rfl, rfl, rfl, hf, h⟩ := h
        exact ⟨_, fun _ => ok_mapUpdate ho hmk hx hH hq hf hv, h⟩
      · exact h.elim
    · exact h.elim
  · rename_i c ho
    obtain ⟨callee, args, ts⟩ := c
    simp only at h
    split at h
    · rename_i b
      unfold aBuiltin at h
      split at h
      · rename_i r t ha hts
        obtain ⟨xo, rfl⟩ : ∃ xo, args = #[xo] := by
          have : args.toList.length = 1 := by have := congrArg List.length ha; simpa using this
          match hargs : args.toList, this with
          | [xo], _ => exact ⟨xo, by apply Array.ext'; simpa using hargs⟩
        obtain rfl : ts = #[t] := by apply Array.ext'; simpa using hts
        simp only [List.map_cons, List.map_nil, List.cons.injEq, and_true] at ha
        unfold aLenM at h
        split at h
        · rename_i q ag kts kvs rd hmk hin
          exact ⟨_, fun _ => ok_len_map ho (by rw [hmk]; rfl) (by rw [ha]; exact hin), h⟩
        · exact h.elim
      · rename_i a1 b1 c1 t ha hts
        obtain ⟨xo, rfl⟩ : ∃ xo, args = #[xo] := by
          have : args.toList.length = 1 := by have := congrArg List.length ha; simpa using this
          match hargs : args.toList, this with
          | [xo], _ => exact ⟨xo, by apply Array.ext'; simpa using hargs⟩
        obtain rfl : ts = #[t] := by apply Array.ext'; simpa using hts
        simp only [List.map_cons, List.map_nil, List.cons.injEq, and_true] at ha
        unfold aLenM at h
        split at h
        · rename_i q ag kts kvs rd hmk hin
          exact ⟨_, fun _ => ok_len_map ho (by rw [hmk]; rfl) (by rw [ha]; exact hin), h⟩
        · exact h.elim
      · rename_i x t _ _ ha hts
        obtain ⟨xo, rfl⟩ : ∃ xo, args = #[xo] := by
          have : args.toList.length = 1 := by have := congrArg List.length ha; simpa using this
          match hargs : args.toList, this with
          | [xo], _ => exact ⟨xo, by apply Array.ext'; simpa using hargs⟩
        obtain rfl : ts = #[t] := by apply Array.ext'; simpa using hts
        simp only [List.map_cons, List.map_nil, List.cons.injEq, and_true] at ha
        subst ha
        unfold aLen at h
        split at h
        · rename_i e ht
          split at h
          · rename_i sz els hx; exact ⟨_, fun _ => ok_len_lst (ty := 0) ho ht (Or.inl hx), h⟩
          · rename_i sz els hx; exact ⟨_, fun _ => ok_len_lst (ty := 0) ho ht (Or.inr hx), h⟩
          · rename_i r i n hx
            split at h
            · rename_i hH; exact ⟨_, fun _ => ok_len_row ho ht hx hH, h⟩
            · exact h.elim
          · rename_i hx; exact ⟨_, fun _ => ok_len_nil ho ht hx, h⟩
          · exact h.elim
        · exact h.elim
      · rename_i kk n t t' ha hts
        obtain ⟨xo, yo, rfl⟩ : ∃ xo yo, args = #[xo, yo] := by
          have : args.toList.length = 2 := by have := congrArg List.length ha; simpa using this
          match hargs : args.toList, this with
          | [xo, yo], _ => exact ⟨xo, yo, by apply Array.ext'; simpa using hargs⟩
        obtain rfl : ts = #[t, t'] := by apply Array.ext'; simpa using hts
        simp only [List.map_cons, List.map_nil, List.cons.injEq, and_true] at ha
        unfold aAppZ at h
        split at h
        · rename_i e kn ht hkt
          obtain ⟨hsz, hn, hf, h⟩ := h
          exact ⟨_, fun _ => ok_append_zeros ho ht hkt rfl hsz ha.1 ha.2 hn hf, h⟩
        · exact h.elim
      · rename_i t ha hts
        obtain ⟨xo, rfl⟩ : ∃ xo, args = #[xo] := by
          have : args.toList.length = 1 := by have := congrArg List.length ha; simpa using this
          match hargs : args.toList, this with
          | [xo], _ => exact ⟨xo, by apply Array.ext'; simpa using hargs⟩
        obtain rfl : ts = #[t] := by apply Array.ext'; simpa using hts
        simp only [List.map_cons, List.map_nil, List.cons.injEq, and_true] at ha
        unfold aCapN at h
        split at h
        · rename_i e ht
          exact ⟨_, fun _ => ok_cap_nil ho ht ha, h⟩
        · exact h.elim
      · rename_i x y t t' _ ha hts
        obtain ⟨xo, yo, rfl⟩ : ∃ xo yo, args = #[xo, yo] := by
          have : args.toList.length = 2 := by have := congrArg List.length ha; simpa using this
          match hargs : args.toList, this with
          | [xo, yo], _ => exact ⟨xo, yo, by apply Array.ext'; simpa using hargs⟩
        obtain rfl : ts = #[t, t'] := by apply Array.ext'; simpa using hts
        simp only [List.map_cons, List.map_nil, List.cons.injEq, and_true] at ha
        obtain ⟨rfl, rfl⟩ := ha
        unfold aAppend at h
        obtain ⟨rfl, h⟩ := h
        split at h
        · rename_i e ht
          obtain ⟨hsz, h⟩ := h
          split at h
          · rename_i s rd hs
            split at h
            · rename_i hc
              obtain ⟨hc1, hc2⟩ := hc
              rw [List.isEmpty_iff] at hc1
              subst hc1
              unfold AV.isFull at hc2
              split at hc2
              · rename_i sz' els hx
                simp only [decide_eq_true_eq] at hc2
                refine ⟨_, fun _ => ?_, h⟩
                rw [hc2] at hx
                rw [hx]
                exact ok_append_same (ty := 0) ho ht rfl hsz hs hx
              · cases hc2
            split at h
            · rename_i b kill hb; exact ⟨_, fun _ => ok_append (ty := 0) ho ht rfl hsz hs hb h.1, h.2⟩
            · exact h.elim
          · exact h.elim
        · exact h.elim
      · rename_i k m rest ha
        split at h
        · rename_i ns hns
          refine ⟨_, fun _ => ok_exact2 fun a hx w => ?_, h⟩
          have hall := intsOf_eval (ev := ev) (a := a) (k := k) args.toList (m :: ns) (by rw [ha]; simp [intsOf, hns]) (fun x hxm => hx x (by rw [ho]; simp only [Op.operands, Call.operands, Array.mem_append]; exact Or.inr (Array.mem_toList_iff.1 hxm)))
          have harr : args.map a.eval = ((Value.int k m) :: ns.map (Value.int k ·)).toArray := by apply Array.ext'; rw [Array.toList_map, hall]; rfl
          simp only [execOp, ho, resolve, invoke, builtin, harr]
          simp [invoke, builtin, run_min_ints]
        · exact h.elim
      · rename_i k m rest ha
        split at h
        · rename_i ns hns
          refine ⟨_, fun _ => ok_exact2 fun a hx w => ?_, h⟩
          have hall := intsOf_eval (ev := ev) (a := a) (k := k) args.toList (m :: ns) (by rw [ha]; simp [intsOf, hns]) (fun x hxm => hx x (by rw [ho]; simp only [Op.operands, Call.operands, Array.mem_append]; exact Or.inr (Array.mem_toList_iff.1 hxm)))
          have harr : args.map a.eval = ((Value.int k m) :: ns.map (Value.int k ·)).toArray := by apply Array.ext'; rw [Array.toList_map, hall]; rfl
          simp only [execOp, ho, resolve, invoke, builtin, harr]
          simp [invoke, builtin, run_max_ints]
        · exact h.elim
      · exact h.elim
    · rename_i x
      unfold aCall at h
      split at h
      · rename_i f caps hx
        rcases h with ⟨res, hp, hn, h⟩ | ⟨hm, hn, i, k, sz, es, hp, h⟩
        · exact ⟨_, fun hm => ok_call2 ho hx (cnd_use hp hm) hn, h⟩
        · exact ⟨_, fun _ => ok_own ho hx hp hn, h⟩
      · exact h.elim
    · exact h.elim
  · exact h.elim
end
end Go.AM
