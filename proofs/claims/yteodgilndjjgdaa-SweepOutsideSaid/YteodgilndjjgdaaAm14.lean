/- The abstract machine, part 14: a region that draws its order: the order of the text stands for all, where what touches one place is ordered. No condition. -/
import Derived.Test.YteodgilndjjgdaaAm13
namespace Go.AM
set_option linter.unusedVariables false
set_option linter.unusedSimpArgs false

/-- What an operation touches and writes: slot t is '2t', row r '2r+1'. -/
def tmpsOf : List Operand → List Nat
  | [] => []
  | .tmp t :: xs => 2 * t :: tmpsOf xs
  | _ :: xs => tmpsOf xs

def guardOf (dsts : List (Option Tmp)) (g : Option (Nat × Bool)) : List Nat :=
  match g with
  | none => []
  | some (j, _) => match dsts[j]? with
    | some (some d) => [2 * d]
    | _ => []

def dstOf : Option Tmp → List Nat
  | none => []
  | some d => [2 * d]

def upsOf : List (Nat × Option ARow) → List Nat
  | [] => []
  | (r, _) :: u => (2 * r + 1) :: upsOf u

def readsOf : List Nat → List Nat
  | [] => []
  | r :: u => (2 * r + 1) :: readsOf u

abbrev Tr := List Nat × List Nat

def trOf (dsts : List (Option Tmp)) (o : Oper) (e : Eff) : Tr :=
  (tmpsOf o.op.operands.toList ++ (guardOf dsts o.guard ++ (dstOf o.dst ++ (readsOf e.reads ++ upsOf e.ups))), dstOf o.dst ++ upsOf e.ups)

def vcOpsD (P : Program) (nt : Nat) (dsts : List (Option Tmp)) : List Oper → Tm → Hp → List Tr → (Tm → Hp → List Tr → Prop) → Prop
  | [], T, H, tr, K => K T H tr
  | o :: rest, T, H, tr, K => vcGuard P dsts o (look T) (hget H) H.length (ct (fun e =>
      dstOk nt o.dst ∧ upsIn H e.ups ∧ upsOnce e.ups = true ∧ vcOpsD P nt dsts rest (putT T o.dst e.av) (happ H e.ups) (tr ++ [trOf dsts o e]) K) ⟨⟩)

/-- Who must come before: a bit each. -/
def maskOf (acc : List Nat) (o : Oper) : Nat := o.after.toList.foldl (fun s e => if Region.binds .any e then s ||| 2 ^ e.on ||| acc.getD e.on 0 else s) 0
def closL : List Oper → List Nat → List Nat
  | [], acc => acc
  | o :: r, acc => closL r (acc ++ [maskOf acc o])

def backB : List Oper → Nat → Bool
  | [], _ => true
  | o :: r, k => (o.after.toList.all fun e => !Region.binds .any e || decide (e.on < k)) && backB r (k + 1)

def confl (a b : Tr) : Bool := (a.2.any fun x => b.1.contains x) || b.2.any fun x => a.1.contains x

def drawB (l : List Oper) (tr : List Tr) : Bool :=
  backB l 0 && (List.range l.length).all fun k => (List.range k).all fun j =>
    !confl (tr.getD j ([], [])) (tr.getD k ([], [])) || ((closL l []).getD k 0).testBit j

/-- The value at the last writing that has been. -/
def lastv {α : Type} (D wr : Nat → Bool) (f : Nat → α) : Nat → α
  | 0 => f 0
  | k + 1 => if D k && wr k then f (k + 1) else lastv D wr f k

theorem lastv_eq {α : Type} {D wr : Nat → Bool} {f : Nat → α} : ∀ (n i : Nat), i ≤ n → (∀ k, k < n → wr k = false → f (k + 1) = f k) → (∀ k, k < n → wr k = true → (D k = true ↔ k < i)) → lastv D wr f n = f i
  | 0, i, hi, _, _ => by have : i = 0 := by omega
                         subst this; rfl
  | n + 1, i, hi, h1, h2 => by
    have ih := fun i hi h => lastv_eq (D := D) (wr := wr) (f := f) n i hi (fun k hk => h1 k (by omega)) h
    simp only [lastv]
    cases hw : wr n with
    | true =>
      have hD := h2 n (by omega) hw
      by_cases e : i = n + 1
      · subst e
        rw [hD.2 (by omega)]; rfl
      · have : D n = false := by cases hd : D n with
          | false => rfl
          | true => have := hD.1 hd; omega
        rw [this]
        simp only [Bool.false_and, Bool.false_eq_true, if_false]
        exact ih i (by omega) (fun k hk => h2 k (by omega))
    | false =>
      simp only [Bool.and_false, Bool.false_eq_true, if_false]
      by_cases e : i = n + 1
      · subst e
        rw [h1 n (by omega) hw]
        exact ih n (Nat.le_refl _) (fun k hk hw => ⟨fun _ => hk, fun _ => (h2 k (by omega) hw).2 (by omega)⟩)
      · exact ih i (by omega) (fun k hk => h2 k (by omega))

theorem lastv_congr {α : Type} {D D' wr : Nat → Bool} {f : Nat → α} : ∀ (n : Nat), (∀ k, k < n → wr k = true → D k = D' k) → lastv D wr f n = lastv D' wr f n
  | 0, _ => rfl
  | n + 1, h => by
    simp only [lastv]
    rw [lastv_congr n (fun k hk => h k (by omega))]
    cases hw : wr n with
    | true => rw [h n (by omega) hw]
    | false => simp

/-- Closed under what must come before. -/
def Down (ops : Array Oper) (D : Nat → Bool) : Prop := ∀ (k : Nat) o, ops[k]? = some o → D k = true → ∀ e ∈ o.after, Region.binds .any e = true → D e.on = true

theorem mask_spec {acc : List Nat} {D : Nat → Bool} {j : Nat} (hacc : ∀ k, D k = true → (acc.getD k 0).testBit j = true → D j = true) : ∀ (es : List Edge) (s : Nat), (∀ e ∈ es, Region.binds .any e = true → D e.on = true) →
    (s.testBit j = true → D j = true) → ((es.foldl (fun s e => if Region.binds .any e then s ||| 2 ^ e.on ||| acc.getD e.on 0 else s) s).testBit j = true → D j = true)
  | [], s, _, hs => hs
  | e :: es, s, h, hs => by
    simp only [List.foldl_cons]
    refine mask_spec hacc es _ (fun e' he' => h e' (by simp [he'])) ?_
    split
    · rename_i hb
      have hon := h e (by simp) hb
      rw [Nat.testBit_or, Nat.testBit_or, Nat.testBit_two_pow]
      intro ht
      simp only [Bool.or_eq_true, decide_eq_true_eq] at ht
      rcases ht with (ht | ht) | ht
      · exact hs ht
      · subst ht; exact hon
      · exact hacc _ hon ht
    · exact hs

theorem clos_spec {ops : Array Oper} {D : Nat → Bool} (hD : Down ops D) : ∀ (l : List Oper) (acc : List Nat), (∀ j : Nat, l[j]? = ops[acc.length + j]?) →
    (∀ k j, D k = true → (acc.getD k 0).testBit j = true → D j = true) → ∀ k j, D k = true → ((closL l acc).getD k 0).testBit j = true → D j = true
  | [], acc, _, h => h
  | o :: r, acc, hl, h => by
    simp only [closL]
    refine clos_spec hD r _ (fun j => ?_) ?_
    · have := hl (j + 1)
      simp only [List.getElem?_cons_succ] at this
      rw [this]; simp; congr 1; omega
    · intro k j hk ht
      by_cases hlt : k < acc.length
      · rw [List.getD_eq_getElem?_getD, List.getElem?_append_left hlt, ← List.getD_eq_getElem?_getD] at ht
        exact h k j hk ht
      · by_cases he : k = acc.length
        · subst he
          rw [List.getD_eq_getElem?_getD, List.getElem?_append_right (Nat.le_refl _)] at ht
          simp only [Nat.sub_self, List.getElem?_cons_zero, Option.getD_some] at ht
          have h0 := hl 0
          simp only [List.getElem?_cons_zero, Nat.add_zero] at h0
          exact mask_spec (fun k hk => h k j hk) o.after.toList 0 (fun e he => hD acc.length o h0.symm hk e (by simpa using he)) (by simp) ht
        · rw [List.getD_eq_getElem?_getD, List.getElem?_eq_none (by simp; omega)] at ht
          simp at ht

theorem back_spec : ∀ (l : List Oper) (k : Nat), backB l k = true → ∀ (j : Nat) o, l[j]? = some o → ∀ e ∈ o.after, Region.binds .any e = true → e.on < k + j
  | [], k, _, j, o, h => by simp at h
  | o :: r, k, hb, j, o', h => by
    simp only [backB, Bool.and_eq_true, List.all_eq_true] at hb
    cases j with
    | zero =>
      simp only [List.getElem?_cons_zero, Option.some.injEq] at h
      subst h
      intro e he hbd
      have := hb.1 e (by simpa using he)
      simp only [hbd, Bool.not_true, Bool.false_or, decide_eq_true_eq] at this
      omega
    | succ j =>
      simp only [List.getElem?_cons_succ] at h
      intro e he hbd
      have := back_spec r (k + 1) hb.2 j o' h e he hbd
      omega

/-- A run in the order of the text, taken apart. -/
structure Lex (P : Program) (nt : Nat) (ops : Array Oper) (dsts : List (Option Tmp)) (l : List Oper) (Ts : Nat → Tm) (Hs : Nat → Hp) (es : Nat → Eff) : Prop where
  ok : ∀ (k : Nat) o, l[k]? = some o → StepOk P ops o (look (Ts k)) (hget (Hs k)) (Hs k).length (es k) ∧ dstOk nt o.dst ∧ upsIn (Hs k) (es k).ups ∧ upsOnce (es k).ups = true ∧
    Ts (k + 1) = putT (Ts k) o.dst (es k).av ∧ Hs (k + 1) = happ (Hs k) (es k).ups

theorem lex_of {P : Program} {nt : Nat} {ops : Array Oper} {dsts : List (Option Tmp)} (hd : ∀ j : Nat, dsts[j]? = (ops[j]?).map (·.dst)) {K : Tm → Hp → List Tr → Prop} : ∀ (l : List Oper) (T : Tm) (H : Hp) (tr : List Tr), vcOpsD P nt dsts l T H tr K →
    ∃ Ts Hs es, Ts 0 = T ∧ Hs 0 = H ∧ Lex P nt ops dsts l Ts Hs es ∧ K (Ts l.length) (Hs l.length) (tr ++ (l.zipIdx.map fun (p : Oper × Nat) => trOf dsts p.1 (es p.2)))
  | [], T, H, tr, h => ⟨fun _ => T, fun _ => H, fun _ => ⟨.any, [], []⟩, rfl, rfl, ⟨fun k o h => by simp at h⟩, by simpa [vcOpsD] using h⟩
  | o :: r, T, H, tr, h => by
    obtain ⟨e, hst, h1, h2, h3, h4⟩ := vcGuard_sound hd h (fun _ => trivial)
    obtain ⟨Ts, Hs, es, t0, hh0, hlex, hk⟩ := lex_of hd r _ _ _ h4
    refine ⟨fun k => match k with | 0 => T | k + 1 => Ts k, fun k => match k with | 0 => H | k + 1 => Hs k, fun k => match k with | 0 => e | k + 1 => es k, rfl, rfl, ⟨fun k o' hk => ?_⟩, ?_⟩
    · cases k with
      | zero =>
        simp only [List.getElem?_cons_zero, Option.some.injEq] at hk
        subst hk
        exact ⟨hst, h1, h2, h3, t0, hh0⟩
      | succ k => exact hlex.ok k o' hk
    · simp only [List.length_cons, List.zipIdx_cons, List.map_cons]
      rw [List.append_assoc] at hk
      have : (r.zipIdx (0 + 1)).map (fun (p : Oper × Nat) => trOf dsts p.1 ((fun k => match k with | 0 => e | k + 1 => es k : Nat → Eff) p.2)) = r.zipIdx.map fun (p : Oper × Nat) => trOf dsts p.1 (es p.2) := by
        rw [List.zipIdx_succ, List.map_map]
        apply List.map_congr_left
        intro p _
        rfl
      rw [this]
      exact hk

theorem tmps_mem {t : Nat} : ∀ {l : List Operand}, .tmp t ∈ l → 2 * t ∈ tmpsOf l
  | x :: l, h => by
    rcases List.mem_cons.1 h with h | h
    · subst h; simp [tmpsOf]
    · have ih := tmps_mem h
      cases x <;> simp [tmpsOf, ih]

theorem ups_mem {r : Nat} {o : Option ARow} : ∀ {l : List (Nat × Option ARow)}, (r, o) ∈ l → 2 * r + 1 ∈ upsOf l
  | (q, _) :: l, h => by
    rcases List.mem_cons.1 h with h | h
    · simp only [Prod.mk.injEq] at h; obtain ⟨rfl, _⟩ := h; simp [upsOf]
    · simp [upsOf, ups_mem h]

theorem reads_mem {r : Nat} : ∀ {l : List Nat}, r ∈ l → 2 * r + 1 ∈ readsOf l
  | q :: l, h => by
    rcases List.mem_cons.1 h with h | h
    · subst h; simp [readsOf]
    · simp [readsOf, reads_mem h]

section
variable {P : Program} {nt : Nat} {l : List Oper} {dsts : List (Option Tmp)} {Ts : Nat → Tm} {Hs : Nat → Hp} {es : Nat → Eff}

def wS (l : List Oper) (t k : Nat) : Bool := match l[k]? with | some o => o.dst == some t | none => false
def wR (es : Nat → Eff) (r k : Nat) : Bool := (es k).ups.any fun q => q.1 == r

theorem wS_iff {t k : Nat} {o : Oper} (h : l[k]? = some o) : wS l t k = true ↔ o.dst = some t := by simp [wS, h]
theorem wR_iff {r k : Nat} : wR es r k = true ↔ ∃ o, (r, o) ∈ (es k).ups := by
  simp only [wR, List.any_eq_true, beq_iff_eq]
  constructor
  · rintro ⟨⟨q, o⟩, h1, h2⟩; simp only at h2; subst h2; exact ⟨o, h1⟩
  · rintro ⟨o, h⟩; exact ⟨(r, o), h, rfl⟩

/-- AN ORDER THAT IS DRAWN comes to what the order of the text comes to. -/
theorem draw_sound {w0 : World} {B S0 : Nat → Prop} (hlex : Lex P nt l.toArray dsts l Ts Hs es) (hdst : l.map (·.dst) = dsts)
    (hB : drawB l (l.zipIdx.map fun (p : Oper × Nat) => trOf dsts p.1 (es p.2)) = true) {Q : Exit → Act → World → Prop}
    (hQ : ∀ a w, St w0 B S0 nt (Ts l.length) (Hs l.length) a w → Q .normal a w) {a : Act} {w : World} (hs : St w0 B S0 nt (Ts 0) (Hs 0) a w) :
    wpAny P .any l.toArray Q l.toArray.size (Array.replicate l.toArray.size false) a w := by
  obtain ⟨hback, hconf⟩ := Bool.and_eq_true_iff.1 hB
  simp only [List.all_eq_true, List.mem_range] at hconf
  have htr : ∀ (k : Nat) o, l[k]? = some o → ((l.zipIdx.map fun (p : Oper × Nat) => trOf dsts p.1 (es p.2)).getD k ([], [])) = trOf dsts o (es k) := by
    intro k o hk
    rw [List.getD_eq_getElem?_getD, List.getElem?_map, List.getElem?_zipIdx, hk]
    simp
  -- who touches what another one writes is ordered
  have hord : ∀ (j k : Nat) oj ok, j < k → l[j]? = some oj → l[k]? = some ok → (∃ x, (x ∈ (trOf dsts oj (es j)).2 ∧ x ∈ (trOf dsts ok (es k)).1) ∨ (x ∈ (trOf dsts ok (es k)).2 ∧ x ∈ (trOf dsts oj (es j)).1)) →
      ∀ D, Down l.toArray D → D k = true → D j = true := by
    intro j k oj ok hjk hj hk hx D hD hDk
    have hkl : k < l.length := (List.getElem?_eq_some_iff.1 hk).1
    have h1 := hconf k hkl j hjk
    rw [htr j oj hj, htr k ok hk] at h1
    have hc : confl (trOf dsts oj (es j)) (trOf dsts ok (es k)) = true := by
      simp only [confl, Bool.or_eq_true, List.any_eq_true, List.contains_iff_mem]
      obtain ⟨x, hx | hx⟩ := hx
      · exact Or.inl ⟨x, hx.1, hx.2⟩
      · exact Or.inr ⟨x, hx.1, hx.2⟩
    rw [hc] at h1
    simp only [Bool.not_true, Bool.false_or] at h1
    exact clos_spec hD l [] (by simp) (by simp) k j hDk h1
  have hlen : ∀ i j, i ≤ j → j ≤ l.length → (Hs i).length ≤ (Hs j).length := by
    intro i j hij
    induction j with
    | zero => intro _; have : i = 0 := by omega
              subst this; exact Nat.le_refl _
    | succ j ih =>
      intro hj
      by_cases e : i = j + 1
      · subst e; exact Nat.le_refl _
      · have hjl : j < l.length := by omega
        obtain ⟨_, _, hin, _, _, hh⟩ := hlex.ok j _ (List.getElem?_eq_getElem hjl)
        rw [hh]
        exact Nat.le_trans (ih (by omega) (by omega)) (length_happ _ _ hin).1
  have hupl : ∀ k r o, k < l.length → (r, o) ∈ (es k).ups → r < (Hs (k + 1)).length := by
    intro k r o hk hm
    obtain ⟨_, _, hin, _, _, hh⟩ := hlex.ok k _ (List.getElem?_eq_getElem hk)
    rw [hh]
    exact (length_happ _ _ hin).2 r o hm
  let vS : (Nat → Bool) → Nat → AV := fun D t => lastv D (wS l t) (fun k => look (Ts k) t) l.length
  let vR : (Nat → Bool) → Nat → Option ARow := fun D r => lastv D (wR es r) (fun k => hget (Hs k) r) l.length
  have keepS : ∀ t k, k < l.length → wS l t k = false → look (Ts (k + 1)) t = look (Ts k) t := by
    intro t k hk hw
    have ho := List.getElem?_eq_getElem hk
    obtain ⟨_, _, _, _, ht, _⟩ := hlex.ok k _ ho
    rw [ht, look_putT, if_neg]
    intro e
    rw [(wS_iff ho).2 e] at hw
    cases hw
  have keepR : ∀ r k, k < l.length → wR es r k = false → hget (Hs (k + 1)) r = hget (Hs k) r := by
    intro r k hk hw
    obtain ⟨_, _, hin, hon, _, hh⟩ := hlex.ok k _ (List.getElem?_eq_getElem hk)
    rw [hh]
    refine (hget_happ _ _ hin hon r).2 (fun o hm => ?_)
    rw [wR_iff.2 ⟨o, hm⟩] at hw
    cases hw
  -- what holds when 'D' has been done
  let Inv : (Nat → Bool) → Act → World → Prop := fun D a w => (∃ ρ L, Core B S0 nt w ρ L (vS D) (vR D) a ∧ ∀ r, L r → r < (Hs 0).length ∨ ∃ k, k < l.length ∧ D k = true ∧ wR es r k = true) ∧ Ext B w0 w
  have step : ∀ (D : Nat → Bool) (i : Nat) (o : Oper) (a : Act) (w : World) (K : Act → World → Prop), Down l.toArray D → Down l.toArray (fun k => D k || k == i) → l[i]? = some o → D i = false → Inv D a w →
      (∀ a' w', Inv (fun k => D k || k == i) a' w' → K a' w') → if Region.wanted o (yielded l.toArray a.tmps) then o.wp P a w K Q else K (a.put o.dst undef) w := by
    intro D i o a w K hD hD' ho hDi hinv hK
    obtain ⟨⟨ρ, L, hc, hL⟩, hext⟩ := hinv
    have hil : i < l.length := (List.getElem?_eq_some_iff.1 ho).1
    obtain ⟨hst, hdk, hin, hon, hts, hhs⟩ := hlex.ok i o ho
    -- of a place that 'i' touches: the others that write it are ordered
    have ordS : ∀ t, 2 * t ∈ (trOf dsts o (es i)).1 → ∀ k, k < l.length → wS l t k = true → (D k = true ↔ k < i) := by
      intro t ht k hk hw
      have hok := List.getElem?_eq_getElem hk
      have hwd := (wS_iff hok).1 hw
      have hmem : 2 * t ∈ (trOf dsts l[k] (es k)).2 := by simp [trOf, hwd, dstOf]
      rcases Nat.lt_trichotomy k i with h | h | h
      · have := hord k i _ o h hok ho ⟨2 * t, Or.inl ⟨hmem, ht⟩⟩ _ hD' (by simp)
        simp only [Bool.or_eq_true, beq_iff_eq] at this
        exact ⟨fun _ => h, fun _ => this.resolve_right (by omega)⟩
      · subst h; simp [hDi]
      · refine ⟨fun hDk => ?_, fun hlt => by omega⟩
        have := hord i k o _ h ho hok ⟨2 * t, Or.inr ⟨hmem, ht⟩⟩ _ hD hDk
        rw [hDi] at this; cases this
    have ordR : ∀ r, 2 * r + 1 ∈ (trOf dsts o (es i)).1 → ∀ k, k < l.length → wR es r k = true → (D k = true ↔ k < i) := by
      intro r hr k hk hw
      have hok := List.getElem?_eq_getElem hk
      obtain ⟨q, hm⟩ := wR_iff.1 hw
      have hmem : 2 * r + 1 ∈ (trOf dsts l[k] (es k)).2 := by simp only [trOf, List.mem_append]; exact Or.inr (ups_mem hm)
      rcases Nat.lt_trichotomy k i with h | h | h
      · have := hord k i _ o h hok ho ⟨2 * r + 1, Or.inl ⟨hmem, hr⟩⟩ _ hD' (by simp)
        simp only [Bool.or_eq_true, beq_iff_eq] at this
        exact ⟨fun _ => h, fun _ => this.resolve_right (by omega)⟩
      · subst h; simp [hDi]
      · refine ⟨fun hDk => ?_, fun hlt => by omega⟩
        have := hord i k o _ h ho hok ⟨2 * r + 1, Or.inr ⟨hmem, hr⟩⟩ _ hD hDk
        rw [hDi] at this; cases this
    have hdm : ∀ t, o.dst = some t → 2 * t ∈ (trOf dsts o (es i)).1 := by intro t ht; simp [trOf, ht, dstOf]
    have hum : ∀ r q, (r, q) ∈ (es i).ups → 2 * r + 1 ∈ (trOf dsts o (es i)).1 := by
      intro r q hm; simp only [trOf, List.mem_append]; exact Or.inr (Or.inr (Or.inr (Or.inr (ups_mem hm))))
    have hrm : ∀ r, r ∈ (es i).reads → 2 * r + 1 ∈ (trOf dsts o (es i)).1 := by
      intro r hm; simp only [trOf, List.mem_append]; exact Or.inr (Or.inr (Or.inr (Or.inl (reads_mem hm))))
    have hsm : ∀ t ∈ o.looksAt l.toArray, 2 * t ∈ (trOf dsts o (es i)).1 := by
      intro t ht
      simp only [Oper.looksAt, List.mem_append, List.mem_filterMap] at ht
      simp only [trOf, List.mem_append]
      rcases ht with ⟨x, hx, hxt⟩ | ht
      · left
        cases x with
        | tmp t' => simp only [Option.some.injEq] at hxt; subst hxt; exact tmps_mem hx
        | _ => cases hxt
      · right; left
        cases hg : o.guard with
        | none => rw [hg] at ht; cases ht
        | some g =>
          obtain ⟨j, want⟩ := g
          rw [hg] at ht
          simp only [Option.mem_toList] at ht
          simp only [guardOf]
          have : dsts[j]? = some (some t) := by
            rw [← hdst, List.getElem?_map]
            cases hj : l[j]? with
            | none => simp [hj] at ht
            | some oj => simp [hj] at ht; simp [ht]
          rw [this]; simp
    have vS_at : ∀ t, 2 * t ∈ (trOf dsts o (es i)).1 → vS D t = look (Ts i) t := fun t ht => lastv_eq l.length i (by omega) (keepS t) (ordS t ht)
    have vR_at : ∀ r, 2 * r + 1 ∈ (trOf dsts o (es i)).1 → vR D r = hget (Hs i) r := fun r hr => lastv_eq l.length i (by omega) (keepR r) (ordR r hr)
    have hN : (∃ q, ((Hs i).length, q) ∈ (es i).ups) → ¬ L (Hs i).length := by
      rintro ⟨q, hm⟩ hLN
      rcases hL _ hLN with h | ⟨k, hk, hDk, hw⟩
      · have := hlen 0 i (by omega) (by omega); omega
      · have hlt := (ordR _ (hum _ q hm) k hk hw).1 hDk
        obtain ⟨q', hm'⟩ := wR_iff.1 hw
        have h1 := hupl k _ q' hk hm'
        have h2 := hlen (k + 1) i (by omega) (by omega)
        omega
    have hnew : ∀ (wr : Nat → Bool), (∀ k, k < l.length → wr k = true → (D k = true ↔ k < i)) → ∀ k, k < l.length → wr k = true → ((D k || k == i) = true ↔ k < i + 1) := by
      intro wr h k hk hw
      have := h k hk hw
      simp only [Bool.or_eq_true, beq_iff_eq, this]
      omega
    refine hst B S0 a w ρ L hc.wf hN (fun t ht => by rw [← vS_at t (hsm t ht)]; exact hc.tmps t) (fun r hr row hrow => hc.rows r row (by rw [vR_at r (hrm r hr)]; exact hrow)) K Q (fun v w' ρ' hp => hK _ _ ⟨⟨ρ', _, hc.step hN hp (fun d hd => by rw [hd] at hdk; exact hdk) (fun t => ?_) (fun r => ⟨fun q hm => ?_, fun hno => ?_⟩), ?_⟩, ext_step hext hc.wf hp⟩)
    · by_cases e : o.dst = some t
      · rw [if_pos e]
        have := lastv_eq (D := fun k => D k || k == i) (wr := wS l t) (f := fun k => look (Ts k) t) l.length (i + 1) (by omega) (keepS t) (hnew _ (ordS t (hdm t e)))
        show lastv _ _ _ _ = _
        rw [this, hts, look_putT, if_pos e]
      · rw [if_neg e]
        refine lastv_congr _ (fun k hk hw => ?_)
        have : k ≠ i := by rintro rfl; exact e ((wS_iff ho).1 hw)
        simp [this]
    · have := lastv_eq (D := fun k => D k || k == i) (wr := wR es r) (f := fun k => hget (Hs k) r) l.length (i + 1) (by omega) (keepR r) (hnew _ (ordR r (hum r q hm)))
      show lastv _ _ _ _ = _
      rw [this, hhs]
      exact (hget_happ _ _ hin hon r).1 q hm
    · refine lastv_congr _ (fun k hk hw => ?_)
      have : k ≠ i := by rintro rfl; obtain ⟨q, hm⟩ := wR_iff.1 hw; exact hno q hm
      simp [this]
    · rintro r (hr | ⟨q, hm⟩)
      · rcases hL r hr with h | ⟨k, hk, hDk, hw⟩
        · exact Or.inl h
        · exact Or.inr ⟨k, hk, by simp [hDk], hw⟩
      · exact Or.inr ⟨i, hil, by simp, wR_iff.2 ⟨q, hm⟩⟩
  -- all orders
  have all : ∀ (fuel : Nat) (listed : Array Bool) (a : Act) (w : World), listed.size = l.length → listed.toList.count false = fuel → Down l.toArray (fun k => listed.getD k false) → Inv (fun k => listed.getD k false) a w →
      wpAny P .any l.toArray Q fuel listed a w := by
    intro fuel
    have done : ∀ (listed : Array Bool) (a : Act) (w : World), listed.size = l.length → Down l.toArray (fun k => listed.getD k false) → Inv (fun k => listed.getD k false) a w → Region.ready .any l.toArray listed = [] → Q .normal a w := by
      intro listed a w hsz hD hinv hr
      have hall : ∀ k, k < l.length → listed.getD k false = true := by
        intro k
        induction k using Nat.strongRecOn with
        | _ k ih =>
          intro hk
          cases hv : listed.getD k false with
          | true => rfl
          | false =>
            exfalso
            have hmem : k ∈ Region.ready .any l.toArray listed := by
              refine mem_ready.2 ⟨?_, l[k], by simp [hk], fun e he hb => ?_⟩
              · have hk' : k < listed.size := by omega
                simp only [Array.getD_eq_getD_getElem?, Array.getElem?_eq_getElem hk', Option.getD_some] at hv ⊢
                exact hv
              · have := back_spec l 0 hback k l[k] (List.getElem?_eq_getElem hk) e he hb
                exact ih e.on (by omega) (by omega)
            rw [hr] at hmem; cases hmem
      obtain ⟨⟨ρ, L, hc, hL⟩, hext⟩ := hinv
      have eS : vS (fun k => listed.getD k false) = look (Ts l.length) := by
        funext t
        exact lastv_eq l.length l.length (Nat.le_refl _) (keepS t) (fun k hk _ => ⟨fun _ => hk, fun _ => hall k hk⟩)
      have eR : vR (fun k => listed.getD k false) = hget (Hs l.length) := by
        funext r
        exact lastv_eq l.length l.length (Nat.le_refl _) (keepR r) (fun k hk _ => ⟨fun _ => hk, fun _ => hall k hk⟩)
      rw [eS, eR] at hc
      refine hQ a w ⟨⟨ρ, L, hc, fun r hr => ?_⟩, hext⟩
      rcases hL r hr with h | ⟨k, hk, _, hw⟩
      · exact Nat.lt_of_lt_of_le h (hlen 0 _ (by omega) (Nat.le_refl _))
      · obtain ⟨q, hm⟩ := wR_iff.1 hw
        exact Nat.lt_of_lt_of_le (hupl k r q hk hm) (hlen _ _ (by omega) (Nat.le_refl _))
    induction fuel with
    | zero =>
      intro listed a w hsz hcount hD hinv
      have hr : Region.ready .any l.toArray listed = [] := by
        apply List.eq_nil_iff_forall_not_mem.2
        intro k hk
        obtain ⟨h1, o, ho, _⟩ := mem_ready.1 hk
        have hkl : k < listed.size := by rw [hsz]; simpa using (Array.getElem?_eq_some_iff.1 ho).1
        simp only [Array.getD_eq_getD_getElem?, Array.getElem?_eq_getElem hkl, Option.getD_some] at h1
        rw [List.count_eq_zero] at hcount
        exact hcount (by rw [← h1]; simp)
      exact ⟨hr, done listed a w hsz hD hinv hr⟩
    | succ fuel ih =>
      intro listed a w hsz hcount hD hinv
      refine ⟨done listed a w hsz hD hinv, fun i hi => ?_⟩
      obtain ⟨h1, o, ho, hpre⟩ := mem_ready.1 hi
      have ho' : l[i]? = some o := by simpa using ho
      have hil : i < l.length := (List.getElem?_eq_some_iff.1 ho').1
      have hils : i < listed.size := by omega
      have hDi : listed.getD i false = false := by
        simp only [Array.getD_eq_getD_getElem?, Array.getElem?_eq_getElem hils, Option.getD_some] at h1 ⊢
        exact h1
      have eD : (fun k => (listed.setIfInBounds i true).getD k false) = fun k => listed.getD k false || k == i := by
        funext k
        by_cases e : k = i
        · subst e
          simp [Array.getD_eq_getD_getElem?, Array.getElem?_setIfInBounds_self_of_lt hils]
        · rw [getD_set_ne false (fun h => e h.symm)]
          simp [e]
      have hD' : Down l.toArray (fun k => listed.getD k false || k == i) := by
        intro k ok hok hk e he hb
        simp only [Bool.or_eq_true, beq_iff_eq] at hk ⊢
        rcases hk with hk | rfl
        · exact Or.inl (hD k ok hok hk e he hb)
        · rw [ho] at hok
          simp only [Option.some.injEq] at hok
          subst hok
          exact Or.inl (hpre e he hb)
      have := step (fun k => listed.getD k false) i o a w (wpAny P .any l.toArray Q fuel (listed.setIfInBounds i true)) hD hD' ho' hDi hinv (fun a' w' hinv' => ih _ a' w' (by simp [hsz]) (by
        rw [Array.toList_setIfInBounds, List.count_set (by simpa using hils), hcount]
        have : listed.toList[i]'(by simpa using hils) = false := by
          simp only [Array.getD_eq_getD_getElem?, Array.getElem?_eq_getElem hils, Option.getD_some] at hDi
          simpa using hDi
        simp [this]) (by rw [eD]; exact hD') (by rw [eD]; exact hinv'))
      unfold wpOp
      simp only [ho]
      split
      · rename_i hw; rw [if_pos hw] at this; exact Or.inl this
      · rename_i hw; rw [if_neg hw] at this; exact this
  obtain ⟨⟨ρ, L, hc, hL⟩, hext⟩ := hs
  have e0 : (fun k => (Array.replicate l.toArray.size false).getD k false) = fun _ => false := by
    funext k
    simp only [Array.getD_eq_getD_getElem?, Array.getElem?_replicate]
    split <;> rfl
  refine all _ _ a w (by simp) (by simp) ?_ ?_
  · rw [e0]; intro k o _ h; cases h
  · rw [e0]
    refine ⟨⟨ρ, L, ?_, fun r hr => Or.inl (hL r hr)⟩, hext⟩
    have eS : vS (fun _ => false) = look (Ts 0) := by
      funext t
      exact lastv_eq l.length 0 (by omega) (keepS t) (fun k hk _ => by simp)
    have eR : vR (fun _ => false) = hget (Hs 0) := by
      funext r
      exact lastv_eq l.length 0 (by omega) (keepR r) (fun k hk _ => by simp)
    rw [eS, eR]
    exact hc

theorem St.draw {w0 : World} {B S0 : Nat → Prop} {T : Tm} {H : Hp} {a : Act} {w : World} (hs : St w0 B S0 nt T H a w) (n : Nat) : St w0 B S0 nt T H a { w with drawn := n } := by
  obtain ⟨⟨ρ, L, hc, hL⟩, hext⟩ := hs
  have hk : ∀ {x y}, RepV w (Sx S0 ρ) ρ L x y → RepV { w with drawn := n } (Sx S0 ρ) ρ L x y := fun h => h.ext (Nat.le_refl _) (fun b _ hn => ⟨rfl, hn⟩) (fun r h => h) (fun r l _ h => h)
  refine ⟨⟨ρ, L, ⟨⟨hc.wf.inj, hc.wf.own, hc.wf.given, hc.wf.low, hc.wf.new⟩, hc.size, hc.defers, fun t => hk (hc.tmps t), fun r row hr => ?_, hc.dead⟩, hL⟩, hext.draw n⟩
  obtain ⟨l, hl, hrow⟩ := hc.rows r row hr
  exact ⟨l, hl, hrow.ext (Nat.le_refl _) (fun b _ hn => ⟨rfl, hn⟩) (fun r h => h) (fun r l _ h => h) (fun _ _ => rfl)⟩

theorem awp_draw {id : Nat} {T : Tm} {H : Hp} {Q : Exit → Tm → Hp → Prop} (hm : P.follows .mixedOrders = true) (hd : l.map (·.dst) = dsts)
    (h : ∀ K : Tm → Hp → List Tr → Prop, (∀ T' H' tr, drawB l tr = true → Q .normal T' H' → K T' H' tr) → vcOpsD P nt dsts l T H [] K) : AWp P nt (.region id l.toArray true) T H Q := by
  intro w0 B S0 a w hs
  have h' := h (fun T' H' tr => drawB l tr = true ∧ Q .normal T' H') (fun _ _ _ h1 h2 => ⟨h1, h2⟩)
  have hd' : ∀ j : Nat, dsts[j]? = (l.toArray[j]?).map (·.dst) := by intro j; rw [← hd]; simp
  obtain ⟨Ts, Hs, es, t0, h0, hlex, hB, hQ⟩ := lex_of hd' l T H [] h'
  refine wp_region_any hm ?_
  have := draw_sound (w0 := w0) (B := B) (S0 := S0) hlex hd (by simpa using hB) (Q := fun e a' w' => ∃ T' H', Q e T' H' ∧ St w0 B S0 nt T' H' a' w') (fun a w hst => ⟨_, _, hQ, hst⟩) (a := a) (w := { w with drawn := w.drawn + 1 }) (by rw [t0, h0]; exact hs.draw _)
  exact this
end

section
variable {P : Program} {nt : Nat} {l : List Oper} {dsts : List (Option Tmp)} {T : Tm} {H : Hp} {Q : Exit → Tm → Hp → Prop} {id : Nat} {y : Code}
/-- A region and what stands behind it. -/
theorem awp_sr (hd : l.map (·.dst) = dsts) (h : ∀ K : Tm → Hp → Prop, (∀ T' H', AWp P nt y T' H' Q → K T' H') → vcOps P nt dsts l T H K) : AWp P nt (.seq (.region id l.toArray false) y) T H Q :=
  awp_seq (awp_region hd (h _ fun _ _ h => h))
theorem awp_sd (hm : P.follows .mixedOrders = true) (hd : l.map (·.dst) = dsts)
    (h : ∀ K : Tm → Hp → List Tr → Prop, (∀ T' H' tr, drawB l tr = true → AWp P nt y T' H' Q → K T' H' tr) → vcOpsD P nt dsts l T H [] K) : AWp P nt (.seq (.region id l.toArray true) y) T H Q :=
  awp_seq (awp_draw hm hd h)
theorem awp_ss (h : AWp P nt y T H Q) : AWp P nt (.seq .skip y) T H Q := awp_seq (awp_skip h)
/-- A region at the end. -/
theorem awp_r (hd : l.map (·.dst) = dsts) (h : ∀ K : Tm → Hp → Prop, (∀ T' H', Q .normal T' H' → K T' H') → vcOps P nt dsts l T H K) : AWp P nt (.region id l.toArray false) T H Q :=
  awp_region hd (h _ fun _ _ h => h)
end

/-- The slots kept as they are. -/
def subE (T : Tm) : Tm → Prop
  | [] => True
  | (i, x) :: r => (x = .any ∨ look T i = x) ∧ subE T r

def prune (T : Tm) (live : List Nat) : Tm := live.map fun t => (t, look T t)

theorem sub_same {nt : Nat} {T T' : Tm} {H : Hp} (h : subE T T') : Sub nt T H T' H := by
  rintro w0 B S0 a w ⟨⟨ρ, L, hc, hL⟩, hext⟩
  refine ⟨⟨ρ, L, ⟨hc.wf, hc.size, hc.defers, fun t => ?_, hc.rows, hc.dead⟩, hL⟩, hext⟩
  have gen : ∀ (T' : Tm), subE T T' → RepV w (Sx S0 ρ) ρ L (look T' t) (a.tmps.getD t undef) := by
    intro T'
    induction T' with
    | nil => intro _; exact .pure _ _ (.any _)
    | cons p T' ih =>
      obtain ⟨i, x⟩ := p
      rintro ⟨h1, h2⟩
      simp only [look]
      split
      · rename_i e
        subst e
        rcases h1 with rfl | rfl
        · exact .pure _ _ (.any _)
        · exact hc.tmps t
      · exact ih h2
  exact gen T' h

theorem subE_prune (T : Tm) : ∀ live : List Nat, subE T (prune T live)
  | [] => trivial
  | t :: l => ⟨Or.inr rfl, subE_prune T l⟩

section
variable {P : Program} {nt : Nat} {T : Tm} {H : Hp} {Q : Exit → Tm → Hp → Prop} {c : Code}
theorem awp_prune (live : List Nat) (h : AWp P nt c (prune T live) H Q) : AWp P nt c T H Q := awp_weak (sub_same (subE_prune T live)) h

/-- A loop: the slots that stay ('live'), those that turn ('upd'), the rows. -/
theorem awp_loop_l {α : Type} (live : List Nat) (upd : α → Tm) (hp : α → Hp) (inv : α → Prop) (μ : α → Nat) (x0 : α) (h0 : inv x0) (hs0 : Sub nt T H (upd x0 ++ prune T live) (hp x0))
    (round : ∀ x, inv x → AWp P nt c (upd x ++ prune T live) (hp x) (thenA (fun T' H' => ∃ y, inv y ∧ μ y < μ x ∧ Sub nt T' H' (upd y ++ prune T live) (hp y)) Q)) : AWp P nt (.loop c) T H Q :=
  awp_loop (fun x => (upd x ++ prune T live, hp x)) inv μ x0 h0 hs0 round
end

/-- A sequence whose first part may end in several states: all come to one. -/
theorem awp_seq_j {P : Program} {nt : Nat} {T : Tm} {H : Hp} {Q : Exit → Tm → Hp → Prop} {x y : Code} (live : List Nat) (upd : Tm) (H' : Hp)
    (h : AWp P nt x T H (thenA (fun T1 H1 => Sub nt T1 H1 (upd ++ prune T live) H') Q)) (k : AWp P nt y (upd ++ prune T live) H' Q) : AWp P nt (.seq x y) T H Q :=
  awp_seq (awp_mono h fun e T1 H1 q => by
    cases e with
    | normal => exact awp_weak q k
    | _ => exact q)

/-- No old name twice. -/
def nodupB : List (Option Nat) → Bool
  | [] => true
  | none :: g => nodupB g
  | some q :: g => !g.contains (some q) && nodupB g

theorem nodupB_spec : ∀ (g : List (Option Nat)), nodupB g = true → ∀ (i j q : Nat), g[i]? = some (some q) → g[j]? = some (some q) → i = j
  | [], _, i, j, q, h, _ => by simp at h
  | x :: g, hn, i, j, q, h1, h2 => by
    have hg : nodupB g = true := by cases x <;> simp [nodupB] at hn <;> first | exact hn | exact hn.2
    have hx : ∀ k : Nat, x = some q → g[k]? = some (some q) → False := by
      rintro k rfl hk
      simp only [nodupB, Bool.and_eq_true, Bool.not_eq_true', List.contains_eq_mem, decide_eq_false_iff_not] at hn
      exact hn.1 (List.mem_of_getElem? hk)
    cases i with
    | zero =>
      cases j with
      | zero => rfl
      | succ j => simp at h1 h2; exact (hx j h1 h2).elim
    | succ i =>
      cases j with
      | zero => simp at h1 h2; exact (hx i h2 h1).elim
      | succ j => simp at h1 h2; rw [nodupB_spec g hg i j q h1 h2]

theorem sub_rb {nt : Nat} {T T' : Tm} {H H' : Hp} (g : List (Option Nat)) (hn : nodupB g = true) (hT : subT g T T') (hH : renH H g = H') : Sub nt T H T' H' := sub_ren g (nodupB_spec g hn) hT hH

attribute [simp] subE prune
@[congr] theorem vcOpsD_congr {P : Program} {nt : Nat} {dsts : List (Option Tmp)} {l : List Oper} {T T' : Tm} {H H' : Hp} {tr tr' : List Tr} {K : Tm → Hp → List Tr → Prop} (hT : T = T') (hH : H = H') (htr : tr = tr') : vcOpsD P nt dsts l T H tr K = vcOpsD P nt dsts l T' H' tr' K := by rw [hT, hH, htr]
attribute [simp] vcOpsD tmpsOf guardOf dstOf upsOf readsOf trOf
end Go.AM
