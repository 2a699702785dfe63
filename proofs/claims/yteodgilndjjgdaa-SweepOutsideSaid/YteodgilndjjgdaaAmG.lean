/- The abstract machine, part G: structs of small cells compared; an array's element by value; maps whose keys are such structs. No condition. -/
import Derived.Test.YteodgilndjjgdaaAmF
import Derived.Laws.StructEq
import Derived.MapKept
namespace Go.AM
set_option linter.unusedVariables false
set_option linter.unusedSimpArgs false

def ktOf (P : Program) (t : TypeId) : Option KT :=
  match P.underlying t, tdOf P t with
  | some (.int k), .cell _ => some (.i k)
  | some .bool, .cell _ => some .b
  | _, _ => none

def skFields (P : Program) : Nat → List Field → Option (List KT)
  | _, [] => some []
  | j, f :: fs => if f.name ≠ "_" ∧ f.offset = j then
      match ktOf P f.type, skFields P (j + 1) fs with
      | some k, some ks => some (k :: ks)
      | _, _ => none
    else none

/-- The cells of a struct that can be compared cell by cell. -/
def skOf (P : Program) (t : TypeId) : Option (List KT) :=
  match P.underlying t with
  | some (.struct fs) => if P.stoodInHeld t = false ∧ P.eqGuardType P.depth t = false then skFields P 0 fs.toList else none
  | _ => none

def KC.ofAV : AV → Option KC
  | .v (.int k n) => some (.i k n)
  | .v (.bool x) => some (.b x)
  | _ => none

def kcs : List AV → Option (List KC)
  | [] => some []
  | c :: cs => match KC.ofAV c, kcs cs with
    | some k, some ks => some (k :: ks)
    | _, _ => none

section
variable {P : Program} {w : World}

theorem ktOf_cell {t : TypeId} {k : KT} (h : ktOf P t = some k) : tdOf P t ≠ .bad ∧ (tdOf P t).isAgg = false ∧ (tdOf P t).size = 1 ∧ P.underlying t = some (match k with | .i k => .int k | .b => .bool) := by
  unfold ktOf at h
  split at h
  · rename_i h1 h2; simp only [Option.some.injEq] at h; subst h; simp [h1, h2, TD.isAgg, TD.size]
  · rename_i h1 h2; simp only [Option.some.injEq] at h; subst h; simp [h1, h2, TD.isAgg, TD.size]
  · cases h

theorem run_equalIn_kc {t : TypeId} {k : KT} (h : ktOf P t = some k) (d : Nat) {a b : KC} (ha : a.fits k = true) (hb : b.fits k = true) : (Op.equalIn (d + 1) t a.val b.val).run P w = .ok (decide (a = b)) w := by
  obtain ⟨_, _, _, hu⟩ := ktOf_cell h
  cases k with
  | i k =>
    cases a with
    | i k1 m =>
      cases b with
      | i k2 n =>
        simp only [KC.fits, decide_eq_true_eq] at ha hb
        subst ha hb
        simp only [KC.val]
        rw [run_equalIn_int w d t _ _ m n hu]
        simp
        exact Bool.eq_iff_iff.2 (by simp)
      | b y => simp [KC.fits] at hb
    | b x => simp [KC.fits] at ha
  | b =>
    cases a with
    | i k1 m => simp [KC.fits] at ha
    | b x =>
      cases b with
      | i k2 n => simp [KC.fits] at hb
      | b y =>
        simp only [KC.val]
        rw [run_equalIn_bool' w d t x y hu]
        simp
        exact Bool.eq_iff_iff.2 (by simp)

theorem part_kc {t : TypeId} {k : KT} (h : ktOf P t = some k) {ks : List KC} {j : Nat} (hj : j < ks.length) : (part t (ks.map KC.val).toArray j).run P w = .ok (ks[j]).val w := by
  obtain ⟨h1, h2, h3, _⟩ := ktOf_cell h
  rw [part_run h1 (by rw [h3, List.length_map]; omega), h2, h3]
  simp only [Bool.false_eq_true, if_false]
  rw [List.drop_eq_getElem_cons (by simpa using hj)]
  simp

theorem run_eqFields_kc (d : Nat) {ks ls : List KC} : ∀ (fs : List Field) (kts : List KT) (j : Nat), skFields P j fs = some kts → j ≤ ks.length → j ≤ ls.length → kcFit kts (ks.drop j) = true → kcFit kts (ls.drop j) = true →
    (Op.eqFields (d + 1) (ks.map KC.val).toArray (ls.map KC.val).toArray fs).run P w = .ok (decide (ks.drop j = ls.drop j)) w
  | [], kts, j, h, _, _, h1, h2 => by
    simp only [skFields, Option.some.injEq] at h
    subst h
    have e1 : ks.drop j = [] := by cases hk : ks.drop j with | nil => rfl | cons a l => rw [hk] at h1; simp [kcFit] at h1
    have e2 : ls.drop j = [] := by cases hk : ls.drop j with | nil => rfl | cons a l => rw [hk] at h2; simp [kcFit] at h2
    simp [Op.eqFields, e1, e2]
  | f :: fs, kts, j, h, l1, l2, h1, h2 => by
    simp only [skFields] at h
    split at h
    · rename_i hc
      obtain ⟨hn, ho⟩ := hc
      split at h
      · rename_i k ks' hk hrest
        simp only [Option.some.injEq] at h
        subst h
        have hj1 : j < ks.length := by
          rcases Nat.lt_or_ge j ks.length with h | h
          · exact h
          · rw [List.drop_eq_nil_of_le h] at h1; simp [kcFit] at h1
        have hj2 : j < ls.length := by
          rcases Nat.lt_or_ge j ls.length with h | h
          · exact h
          · rw [List.drop_eq_nil_of_le h] at h2; simp [kcFit] at h2
        rw [List.drop_eq_getElem_cons hj1] at h1
        rw [List.drop_eq_getElem_cons hj2] at h2
        simp only [kcFit, Bool.and_eq_true] at h1 h2
        have ih := run_eqFields_kc d fs ks' (j + 1) hrest hj1 hj2 h1.2 h2.2
        simp only [Op.eqFields, hn, ne_eq, not_false_eq_true, if_true, ho, Sem.run_bind, part_kc hk hj1, part_kc hk hj2, Result.andThen_ok, run_equalIn_kc hk d h1.1 h2.1]
        rw [List.drop_eq_getElem_cons hj1, List.drop_eq_getElem_cons hj2]
        by_cases e : ks[j] = ls[j]
        · simp only [e, decide_true, Bool.not_true, Bool.false_eq_true, if_false, ih, List.cons.injEq, true_and]
        · simp only [e, decide_false, Bool.not_false, if_true, Sem.run_pure, List.cons.injEq, false_and]
      · cases h
    · cases h

theorem kcFit_one {kt : KT} {ks : List KC} (h : kcFit [kt] ks = true) : ∃ c, ks = [c] ∧ c.fits kt = true := by
  match ks, h with
  | [], h => simp [kcFit] at h
  | [c], h => exact ⟨c, rfl, by simpa [kcFit] using h⟩
  | c :: d :: l, h => simp [kcFit] at h

theorem run_equal_struct {t : TypeId} {kts : List KT} (h : skOf P t = some kts) {ks ls : List KC} (h1 : kcFit kts ks = true) (h2 : kcFit kts ls = true) (d : Nat) :
    (Op.equalIn (d + 2) t (.agg (ks.map KC.val).toArray) (.agg (ls.map KC.val).toArray)).run P w = .ok (decide (ks = ls)) w := by
  unfold skOf at h
  split at h
  · rename_i fs hu
    split at h
    · rename_i hc
      have hf : P.fieldsOf t = fs := by simp [Program.fieldsOf, hu]
      rw [run_equalIn_struct w (d + 1) t _ _ (by rw [hf]; exact hu) hc.1, hf]
      have := run_eqFields_kc (P := P) (w := w) d fs.toList kts 0 h (Nat.zero_le _) (Nat.zero_le _) (by simpa using h1) (by simpa using h2)
      simpa using this
    · cases h
  · cases h

theorem kcs_rep {S : Nat → Prop} {ρ : Nat → Option Loc} {L : Nat → Prop} : ∀ (cs : List AV) (ks : List KC) (vs : List Value), kcs cs = some ks → cs.length = vs.length → (∀ (i : Nat) c x, cs[i]? = some c → vs[i]? = some x → RepV w S ρ L c x) → vs = ks.map KC.val
  | [], ks, vs, h, hl, _ => by simp [kcs] at h; subst h; exact List.eq_nil_of_length_eq_zero hl.symm
  | c :: cs, ks, vs, h, hl, hr => by
    match vs, hl with
    | v :: vs, hl =>
      simp only [kcs] at h
      split at h
      · rename_i k ks' hk hks
        simp only [Option.some.injEq] at h
        subst h
        have h0 := hr 0 c v rfl rfl
        have hv : v = k.val := by
          unfold KC.ofAV at hk
          split at hk
          · simp only [Option.some.injEq] at hk; subst hk; exact exact_v h0
          · simp only [Option.some.injEq] at hk; subst hk; exact exact_v h0
          · cases hk
        rw [hv, List.map_cons, ← kcs_rep cs ks' vs hks (by simpa using hl) (fun i c x h1 h2 => hr (i + 1) c x h1 h2)]
      · cases h

theorem agg_kcs {S : Nat → Prop} {ρ : Nat → Option Loc} {L : Nat → Prop} {cs : List AV} {ks : List KC} {y : Value} (h : kcs cs = some ks) (hr : RepV w S ρ L (.agg cs) y) : y = .agg (ks.map KC.val).toArray := by
  obtain ⟨vs, rfl, hl, hc⟩ := agg_cells hr
  rw [kcs_rep cs ks vs h hl (fun i c x h1 h2 => (hc i c x h1 h2).2)]
end

section
variable {P : Program} {o : Oper} {ev : Operand → AV} {H : Nat → Option ARow} {N : Nat}

theorem ok_eq_struct {op : BinOp} {t ty : TypeId} {x y : Operand} {cs ds : List AV} {kts : List KT} {ks ls : List KC} (ho : o.op = .binOp op t x y ty) (hop : op = .eql ∨ op = .neq) (hx : ev x = .agg cs) (hy : ev y = .agg ds) (ht : skOf P t = some kts)
    (hk : kcs cs = some ks) (hl : kcs ds = some ls) (f1 : kcFit kts ks = true) (f2 : kcFit kts ls = true) : OpOk P o ev H N ⟨.v (.bool (if op = .eql then decide (ks = ls) else !decide (ks = ls))), [], []⟩ := by
  refine OpOk.of_pure fun B S0 a w ρ L hw hops hrd => ⟨_, Or.inl ?_, .pure _ _ (.v _)⟩
  have h1 := hops x (by simp [ho, Op.operands])
  have h2 := hops y (by simp [ho, Op.operands])
  rw [hx] at h1; rw [hy] at h2
  have e1 := agg_kcs hk h1
  have e2 := agg_kcs hl h2
  have hg : P.eqGuardType P.depth t = false := by
    unfold skOf at ht
    split at ht
    · split at ht
      · rename_i hc; exact hc.2
      · cases ht
    · cases ht
  have hrun := run_equal_struct (w := w) ht f1 f2 9998
  rcases hop with rfl | rfl
  · simp only [execOp, ho, e1, e2, Sem.run_bind, run_eqGuard_agg w _ t x y _ _ hg, Result.andThen_ok, run_eql_struct, hrun]
    simp
  · simp only [execOp, ho, e1, e2, Sem.run_bind, run_eqGuard_agg w _ t x y _ _ hg, Result.andThen_ok, run_neq_struct, hrun]
    simp

/-- An array's element, by value. -/
theorem ok_index {t : TypeId} {x i : Operand} {z : List Value} {n : Nat} {e : TypeId} {cs : List AV} {k : IntKind} {j : Int} (ho : o.op = .index t x i) (ht : tdOf P t = .arr z n e) (he : tdOf P e ≠ .bad) (hx : ev x = .agg cs) (hi : ev i = .v (.int k j))
    (h0 : 0 ≤ j) (hn : j < n) (hin : j.toNat * (tdOf P e).size + (tdOf P e).size ≤ cs.length) : OpOk P o ev H N ⟨mk (tdOf P e) ((cs.drop (j.toNat * (tdOf P e).size)).take (tdOf P e).size), [], []⟩ := by
  obtain ⟨info, h1, h2, h3, h4, h5⟩ := tdOf_arr ht
  refine OpOk.of_pure fun B S0 a w ρ L hw hops hrd => ?_
  have hr := hops x (by simp [ho, Op.operands])
  have hri := hops i (by simp [ho, Op.operands])
  rw [hx] at hr; rw [hi] at hri
  have hiv := exact_v hri
  obtain ⟨vs, hy, hl, h⟩ := agg_cells hr
  refine ⟨_, Or.inl ?_, part_rep he hl h hin⟩
  simp only [execOp, ho, hy, hiv, Instr.index, asIntOf, Sem.run_bind, Sem.run_pure, Result.andThen_ok, run_underlying h2, h0, hn, and_self, if_true, run_sizeOf he, part_run he (hl ▸ hin)]
end

/-- What a map's type is: whether keys are structs, their cells, the zero value of the elements. -/
def mkOf (P : Program) (t : TypeId) : Option (Bool × List KT × Value) :=
  match P.underlying t with
  | some (.map k e) => match tdOf P e with
    | .cell z => match ktOf P k with
      | some kt => some (false, [kt], z)
      | none => match skOf P k with
        | some kts => some (true, kts, z)
        | none => none
    | _ => none
  | _ => none

def kvGet : List (List KC × Value) → List KC → Option Value
  | [], _ => none
  | (k, v) :: r, q => if q = k then some v else kvGet r q

def kvSet : List (List KC × Value) → List KC → Value → List (List KC × Value)
  | [], q, u => [(q, u)]
  | (k, v) :: r, q, u => if q = k then (k, u) :: r else (k, v) :: kvSet r q u

/-- A key as the abstract machine has it. -/
def keyK : AV → Option (Bool × List KC)
  | .v (.int k n) => some (false, [.i k n])
  | .v (.bool b) => some (false, [.b b])
  | .agg cs => match kcs cs with
    | some ks => some (true, ks)
    | none => none
  | _ => none

section
variable {P : Program} {w : World}

theorem keyK_rep {S : Nat → Prop} {ρ : Nat → Option Loc} {L : Nat → Prop} {x : AV} {y : Value} {ag : Bool} {ks : List KC} (h : keyK x = some (ag, ks)) (hr : RepV w S ρ L x y) : y = keyVal ag ks := by
  unfold keyK at h
  split at h
  · simp only [Option.some.injEq, Prod.mk.injEq] at h; obtain ⟨rfl, rfl⟩ := h; exact exact_v hr
  · simp only [Option.some.injEq, Prod.mk.injEq] at h; obtain ⟨rfl, rfl⟩ := h; exact exact_v hr
  · split at h
    · rename_i hk
      simp only [Option.some.injEq, Prod.mk.injEq] at h; obtain ⟨rfl, rfl⟩ := h
      exact agg_kcs hk hr
    · cases h
  · cases h

/-- What is known of a map's type. -/
structure MkOf (P : Program) (t k e : TypeId) (ag : Bool) (kts : List KT) (z : Value) : Prop where
  und : P.underlying t = some (.map k e)
  zero : ∀ w, (zeroValue e).run P w = .ok z w
  one : z.oneCell' = true
  key : (ag = false ∧ ∃ kt, kts = [kt] ∧ ktOf P k = some kt) ∨ (ag = true ∧ skOf P k = some kts)

theorem mkOf_spec {t : TypeId} {ag : Bool} {kts : List KT} {z : Value} (h : mkOf P t = some (ag, kts, z)) : ∃ k e, MkOf P t k e ag kts z := by
  unfold mkOf at h
  split at h
  · rename_i k e hu
    split at h
    · rename_i z' htd
      obtain ⟨i, d, h1, h2, _, _, _, h4, _, h6⟩ := tdOf_cell htd
      have hz : ∀ w, (zeroValue e).run P w = .ok z' w := fun w => by simp [zeroValue, typeInfo, h1, h4]
      split at h
      · rename_i kt hkt
        simp only [Option.some.injEq, Prod.mk.injEq] at h
        obtain ⟨rfl, rfl, rfl⟩ := h
        exact ⟨k, e, hu, hz, h6, Or.inl ⟨rfl, kt, rfl, hkt⟩⟩
      · split at h
        · rename_i kts' hsk
          simp only [Option.some.injEq, Prod.mk.injEq] at h
          obtain ⟨rfl, rfl, rfl⟩ := h
          exact ⟨k, e, hu, hz, h6, Or.inr ⟨rfl, hsk⟩⟩
        · cases h
    · cases h
  · cases h

theorem run_checkFields {E : Bool} {ks : List KC} (n : Nat) : ∀ (fs : List Field) (kts : List KT) (j : Nat), skFields P j fs = some kts → kcFit kts (ks.drop j) = true →
    (forIn fs PUnit.unit fun (f : Field) (_ : PUnit) => (if f.name ≠ "_" then do Instr.checkKey E (n + 1) f.type (← part f.type (ks.map KC.val).toArray f.offset); pure (ForInStep.yield PUnit.unit) else pure (ForInStep.yield PUnit.unit) : Sem (ForInStep PUnit))).run P w = .ok PUnit.unit w
  | [], kts, j, h, h1 => by simp
  | f :: fs, kts, j, h, h1 => by
    simp only [skFields] at h
    split at h
    · rename_i hc
      obtain ⟨hn, ho⟩ := hc
      split at h
      · rename_i k ks' hk hrest
        simp only [Option.some.injEq] at h
        subst h
        have hj1 : j < ks.length := by
          rcases Nat.lt_or_ge j ks.length with h | h
          · exact h
          · rw [List.drop_eq_nil_of_le h] at h1; simp [kcFit] at h1
        rw [List.drop_eq_getElem_cons hj1] at h1
        simp only [kcFit, Bool.and_eq_true] at h1
        have ih := run_checkFields (E := E) (ks := ks) n fs ks' (j + 1) hrest h1.2
        obtain ⟨_, _, _, hu⟩ := ktOf_cell hk
        have hch : (Instr.checkKey E (n + 1) f.type (ks[j]).val).run P w = .ok () w := by
          unfold Instr.checkKey
          simp only [Sem.run_bind, run_underlying hu, Result.andThen]
          cases k <;> cases ks[j] <;> simp [KC.val]
        simp only [List.forIn_cons, hn, ne_eq, not_false_eq_true, if_true, ho, Sem.run_bind, part_kc hk hj1, Result.andThen_ok, hch, Sem.run_pure]
        exact ih
      · cases h
    · cases h

theorem run_check {t k e : TypeId} {ag : Bool} {kts : List KT} {z : Value} (hm : MkOf P t k e ag kts z) {ks : List KC} (hf : kcFit kts ks = true) (E : Bool) : (Instr.checkKey E 10000 k (keyVal ag ks)).run P w = .ok () w := by
  rcases hm.key with ⟨rfl, kt, rfl, hkt⟩ | ⟨rfl, hsk⟩
  · obtain ⟨_, _, _, hu⟩ := ktOf_cell hkt
    obtain ⟨c, rfl, hc⟩ := kcFit_one hf
    unfold Instr.checkKey
    simp only [Sem.run_bind, run_underlying hu, Result.andThen, keyVal, Bool.false_eq_true, if_false, List.headD_cons]
    cases kt <;> cases c <;> simp [KC.val]
  · unfold skOf at hsk
    split at hsk
    · rename_i fs hu
      split at hsk
      · have := run_checkFields (P := P) (w := w) (E := E) (ks := ks) 9998 fs.toList kts 0 hsk (by simpa using hf)
        unfold Instr.checkKey
        simp only [Sem.run_bind, run_underlying hu, Result.andThen_ok, keyVal, if_true]
        rw [← Array.forIn_toList]
        simp only [ne_eq, ite_not, bind_pure_comp, Array.forIn_toList] at this
        simp [this]
      · cases hsk
    · cases hsk

theorem keyVal_inj {ag : Bool} {kts : List KT} {ks ls : List KC} (hag : ag = true ∨ kts.length = 1) (h1 : kcFit kts ks = true) (h2 : kcFit kts ls = true) (h : keyVal ag ks = keyVal ag ls) : ks = ls := by
  have vinj : ∀ a b : KC, a.val = b.val → a = b := by
    intro a b h
    cases a <;> cases b <;> simp [KC.val] at h ⊢ <;> exact h
  have linj : ∀ xs ys : List KC, xs.map KC.val = ys.map KC.val → xs = ys := fun xs ys h => List.map_inj_right vinj |>.1 h
  cases ag with
  | true => simp only [keyVal, if_true, Value.agg.injEq] at h; exact linj _ _ (by simpa using h)
  | false =>
    have hk : kts.length = 1 := hag.resolve_left (by simp)
    match kts, hk with
    | [kt], _ =>
      obtain ⟨a, rfl, _⟩ := kcFit_one h1
      obtain ⟨b, rfl, _⟩ := kcFit_one h2
      simp only [keyVal, Bool.false_eq_true, if_false, List.headD_cons] at h
      rw [vinj a b h]

theorem run_equal_key {t k e : TypeId} {ag : Bool} {kts : List KT} {z : Value} (hm : MkOf P t k e ag kts z) {ks ls : List KC} (h1 : kcFit kts ks = true) (h2 : kcFit kts ls = true) : (Op.equal k (keyVal ag ks) (keyVal ag ls)).run P w = .ok (decide (ks = ls)) w := by
  rcases hm.key with ⟨rfl, kt, rfl, hkt⟩ | ⟨rfl, hsk⟩
  · obtain ⟨a, rfl, g1⟩ := kcFit_one h1
    obtain ⟨b, rfl, g2⟩ := kcFit_one h2
    simp only [keyVal, Bool.false_eq_true, if_false, List.headD_cons]
    have := run_equalIn_kc (w := w) hkt 9999 g1 g2
    simp only [Op.equal, Op.maxDepth, this, List.cons.injEq, and_true]
  · simp only [keyVal, if_true]
    exact run_equal_struct (w := w) hsk h1 h2 9998

/-- Where a key is. -/
def kvAt : List (List KC × Value) → List KC → Nat → Option (Nat × Value)
  | [], _, _ => none
  | (k, v) :: r, q, i => if q = k then some (i, v) else kvAt r q (i + 1)

theorem kvAt_get : ∀ (kvs : List (List KC × Value)) (q : List KC) (i : Nat), (kvAt kvs q i).map (·.2) = kvGet kvs q
  | [], _, _ => rfl
  | (k, v) :: r, q, i => by
    simp only [kvAt, kvGet]
    split
    · rfl
    · exact kvAt_get r q (i + 1)

theorem run_asking {t k e : TypeId} {ag : Bool} {kts : List KT} {z : Value} (hm : MkOf P t k e ag kts z) {ks : List KC} (h1 : kcFit kts ks = true) : ∀ (es : List MapEntry) (kvs : List (List KC × Value)) (i : Nat), es.map (fun e => (e.key, e.val)) = kvs.map (fun p => (keyVal ag p.1, p.2)) → (∀ p ∈ kvs, kcFit kts p.1 = true) →
    (Instr.findAsking k (keyVal ag ks) es i).run P w = .ok (kvAt kvs ks i) w
  | [], kvs, i, h, _ => by
    have : kvs = [] := by simpa using h.symm
    subst this
    simp [Instr.findAsking, kvAt]
  | x :: es, kvs, i, h, hf => by
    match kvs, h with
    | (q, v) :: kvs, h =>
      simp only [List.map_cons, List.cons.injEq, Prod.mk.injEq] at h
      obtain ⟨⟨e1, e2⟩, h⟩ := h
      simp only [Instr.findAsking, Sem.run_bind, e1, run_equal_key hm h1 (hf (q, v) (by simp)), Result.andThen_ok, kvAt]
      by_cases e : ks = q
      · simp [e, e2]
      · simp only [e, decide_false, Bool.false_eq_true, if_false]
        exact run_asking hm h1 es kvs (i + 1) h (fun p hp => hf p (by simp [hp]))

theorem find_now {t k e : TypeId} {ag : Bool} {kts : List KT} {z : Value} (hm : MkOf P t k e ag kts z) {d : TypeDesc} (hd : P.underlying k = some d) {ks : List KC} (h1 : kcFit kts ks = true) : ∀ (es : List MapEntry) (kvs : List (List KC × Value)) (i : Nat), es.map (fun e => (e.key, e.val)) = kvs.map (fun p => (keyVal ag p.1, p.2)) → (∀ p ∈ kvs, kcFit kts p.1 = true) →
    ∀ r, Instr.findNow d (keyVal ag ks) es i = some r → r = kvAt kvs ks i
  | [], kvs, i, h, _ => by
    have : kvs = [] := by simpa using h.symm
    subst this
    intro r hr
    simp only [Instr.findNow, Option.some.injEq] at hr
    exact hr.symm
  | x :: es, kvs, i, h, hf => by
    match kvs, h with
    | (q, v) :: kvs, h =>
      simp only [List.map_cons, List.cons.injEq, Prod.mk.injEq] at h
      obtain ⟨⟨e1, e2⟩, h⟩ := h
      intro r hr
      have hq := hf (q, v) (by simp)
      have hsame : ∀ b, Instr.sameNow d (keyVal ag ks) (keyVal ag q) = some b → b = decide (ks = q) := by
        intro b hb
        rcases hm.key with ⟨rfl, kt, rfl, hkt⟩ | ⟨rfl, hsk⟩
        · obtain ⟨_, _, _, hu⟩ := ktOf_cell hkt
          rw [hd] at hu
          simp only [Option.some.injEq] at hu
          subst hu
          obtain ⟨a, rfl, g1⟩ := kcFit_one h1
          obtain ⟨c, rfl, gq⟩ := kcFit_one hq
          simp only [keyVal, Bool.false_eq_true, if_false, List.headD_cons] at hb
          cases kt with
          | i kk =>
            cases a with
            | i k1 m =>
              cases c with
              | i k2 n =>
                simp only [KC.fits, decide_eq_true_eq] at g1 gq
                subst g1 gq
                simp only [KC.val, Instr.sameNow, if_true, Option.some.injEq] at hb
                subst hb
                simp only [List.cons.injEq, KC.i.injEq, true_and, and_true]
                exact Bool.eq_iff_iff.2 (by simp)
              | b y => simp [KC.fits] at gq
            | b y => simp [KC.fits] at g1
          | b =>
            cases a with
            | i k1 m => simp [KC.fits] at g1
            | b x =>
              cases c with
              | i k2 n => simp [KC.fits] at gq
              | b y =>
                simp only [KC.val, Instr.sameNow, Option.some.injEq] at hb
                subst hb
                simp only [List.cons.injEq, KC.b.injEq, and_true]
                exact Bool.eq_iff_iff.2 (by simp)
        · simp only [keyVal, if_true] at hb
          cases d <;> simp [Instr.sameNow] at hb
      simp only [Instr.findNow, e1] at hr
      simp only [kvAt]
      split at hr
      · rename_i hs
        have := hsame _ hs
        rw [if_pos (by simpa using this.symm)]
        simp only [Option.some.injEq] at hr
        rw [← hr, e2]
      · rename_i hs
        have := hsame _ hs
        rw [if_neg (by simpa using this.symm)]
        exact find_now hm hd h1 es kvs (i + 1) h (fun p hp => hf p (by simp [hp])) r hr
      · cases hr

theorem run_find {t k e : TypeId} {ag : Bool} {kts : List KT} {z : Value} (hm : MkOf P t k e ag kts z) {ks : List KC} (h1 : kcFit kts ks = true) {es : List MapEntry} {kvs : List (List KC × Value)} (h : es.map (fun e => (e.key, e.val)) = kvs.map (fun p => (keyVal ag p.1, p.2))) (hf : ∀ p ∈ kvs, kcFit kts p.1 = true) :
    (Instr.findKey k (keyVal ag ks) es).run P w = .ok (kvAt kvs ks 0) w := by
  obtain ⟨d, hd⟩ : ∃ d, P.underlying k = some d := by
    rcases hm.key with ⟨_, kt, _, hkt⟩ | ⟨_, hsk⟩
    · exact ⟨_, (ktOf_cell hkt).2.2.2⟩
    · unfold skOf at hsk
      split at hsk
      · rename_i fs hu; exact ⟨_, hu⟩
      · cases hsk
  unfold Instr.findKey
  simp only [Sem.run_bind, run_underlying hd, Result.andThen_ok]
  cases hn : Instr.findNow d (keyVal ag ks) es 0 with
  | some r => simp only [Sem.run_pure]; rw [find_now hm hd h1 es kvs 0 h hf r hn]
  | none => exact run_asking hm h1 es kvs 0 h hf

theorem run_lookup {t k e : TypeId} {ag : Bool} {kts : List KT} {z : Value} (hm : MkOf P t k e ag kts z) {ks : List KC} (h1 : kcFit kts ks = true) {b : Nat} {kvs : List (List KC × Value)} (hr : MapRep w b ag kts kvs) (ok : Bool) :
    (Instr.lookup t (.map (some b)) (keyVal ag ks) ok).run P w = .ok (if ok then .tuple #[(kvGet kvs ks).getD z, .bool (kvGet kvs ks).isSome] else (kvGet kvs ks).getD z) w := by
  obtain ⟨es, clock, hb, hes, hf⟩ := hr
  have hfind := run_find (w := w) hm h1 hes hf
  have hg := kvAt_get kvs ks 0
  simp only [Instr.lookup, Sem.run_bind, run_underlying hm.und, Result.andThen_ok, MapKept.run_getObj_map hb, Sem.run_pure, run_check hm h1, hfind]
  cases hk : kvAt kvs ks 0 with
  | none =>
    rw [hk] at hg
    simp only [Option.map_none] at hg
    rw [← hg]
    cases ok <;> simp [hm.zero]
  | some p =>
    rw [hk] at hg
    simp only [Option.map_some] at hg
    rw [← hg]
    cases ok <;> simp
end

section
variable {P : Program} {o : Oper} {ev : Operand → AV} {H : Nat → Option ARow} {N : Nat}

/-- AN OPERATION THAT WRITES A BLOCK IN PLACE, whatever lies in it. -/
theorem OpOk.of_updB {r : Nat} {row : ARow} {reads : List Nat}
    (h : ∀ (B S0 : Nat → Prop) (a : Act) (w : World) (ρ : Nat → Option Loc) (L : Nat → Prop), WF B S0 w ρ L →
      (∀ x ∈ o.op.operands, RepV w (Sx S0 ρ) ρ L (ev x) (a.eval x)) →
      (∀ r ∈ reads, ∀ row, H r = some row → ∃ l, ρ r = some l ∧ RowRep w (Sx S0 ρ) ρ L l row) →
      ∃ (l : Loc) (b : Nat) (ob : Obj), ρ r = some l ∧ l.b = some b ∧ (execOp a.eval o).run P w = .ok .skip { w with heap := w.heap.setIfInBounds b ob } ∧
        RowRep { w with heap := w.heap.setIfInBounds b ob } (Sx S0 ρ) ρ L l row) :
    OpOk P o ev H N ⟨.any, [(r, some row)], reads⟩ := by
  intro B S0 a w ρ L hw hN hops hrd K Q hK
  obtain ⟨l, b, ob, hl, hb, hrun, hrow⟩ := h B S0 a w ρ L hw hops hrd
  have hsize : ({ w with heap := w.heap.setIfInBounds b ob } : World).heap.size = w.heap.size := by simp
  have hother : ∀ k, k ≠ b → ({ w with heap := w.heap.setIfInBounds b ob } : World).heap[k]? = w.heap[k]? := by
    intro k hk
    simp [Ne.symm hk]
  have hp : Post B S0 w ρ L N ⟨.any, [(r, some row)], reads⟩ { w with heap := w.heap.setIfInBounds b ob } ρ undef :=
    { wf := ⟨hw.inj, fun r l b h1 h2 => by rw [hsize]; exact hw.own r l b h1 h2, fun r l h1 => Or.inl (hw.given r l h1), fun b h => by rw [hsize]; exact hw.low b h, fun b h => hw.new b (by rw [hsize] at h; exact h)⟩
      rep := .pure _ _ (.any _)
      ups := by
        intro r' o' hm
        simp only [List.mem_singleton, Prod.mk.injEq] at hm
        obtain ⟨rfl, rfl⟩ := hm
        exact ⟨l, hl, hrow.ext (Nat.le_refl _) (fun b _ hn => ⟨rfl, hn⟩) (fun r => Or.inl) (fun r l _ hl => hl) (fun _ _ => rfl)⟩
      others := fun r _ => rfl
      only := fun r l hl => Or.inl hl
      ext := ⟨rfl, rfl, rfl, by omega, fun k hk hm => hother k (by rintro rfl; exact hm ⟨r, l, some row, by simp, hl, hb⟩)⟩ }
  unfold Oper.wp
  rw [hrun]
  exact hK _ _ _ hp

theorem ok_makeMap {t : TypeId} {ag : Bool} {kts : List KT} {z : Value} (ho : o.op = .makeMap t none) (hm : mkOf P t = some (ag, kts, z)) : OpOk P o ev H N ⟨.mp N, [(N, some (.map ag kts []))], []⟩ := by
  refine OpOk.of_new fun B S0 a w ρ L hw hN hops hrd => ?_
  refine ⟨.map (some w.heap.size), .map #[] 0, w, ⟨some w.heap.size, 0, 0, 0⟩, ?_, rfl, rfl, rfl, rfl, fun b h => by simpa using h.symm, ?_⟩
  · simp only [execOp, ho, Option.map_none, Instr.makeMap, Sem.run_bind]
    rfl
  · rintro w' ρ' rfl rfl hk
    refine ⟨.mp _ _ (Or.inr rfl) rfl (fun l hl => ?_), ?_⟩
    · simp only [Loc.fresh, if_true, Option.some.injEq] at hl
      subst hl
      exact ⟨_, rfl, rfl⟩
    · exact ⟨_, rfl, #[], 0, heap_alloc_new w _, rfl, by simp⟩

theorem map_of {w : World} {S : Nat → Prop} {ρ : Nat → Option Loc} {L : Nat → Prop} {r : Nat} {y : Value} {ag : Bool} {kts : List KT} {kvs : List (List KC × Value)} (h : RepV w S ρ L (.mp r) y) {l : Loc} (hl : ρ r = some l) (hrow : RowRep w S ρ L l (.map ag kts kvs)) :
    ∃ b, l.b = some b ∧ y = .map (some b) ∧ MapRep w b ag kts kvs := by
  obtain ⟨b, hb, hm⟩ := hrow
  cases h with
  | pure _ _ h => cases h
  | mp _ _ h1 h2 h3 =>
    obtain ⟨b', hb', rfl⟩ := h3 l hl
    rw [hb] at hb'
    simp only [Option.some.injEq] at hb'
    subst hb'
    exact ⟨b, hb, rfl, hm⟩

theorem mpc_of {w : World} {S : Nat → Prop} {ρ : Nat → Option Loc} {L : Nat → Prop} {y : Value} {ag : Bool} {kts : List KT} {kvs : List (List KC × Value)} (h : RepV w S ρ L (.mpc ag kts kvs) y) : ∃ b, y = .map (some b) ∧ MapRep w b ag kts kvs := by
  cases h with
  | pure _ _ h => cases h with
    | mpc _ _ _ b hS hb h => exact ⟨b, rfl, h⟩

/-- A map's content, and the rows that are read for it. -/
def mapIn (H : Nat → Option ARow) : AV → Option (Bool × List KT × List (List KC × Value) × List Nat)
  | .mp r => match H r with
    | some (.map ag kts kvs) => some (ag, kts, kvs, [r])
    | _ => none
  | .mpc ag kts kvs => some (ag, kts, kvs, [])
  | _ => none

theorem mapIn_rep {w : World} {S : Nat → Prop} {ρ : Nat → Option Loc} {L : Nat → Prop} {x : AV} {y : Value} {ag : Bool} {kts : List KT} {kvs : List (List KC × Value)} {rd : List Nat} (h : mapIn H x = some (ag, kts, kvs, rd)) (hr : RepV w S ρ L x y)
    (hrd : ∀ r ∈ rd, ∀ row, H r = some row → ∃ l, ρ r = some l ∧ RowRep w S ρ L l row) : ∃ b, y = .map (some b) ∧ MapRep w b ag kts kvs := by
  unfold mapIn at h
  split at h
  · rename_i r
    split at h
    · rename_i hH
      simp only [Option.some.injEq, Prod.mk.injEq] at h
      obtain ⟨rfl, rfl, rfl, rfl⟩ := h
      obtain ⟨l, hl, hrow⟩ := hrd r (by simp) _ hH
      obtain ⟨b, _, hy, hm⟩ := map_of hr hl hrow
      exact ⟨b, hy, hm⟩
    · cases h
  · simp only [Option.some.injEq, Prod.mk.injEq] at h
    obtain ⟨rfl, rfl, rfl, rfl⟩ := h
    exact mpc_of hr
  · cases h

theorem ok_lookup {t : TypeId} {x q : Operand} {ok : Bool} {ag : Bool} {kts : List KT} {kvs : List (List KC × Value)} {ks : List KC} {z : Value} {rd : List Nat} (ho : o.op = .lookup t x q ok) (hm : mkOf P t = some (ag, kts, z)) (hx : mapIn H (ev x) = some (ag, kts, kvs, rd)) (hq : keyK (ev q) = some (ag, ks)) (hf : kcFit kts ks = true) :
    OpOk P o ev H N ⟨if ok then .tup [.v ((kvGet kvs ks).getD z), .v (.bool (kvGet kvs ks).isSome)] else .v ((kvGet kvs ks).getD z), [], rd⟩ := by
  obtain ⟨k, e, hmk⟩ := mkOf_spec hm
  refine OpOk.of_pure fun B S0 a w ρ L hw hops hrd => ?_
  have hrx := hops x (by simp [ho, Op.operands])
  have hrq := hops q (by simp [ho, Op.operands])
  obtain ⟨b, hy, hrep⟩ := mapIn_rep hx hrx hrd
  have hkq := keyK_rep hq hrq
  refine ⟨if ok then .tuple #[(kvGet kvs ks).getD z, .bool (kvGet kvs ks).isSome] else (kvGet kvs ks).getD z, Or.inl (by simp only [execOp, ho, hy, hkq, Sem.run_bind, run_lookup hmk hf hrep ok, Result.andThen_ok, Sem.run_pure]), ?_⟩
  cases ok with
  | true => exact .tup [_, _] [_, _] rfl (by
      intro i c y h1 h2
      match i with
      | 0 => simp at h1 h2; subst h1 h2; exact .pure _ _ (.v _)
      | 1 => simp at h1 h2; subst h1 h2; exact .pure _ _ (.v _)
      | i + 2 => simp at h1)
  | false => exact .pure _ _ (.v _)

theorem ok_len_map {t : TypeId} {x : Operand} {ag : Bool} {kts : List KT} {kvs : List (List KC × Value)} {rd : List Nat} (ho : o.op = .call { callee := .builtin .len, args := #[x], argTypes := #[t] }) (hm : (mkOf P t).isSome = true) (hx : mapIn H (ev x) = some (ag, kts, kvs, rd)) :
    OpOk P o ev H N ⟨.v (.int .i64 kvs.length), [], rd⟩ := by
  obtain ⟨q, hq⟩ := Option.isSome_iff_exists.1 hm
  obtain ⟨k, e, hmk⟩ := mkOf_spec (ag := q.1) (kts := q.2.1) (z := q.2.2) hq
  refine OpOk.of_pure fun B S0 a w ρ L hw hops hrd => ?_
  have hrx := hops x (by simp [ho, Op.operands, Call.operands])
  obtain ⟨b, hy, es, clock, hb, hes, _⟩ := mapIn_rep hx hrx hrd
  have hlen : es.size = kvs.length := by have := congrArg List.length hes; simpa using this
  refine ⟨_, Or.inl ?_, .pure _ _ (.v _)⟩
  simp only [execOp, ho, resolve, invoke, builtin, hy]
  simp [invoke, builtin, Builtin.len_, hy, run_underlying hmk.und, MapKept.run_getObj_map hb, hlen, goInt]

theorem kvAt_set : ∀ (kvs : List (List KC × Value)) (q : List KC) (i : Nat) (u : Value), kvSet kvs q u = match kvAt kvs q i with
    | some (j, _) => kvs.modify (j - i) fun p => (q, u)
    | none => kvs ++ [(q, u)]
  | [], q, i, u => rfl
  | (k, v) :: r, q, i, u => by
    simp only [kvSet, kvAt]
    split
    · rename_i e; subst e; simp
    · have ih := kvAt_set r q (i + 1) u
      have hge : ∀ (r : List (List KC × Value)) (i : Nat) j v, kvAt r q i = some (j, v) → i ≤ j := by
        intro r
        induction r with
        | nil => intro i j v h; cases h
        | cons p r ih =>
          intro i j v h
          simp only [kvAt] at h
          split at h
          · simp only [Option.some.injEq, Prod.mk.injEq] at h; omega
          · have := ih (i + 1) j v h; omega
      cases hk : kvAt r q (i + 1) with
      | none => rw [hk] at ih; simp [ih]
      | some p =>
        obtain ⟨j, v'⟩ := p
        rw [hk] at ih
        have := hge r (i + 1) j v' hk
        simp only [ih]
        rw [show j - i = (j - (i + 1)) + 1 by omega]
        rfl

theorem kvAt_spec : ∀ (kvs : List (List KC × Value)) (q : List KC) (i j : Nat) (v : Value), kvAt kvs q i = some (j, v) → i ≤ j ∧ kvs[j - i]? = some (q, v)
  | [], q, i, j, v, h => by cases h
  | (k, u) :: r, q, i, j, v, h => by
    simp only [kvAt] at h
    split at h
    · rename_i e
      simp only [Option.some.injEq, Prod.mk.injEq] at h
      obtain ⟨rfl, rfl⟩ := h
      subst e
      simp
    · obtain ⟨h1, h2⟩ := kvAt_spec r q (i + 1) j v h
      refine ⟨by omega, ?_⟩
      rw [show j - i = (j - (i + 1)) + 1 by omega, List.getElem?_cons_succ]
      exact h2

theorem sameBits_kc (ks : List KC) (ag : Bool) : Instr.sameBits 10000 (keyVal ag ks) (keyVal ag ks) = true := by
  have hv : ∀ n (c : KC), Instr.sameBits n c.val c.val = true := by
    intro n c
    cases c <;> cases n <;> simp [KC.val, Instr.sameBits]
  cases ag with
  | true =>
    simp only [keyVal, if_true, Instr.sameBits]
    simp only [beq_self_eq_true, Bool.true_and, List.all_eq_true]
    intro p hp
    have hz : ∀ (l : List Value) p, p ∈ l.zip l → p.1 = p.2 ∧ p.1 ∈ l := by
      intro l
      induction l with
      | nil => intro p h; simp at h
      | cons a l ih =>
        intro p h
        simp only [List.zip_cons_cons, List.mem_cons] at h
        rcases h with rfl | h
        · simp
        · obtain ⟨h1, h2⟩ := ih p h; exact ⟨h1, by simp [h2]⟩
    obtain ⟨h1, h2⟩ := hz _ p (by simpa using hp)
    simp only [List.mem_map] at h2
    obtain ⟨c, _, h2⟩ := h2
    obtain ⟨p1, p2⟩ := p
    simp only at h1 h2
    subst h1 h2
    exact hv 9999 c
  | false => exact hv 10000 _

theorem ok_mapUpdate {t : TypeId} {x q v : Operand} {ag : Bool} {kts : List KT} {kvs : List (List KC × Value)} {ks : List KC} {z u : Value} {r : Nat} (ho : o.op = .mapUpdate t x q v) (hm : mkOf P t = some (ag, kts, z)) (hx : ev x = .mp r) (hH : H r = some (.map ag kts kvs)) (hq : keyK (ev q) = some (ag, ks)) (hf : kcFit kts ks = true) (hv : ev v = .v u) :
    OpOk P o ev H N ⟨.any, [(r, some (.map ag kts (kvSet kvs ks u)))], [r]⟩ := by
  obtain ⟨k, e, hmk⟩ := mkOf_spec hm
  refine OpOk.of_updB fun B S0 a w ρ L hw hops hrd => ?_
  have hrx := hops x (by simp [ho, Op.operands])
  have hrq := hops q (by simp [ho, Op.operands])
  have hrv := hops v (by simp [ho, Op.operands])
  rw [hx] at hrx; rw [hv] at hrv
  have hu := exact_v hrv
  have hkq := keyK_rep hq hrq
  obtain ⟨l, hl, hrow⟩ := hrd r (by simp) _ hH
  obtain ⟨b, hb, hy, es, clock, hbl, hes, hfit⟩ := map_of hrx hl hrow
  have hfind := run_find (w := w) hmk hf hes hfit
  have hlt : b < w.heap.size := (Array.getElem?_eq_some_iff.1 hbl).1
  have hlen : es.size = kvs.length := by have := congrArg List.length hes; simpa using this
  have hset := kvAt_set kvs ks 0 u
  cases hk : kvAt kvs ks 0 with
  | none =>
    rw [hk] at hset hfind
    simp only at hset
    refine ⟨l, b, .map (es.push { key := keyVal ag ks, val := u, born := clock }) (clock + 1), hl, hb, ?_, b, hb, es.push { key := keyVal ag ks, val := u, born := clock }, clock + 1, by simp [hlt], ?_, ?_⟩
    · simp only [execOp, ho, hy, hkq, hu, Instr.mapUpdate, Sem.run_bind, run_underlying hmk.und, Result.andThen_ok, MapKept.run_getObj_map hbl, run_check hmk hf, hfind, MapKept.run_setObj_map _ hbl, Sem.run_pure]
    · rw [hset]; simp only [Array.toList_push, List.map_append, hes, List.map_cons, List.map_nil]
    · rw [hset]; intro p hp
      simp only [List.mem_append, List.mem_singleton] at hp
      rcases hp with hp | rfl
      · exact hfit p hp
      · exact hf
  | some jv =>
    obtain ⟨j, v0⟩ := jv
    rw [hk] at hset hfind
    simp only [Nat.sub_zero] at hset
    obtain ⟨_, hjk⟩ := kvAt_spec kvs ks 0 j v0 hk
    simp only [Nat.sub_zero] at hjk
    have hje : ∃ e0, es[j]? = some e0 ∧ e0.key = keyVal ag ks := by
      have h1 : (es.toList.map (fun e => (e.key, e.val)))[j]? = some (keyVal ag ks, v0) := by rw [hes]; simp [hjk]
      simp only [List.getElem?_map, Option.map_eq_some_iff, Prod.mk.injEq] at h1
      obtain ⟨e0, h1, h2, _⟩ := h1
      exact ⟨e0, by simpa using h1, h2⟩
    obtain ⟨e0, he0, hke⟩ := hje
    refine ⟨l, b, .map (es.modify j fun e => { e with key := keyVal ag ks, val := u }) clock, hl, hb, ?_, b, hb, es.modify j fun e => { e with key := keyVal ag ks, val := u }, clock, by simp [hlt], ?_, ?_⟩
    · have hstay : (Instr.keyThatStays (keyVal ag ks) (keyVal ag ks)).run P w = .ok (keyVal ag ks) w := by simp [Instr.keyThatStays, sameBits_kc]
      simp only [execOp, ho, hy, hkq, hu, Instr.mapUpdate, Sem.run_bind, run_underlying hmk.und, Result.andThen_ok, MapKept.run_getObj_map hbl, run_check hmk hf, hfind, he0, Option.map_some, Option.getD_some, hke, hstay, MapKept.run_setObj_map _ hbl, Sem.run_pure]
    · rw [hset]
      apply List.ext_getElem?
      intro i
      have hi := congrArg (fun l => l[i]?) hes
      simp only [List.getElem?_map] at hi ⊢
      simp only [Array.toList_modify, List.getElem?_modify]
      by_cases hij : j = i
      · subst hij
        simp only [if_true, Option.map_map]
        have h1 : es.toList[j]? = some e0 := by simpa using he0
        rw [h1, hjk]
        simp
      · simp only [hij, if_false]
        simpa using hi
    · rw [hset]; intro p hp
      obtain ⟨i, hi⟩ := List.getElem?_of_mem hp
      rw [List.getElem?_modify] at hi
      cases hki : kvs[i]? with
      | none => rw [hki] at hi; cases hi
      | some p0 =>
        rw [hki] at hi
        have hi' : (if j = i then (ks, u) else p0) = p := by simpa using hi
        rw [← hi']
        split
        · exact hf
        · exact hfit p0 (List.mem_of_getElem? hki)
end
end Go.AM
