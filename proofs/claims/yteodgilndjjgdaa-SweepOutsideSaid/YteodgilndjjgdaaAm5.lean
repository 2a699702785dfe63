/- The abstract machine, part 5: slices (index, length, cut, literal, append) and calls. No condition. -/
import Derived.Test.YteodgilndjjgdaaAm4
namespace Go.AM
set_option linter.unusedVariables false
set_option linter.unusedSimpArgs false

section
variable {P : Program} {o : Oper} {ev : Operand → AV} {H : Nat → Option ARow} {N : Nat}

theorem run_indexAt_in {t e : TypeId} {w : World} {b off len cap : Nat} {k : IntKind} {i : Int} (ht : P.underlying t = some (.slice e)) (he : tdOf P e ≠ .bad) (h0 : 0 ≤ i) (h1 : i.toNat < len) :
    (Instr.indexAt t (.slice (some ⟨b, off, none⟩) len cap) (.int k i)).run P w = .ok (.pointer (some ⟨b, off + i.toNat * (tdOf P e).size, none⟩)) w := by
  have hi : 0 ≤ i ∧ i < len := ⟨h0, by omega⟩
  simp [Instr.indexAt, asIntOf, run_underlying ht, hi, run_sizeOf he, Addr.add_lit]

theorem lst_parts {w : World} {S : Nat → Prop} {ρ : Nat → Option Loc} {L : Nat → Prop} {sz : Nat} {els : List (List AV)} {x : AV} {y : Value} (hx : x = .lst sz els ∨ x = .full sz els) (h : RepV w S ρ L x y) :
    ∃ a cap, y = .slice a els.length cap ∧ els.length ≤ cap ∧ ((els = [] ) ∨ ∃ (b off : Nat) (vs : List Value), a = some ⟨b, off, none⟩ ∧ ¬ S b ∧ b < w.heap.size ∧ (∀ e ∈ els, e.length = sz) ∧ els.flatten.length = vs.length ∧
      (∀ (i : Nat) x, vs[i]? = some x → w.cell? ⟨b, off + i, none⟩ = some x ∧ x.oneCell' = true) ∧ ∀ (i : Nat) c x, els.flatten[i]? = some c → vs[i]? = some x → RepP w S c x) := by
  rcases hx with rfl | rfl
  · cases h with
    | pure _ _ h => cases h with
      | lst _ _ b off cap vs hS hb hcap hel hl hv h => exact ⟨_, cap, rfl, hcap, Or.inr ⟨b, off, vs, rfl, hS, hb, hel, hl, hv, h⟩⟩
      | lstNil _ a cap => exact ⟨a, cap, rfl, Nat.zero_le _, Or.inl rfl⟩
  · cases h with
    | pure _ _ h => cases h with
      | full _ _ b off vs hS hb hel hl hv h => exact ⟨_, els.length, rfl, Nat.le_refl _, Or.inr ⟨b, off, vs, rfl, hS, hb, hel, hl, hv, h⟩⟩

theorem ok_index_lst {t e : TypeId} {x i : Operand} {sz : Nat} {els : List (List AV)} {k : IntKind} {n : Int} {el : List AV} (ho : o.op = .indexAddr t x i) (ht : tdOf P t = .slice e) (he : (tdOf P e).size = sz) (hsz : sz ≠ 0)
    (hx : ev x = .lst sz els ∨ ev x = .full sz els) (hi : ev i = .v (.int k n)) (hn : 0 ≤ n) (hel : els[n.toNat]? = some el) : OpOk P o ev H N ⟨.iptr el, [], []⟩ := by
  obtain ⟨info, h1, h2, _⟩ := tdOf_slice ht
  have hbad : tdOf P e ≠ .bad := by intro h; rw [h] at he; exact hsz he.symm
  refine OpOk.of_pure fun B S0 a w ρ L hw hops hrd => ?_
  have hr := hops x (by simp [ho, Op.operands])
  have hri := hops i (by simp [ho, Op.operands])
  rw [hi] at hri
  have hiv := exact_v hri
  have hlt : n.toNat < els.length := (List.getElem?_eq_some_iff.1 hel).1
  obtain ⟨ad, cap, hy, hcap, hrest⟩ := lst_parts hx hr
  rcases hrest with rfl | ⟨b, off, vs, rfl, hS, hb, hall, hl, hv, h⟩
  · simp at hel
  have helen : el.length = sz := hall el (List.mem_of_getElem? hel)
  refine ⟨.pointer (some ⟨b, off + n.toNat * sz, none⟩), Or.inl ?_, .pure _ _ (.iptr el b (off + n.toNat * sz) ((vs.drop (n.toNat * sz)).take sz) hS hb ?_ ?_ ?_)⟩
  · simp only [execOp, ho, hy, hiv]
    rw [Sem.run_bind, run_indexAt_in h2 hbad hn hlt]
    simp [he]
  · rw [length_flatten hall] at hl
    have : (n.toNat + 1) * sz ≤ els.length * sz := Nat.mul_le_mul_right _ hlt
    rw [Nat.succ_mul] at this
    rw [List.length_take, List.length_drop, Nat.min_eq_left, helen]; omega
  · intro j u hj
    rw [List.getElem?_take] at hj
    split at hj
    · rw [List.getElem?_drop] at hj
      rw [Nat.add_assoc]
      exact hv _ u hj
    · cases hj
  · intro j c u hc hj
    rw [List.getElem?_take] at hj
    split at hj
    · rename_i hjs
      rw [List.getElem?_drop] at hj
      exact h _ c u (by rw [flatten_get hall hel j hjs]; exact hc) hj
    · cases hj

theorem ok_index_row {t e : TypeId} {x i : Operand} {sz r i0 len : Nat} {es : List (List AV)} {k : IntKind} {n : Int} (ho : o.op = .indexAddr t x i) (ht : tdOf P t = .slice e) (he : (tdOf P e).size = sz) (hsz : sz ≠ 0)
    (hx : ev x = .row r i0 len) (hH : H r = some (.els sz es)) (hi : ev i = .v (.int k n)) (hn : 0 ≤ n) (hlt : n.toNat < len) : OpOk P o ev H N ⟨.ptr r (i0 + n.toNat) 0, [], [r]⟩ := by
  obtain ⟨info, h1, h2, _⟩ := tdOf_slice ht
  have hbad : tdOf P e ≠ .bad := by intro h; rw [h] at he; exact hsz he.symm
  refine OpOk.of_pure fun B S0 a w ρ L hw hops hrd => ?_
  have hr := hops x (by simp [ho, Op.operands])
  have hri := hops i (by simp [ho, Op.operands])
  rw [hi] at hri
  have hiv := exact_v hri
  obtain ⟨l, hl, hrow⟩ := hrd r (by simp) _ hH
  rw [hx] at hr
  cases hr with
  | pure _ _ h => cases h
  | row _ _ _ y q1 q2 q3 =>
    obtain ⟨q4, q5⟩ := q3 l hl
    cases hb : l.b with
    | none => have := (q4 hb).2.1; omega
    | some b =>
      obtain ⟨off, cap, hy, hcap, hoff⟩ := q5 b hb
      obtain ⟨rfl, _⟩ := hoff.resolve_left (by omega)
      refine ⟨.pointer (some ⟨b, l.o + (i0 + n.toNat) * sz, none⟩), Or.inl ?_, .ptr _ _ _ _ q1 rfl ?_⟩
      · simp only [execOp, ho, hy, hiv]
        rw [Sem.run_bind, run_indexAt_in h2 hbad hn hlt]
        simp [he, hrow.1, Nat.add_mul, Nat.add_assoc]
      · intro l' hl'
        rw [hl] at hl'
        simp only [Option.some.injEq] at hl'
        subst hl'
        exact ⟨b, hb, by rw [hrow.1]; simp⟩

theorem ok_len_lst {t e ty : TypeId} {x : Operand} {sz : Nat} {els : List (List AV)} (ho : o.op = .call { callee := .builtin .len, args := #[x], argTypes := #[t] }) (ht : tdOf P t = .slice e)
    (hx : ev x = .lst sz els ∨ ev x = .full sz els) : OpOk P o ev H N ⟨.v (.int .i64 els.length), [], []⟩ := by
  obtain ⟨info, h1, h2, _⟩ := tdOf_slice ht
  refine OpOk.of_pure fun B S0 a w ρ L hw hops hrd => ?_
  have hr := hops x (by simp [ho, Op.operands, Call.operands])
  obtain ⟨ad, cap, hy, _⟩ := lst_parts hx hr
  refine ⟨.int .i64 els.length, Or.inl ?_, .pure _ _ (.v _)⟩
  simp [execOp, ho, resolve, invoke, builtin, Builtin.len_, hy, run_underlying h2, goInt]

theorem ok_len_row {t e : TypeId} {x : Operand} {sz r i n : Nat} {es : List (List AV)} (ho : o.op = .call { callee := .builtin .len, args := #[x], argTypes := #[t] }) (ht : tdOf P t = .slice e)
    (hx : ev x = .row r i n) (hH : H r = some (.els sz es)) : OpOk P o ev H N ⟨.v (.int .i64 n), [], [r]⟩ := by
  obtain ⟨info, h1, h2, _⟩ := tdOf_slice ht
  refine OpOk.of_pure fun B S0 a w ρ L hw hops hrd => ?_
  have hr := hops x (by simp [ho, Op.operands, Call.operands])
  obtain ⟨l, hl, hrow⟩ := hrd r (by simp) _ hH
  rw [hx] at hr
  have : ∃ ad cap, a.eval x = .slice ad n cap := by
    cases hr with
    | pure _ _ h => cases h
    | row _ _ _ y q1 q2 q3 =>
      obtain ⟨q4, q5⟩ := q3 l hl
      cases hb : l.b with
      | none => obtain ⟨rfl', rfl, rfl⟩ := q4 hb; exact ⟨none, 0, rfl'⟩
      | some b => obtain ⟨off, cap, hy, _⟩ := q5 b hb; exact ⟨_, cap, hy⟩
  obtain ⟨ad, cap, hy⟩ := this
  refine ⟨.int .i64 n, Or.inl ?_, .pure _ _ (.v _)⟩
  simp [execOp, ho, resolve, invoke, builtin, Builtin.len_, hy, run_underlying h2, goInt]

theorem ok_len_nil {t e : TypeId} {x : Operand} (ho : o.op = .call { callee := .builtin .len, args := #[x], argTypes := #[t] }) (ht : tdOf P t = .slice e)
    (hx : ev x = .v (.slice none 0 0)) : OpOk P o ev H N ⟨.v (.int .i64 0), [], []⟩ := by
  obtain ⟨info, h1, h2, _⟩ := tdOf_slice ht
  refine ok_exact fun a ha w => ?_
  have hy := ha x (by simp [ho, Op.operands, Call.operands]) _ hx
  simp [execOp, ho, resolve, invoke, builtin, Builtin.len_, hy, run_underlying h2, goInt]

/-- A literal of a slice: its elements' cells. -/
def litEls (ev : Operand → AV) (sz : Nat) : List (Nat × Operand) → Nat → Option (List (List AV))
  | [], _ => some []
  | (i, x) :: rest, k => if i = k then match (ev x).cells with
      | some cs => if cs.length = sz then (litEls ev sz rest (k + 1)).map (cs :: ·) else none
      | none => none
    else none

theorem foldl_set {α : Type} (vs : List α) (off : Nat) : ∀ (k : Nat) (acc : Array α), (vs.zipIdx k).foldl (fun cs (p : α × Nat) => cs.setIfInBounds (off + p.2) p.1) acc =
    ((List.range vs.length).foldl (fun (cs : Array α) j => match vs[j]? with | some v => cs.setIfInBounds (off + k + j) v | none => cs) acc) := by
  induction vs with
  | nil => intro k acc; rfl
  | cons v vs ih =>
    intro k acc
    simp only [List.zipIdx_cons, List.foldl_cons, List.length_cons, List.range_succ_eq_map, List.foldl_map, List.getElem?_cons_zero, List.getElem?_cons_succ, Nat.add_zero]
    rw [ih (k + 1)]
    congr 1
    funext cs j
    cases vs[j]? with
    | none => rfl
    | some u => simp only []; congr 1; omega

/-- What a run of stores into an array leaves. -/
theorem foldl_zipIdx_get {α : Type} (vs : List α) (off : Nat) : ∀ (k : Nat) (acc : Array α), off + k + vs.length ≤ acc.size →
    ((vs.zipIdx k).foldl (fun cs (p : α × Nat) => cs.setIfInBounds (off + p.2) p.1) acc).toList = acc.toList.take (off + k) ++ vs ++ acc.toList.drop (off + k + vs.length) := by
  induction vs with
  | nil => intro k acc h; simp
  | cons v vs ih =>
    intro k acc h
    simp only [List.length_cons] at h
    simp only [List.zipIdx_cons, List.foldl_cons]
    rw [ih (k + 1) _ (by simp; omega)]
    apply List.ext_getElem?
    intro j
    simp only [Array.toList_setIfInBounds, List.getElem?_append, List.length_append, List.length_take, List.length_set, Array.length_toList, List.getElem?_take, List.getElem?_drop, List.getElem?_set, List.length_cons]
    rw [Nat.min_eq_left (by omega), Nat.min_eq_left (by omega)]
    by_cases h1 : j < off + k
    · simp [h1, show j < off + (k + 1) + vs.length by omega, show j < off + (k + 1) by omega, show ¬ off + k = j by omega, show j < off + k + (vs.length + 1) by omega]
    · by_cases h2 : j = off + k
      · subst h2
        simp [show off + k < off + (k + 1) + vs.length by omega, show off + k < off + (k + 1) by omega, show off + k < acc.size by omega]
      · by_cases h3 : j < off + (k + 1) + vs.length
        · simp [h1, h3, show ¬ j < off + (k + 1) by omega, show j < off + k + (vs.length + 1) by omega]
          rw [show j - (off + k) = j - (off + (k + 1)) + 1 by omega, List.getElem?_cons_succ]
        · simp [h1, h3, show ¬ j < off + k + (vs.length + 1) by omega, show ¬ off + k = off + (k + 1) + vs.length + (j - (off + (k + 1) + vs.length)) by omega]
          congr 1; omega

theorem fill_lit {w : World} {S : Nat → Prop} {ρ : Nat → Option Loc} {L : Nat → Prop} {ev : Operand → AV} {a : Act} {sz : Nat} : ∀ (parts : List (Nat × Operand)) (k : Nat) (els : List (List AV)) (acc : Array Value),
    litEls ev sz parts k = some els → (∀ p ∈ parts, RepV w S ρ L (ev p.2) (a.eval p.2)) → acc.size = (k + parts.length) * sz →
    ∃ vs : List Value, Instr.fill (fun i => some (i * sz, sz)) acc (parts.map fun (p : Nat × Operand) => (p.1, a.eval p.2)) = some (acc.toList.take (k * sz) ++ vs).toArray ∧ vs.length = els.flatten.length ∧
      (∀ e ∈ els, e.length = sz) ∧ els.length = parts.length ∧ ∀ (i : Nat) c x, els.flatten[i]? = some c → vs[i]? = some x → x.oneCell' = true ∧ RepV w S ρ L c x := by
  intro parts
  induction parts with
  | nil =>
    intro k els acc h1 _ h3
    simp only [litEls, Option.some.injEq] at h1
    subst h1
    refine ⟨[], ?_, rfl, by simp, rfl, by simp⟩
    simp only [List.map_nil, Instr.fill, List.append_nil, Option.some.injEq]
    simp only [List.length_nil, Nat.add_zero] at h3
    rw [← h3, ← Array.length_toList, List.take_length]
  | cons p parts ih =>
    intro k els acc h1 h2 h3
    obtain ⟨i, x⟩ := p
    simp only [litEls] at h1
    split at h1
    · rename_i hik
      subst hik
      split at h1
      · rename_i cs hcs
        split at h1
        · rename_i hlen
          simp only [Option.map_eq_some_iff] at h1
          obtain ⟨els', hels, rfl⟩ := h1
          obtain ⟨c1, c2⟩ := cells_rep (h2 (i, x) (by simp)) hcs
          have hsize : (a.eval x).cells.size = sz := by rw [← hlen, ← c1, Array.length_toList]
          have hk : (i + 1) * sz = i * sz + sz := Nat.succ_mul _ _
          have hfit : i * sz + (a.eval x).cells.toList.length ≤ acc.size := by
            rw [h3, Array.length_toList, hsize]
            have : (i + 1) * sz ≤ (i + ((i, x) :: parts).length) * sz := Nat.mul_le_mul_right _ (by simp)
            omega
          have hz := foldl_zipIdx_get (a.eval x).cells.toList (i * sz) 0 acc (by simpa using hfit)
          simp only [Nat.add_zero] at hz
          obtain ⟨vs, q1, q2, q3, q4, q5⟩ := ih (i + 1) els' (((a.eval x).cells.toList.zipIdx 0).foldl (fun cs (p : Value × Nat) => cs.setIfInBounds (i * sz + p.2) p.1) acc) hels (fun p hp => h2 p (by simp [hp])) (by
            rw [← Array.length_toList, hz]
            simp only [List.length_append, List.length_take, List.length_drop, Array.length_toList]
            simp only [Array.length_toList] at hfit
            rw [Nat.min_eq_left (by omega)]
            simp only [List.length_cons] at h3
            rw [show i + 1 + parts.length = i + (parts.length + 1) by omega, ← h3]; omega)
          refine ⟨(a.eval x).cells.toList ++ vs, ?_, by simp [q2, c1], ?_, by simp [q4], ?_⟩
          · simp only [List.map_cons, Instr.fill]
            rw [if_neg (by rw [hsize]; simp only [Array.length_toList, hsize] at hfit; simp; omega)]
            have hfold : (a.eval x).cells.zipIdx.foldl (fun cs (p : Value × Nat) => cs.setIfInBounds (i * sz + p.2) p.1) acc = ((a.eval x).cells.toList.zipIdx 0).foldl (fun cs (p : Value × Nat) => cs.setIfInBounds (i * sz + p.2) p.1) acc := by
              rw [← Array.foldl_toList, Array.toList_zipIdx]
            have hfold' : (a.eval x).cells.zipIdx.foldl (fun cs x => match x with | (c, j) => cs.setIfInBounds (i * sz + j) c) acc = ((a.eval x).cells.toList.zipIdx 0).foldl (fun cs (p : Value × Nat) => cs.setIfInBounds (i * sz + p.2) p.1) acc := hfold
            rw [hfold', q1]
            congr 2
            rw [hz, hk]
            rw [List.take_append_of_le_length (by simp [hsize]; simp only [Array.length_toList, hsize] at hfit; omega)]
            rw [List.take_of_length_le (by simp [hsize]; simp only [Array.length_toList, hsize] at hfit; omega), List.append_assoc]
          · intro e he
            simp only [List.mem_cons] at he
            rcases he with rfl | he
            · exact hlen
            · exact q3 e he
          · intro j c u hj hu
            simp only [List.flatten_cons, List.getElem?_append] at hj hu
            rw [c1] at hu
            split at hj
            · rename_i hjl
              rw [if_pos hjl] at hu
              exact c2 j c u hj hu
            · rename_i hjl
              rw [if_neg hjl] at hu
              exact q5 _ c u hj hu
        · cases h1
      · cases h1
    · cases h1

end

/-- No reference to a row (looked for so deep). -/
def AV.noRef : Nat → AV → Bool
  | _, .v _ => true
  | _, .any => true
  | _, .lst _ _ => true
  | _, .full _ _ => true
  | _, .iptr _ => true
  | _, .mpc _ _ _ => true
  | n + 1, .agg cs => cs.all (AV.noRef n)
  | n + 1, .tup cs => cs.all (AV.noRef n)
  | n + 1, .clo _ cs => cs.all (AV.noRef n)
  | _, _ => false

theorem noRef_rep {w : World} {S : Nat → Prop} {ρ : Nat → Option Loc} {L : Nat → Prop} : ∀ (n : Nat) (x : AV) (y : Value), x.noRef n = true → RepV w S ρ L x y → RepP w S x y := by
  intro n
  induction n with
  | zero =>
    intro x y h1 h2
    cases h2 <;> first | assumption | simp [AV.noRef] at h1
  | succ n ih =>
    intro x y h1 h2
    cases h2 with
    | pure _ _ h => exact h
    | row => simp [AV.noRef] at h1
    | ptr => simp [AV.noRef] at h1
    | mp => simp [AV.noRef] at h1
    | agg cs vs hl hc h =>
      simp only [AV.noRef, List.all_eq_true] at h1
      exact .agg cs vs hl hc (fun i c x k1 k2 => ih c x (h1 c (List.mem_of_getElem? k1)) (h i c x k1 k2))
    | tup cs vs hl h =>
      simp only [AV.noRef, List.all_eq_true] at h1
      exact .tup cs vs hl (fun i c x k1 k2 => ih c x (h1 c (List.mem_of_getElem? k1)) (h i c x k1 k2))
    | clo f cs vs hl h =>
      simp only [AV.noRef, List.all_eq_true] at h1
      exact .clo f cs vs hl (fun i c x k1 k2 => ih c x (h1 c (List.mem_of_getElem? k1)) (h i c x k1 k2))
    | mayT => simp [AV.noRef] at h1
    | mayF => simp [AV.noRef] at h1

section
variable {P : Program} {o : Oper} {ev : Operand → AV} {H : Nat → Option ARow} {N : Nat}

theorem ok_buildSlice {t e : TypeId} {parts : Array (Nat × Operand)} {sz : Nat} {els : List (List AV)} (ho : o.op = .buildSlice t parts.toList.length parts) (ht : tdOf P t = .slice e) (he : (tdOf P e).size = sz) (hsz : sz ≠ 0)
    (hsmall : parts.toList.length * sz ≤ 16777216) (hlit : litEls ev sz parts.toList 0 = some els) (hpure : ∀ el ∈ els, ∀ c ∈ el, c.noRef 2 = true) : OpOk P o ev H N ⟨.full sz els, [], []⟩ := by
  obtain ⟨info, h1, h2, _⟩ := tdOf_slice ht
  have hbad : tdOf P e ≠ .bad := by intro h; rw [h] at he; exact hsz he.symm
  refine OpOk.of_lit fun B S0 a w ρ L hw hops => ?_
  obtain ⟨z, hz, hzc, hzl, hz1⟩ := run_zero (P := P) (t := e) (w := w) hbad
  let zc : Array Value := if parts.toList.length * sz = 0 then #[] else z.cells
  let acc : Array Value := (Array.range (parts.toList.length * sz)).map (zc[· % zc.size]!)
  obtain ⟨vs, q1, q2, q3, q4, q5⟩ := fill_lit (w := w) (S := Sx S0 ρ) (ρ := ρ) (L := L) (a := a) parts.toList 0 els acc hlit (by
    intro p hp
    refine hops p.2 ?_
    rw [ho]
    simp only [Op.operands, List.mem_toArray, List.mem_map]
    exact ⟨p, hp, rfl⟩) (by simp [acc])
  simp only [Nat.zero_mul, List.take_zero, List.nil_append] at q1
  refine ⟨.slice (some ⟨w.heap.size, 0, none⟩) els.length els.length, .cells vs.toArray e, ?_, ?_⟩
  · have hmap : (parts.map fun (p : Nat × Operand) => (p.1, a.eval p.2)).toList = parts.toList.map fun (p : Nat × Operand) => (p.1, a.eval p.2) := by simp
    have hmap' : (parts.map fun x => match x with | (i, x) => (i, a.eval x)) = parts.map fun (p : Nat × Operand) => (p.1, a.eval p.2) := rfl
    have hb : ¬ parts.toList.length * sz > 2 ^ 24 := by omega
    simp only [execOp, ho, Instr.buildSlice, hmap']
    simp only [Sem.run_bind, run_underlying h2, Result.andThen_ok, run_sizeOf hbad, he, hb, if_false, hmap]
    by_cases h0 : parts.toList.length * sz = 0
    · have hzc' : zc = #[] := by simp only [zc, if_pos h0]
      simp only [h0, if_true, pure_bind]
      have hacc : acc = Array.map (fun x => (#[] : Array Value)[x % (#[] : Array Value).size]!) (Array.range 0) := by simp only [acc, hzc', h0]
      rw [← hacc, q1, q4]
      simp [newRow]
    · have hzc' : zc = z.cells := by simp only [zc, if_neg h0]
      simp only [h0, if_false, bind_assoc, pure_bind]
      simp only [Sem.run_bind, hz, Result.andThen_ok]
      have hacc : acc = Array.map (fun x => z.cells[x % z.cells.size]!) (Array.range (parts.toList.length * sz)) := by simp only [acc, hzc']
      rw [← hacc, q1, q4]
      simp [newRow]
  · intro hns hkeep
    refine .pure _ _ (.full sz els w.heap.size 0 vs hns (by simp) q3 q2.symm ?_ ?_)
    · intro i x hx
      have hi : i < els.flatten.length := by rw [← q2]; exact (List.getElem?_eq_some_iff.1 hx).1
      refine ⟨?_, (q5 i _ x (List.getElem?_eq_getElem hi) hx).1⟩
      have hnew := heap_alloc_new w (.cells vs.toArray e)
      unfold World.cell?
      simp only [hnew, Option.isSome_none, Bool.false_eq_true, if_false, Nat.zero_add, List.getElem?_toArray]
      exact hx
    · intro i c x hc hx
      have := hkeep _ _ (q5 i c x hc hx).2
      refine noRef_rep 2 c x ?_ this
      have hm := List.mem_of_getElem? hc
      rw [List.mem_flatten] at hm
      obtain ⟨el, hel, hcel⟩ := hm
      exact hpure el hel c hcel

/-- A CALL THAT ONLY COMPUTES, had by content: in whatever world, for whatever values stand for 'args', it hands back one that stands for 'res', and every block that was there is as it was. -/
def PureCall (P : Program) (f : FuncId) (args : List AV) (res : AV) : Prop :=
  ((∀ (w : World) (vs : Array Value), (callFunc f vs).run P w = .ok (.enter f vs) w) ∧
    ∀ (S0 : Nat → Prop) (w : World) (vs : List Value), (∀ b, S0 b → b < w.heap.size) → args.length = vs.length → (∀ (i : Nat) c x, args[i]? = some c → vs[i]? = some x → RepP w S0 c x) →
      Calls P f vs.toArray w fun e w' => ∃ v, e = .returned v ∧ RepP w' S0 res v ∧ Ext (fun _ => False) w w') ∨
  (∀ (S0 : Nat → Prop) (w : World) (vs : List Value), args.length = vs.length → (∀ (i : Nat) c x, args[i]? = some c → vs[i]? = some x → RepP w S0 c x) →
    ∃ v, (callFunc f vs.toArray).run P w = .ok (.value v) w ∧ RepP w S0 res v)

theorem clo_cells {w : World} {S : Nat → Prop} {ρ : Nat → Option Loc} {L : Nat → Prop} {f : FuncId} {cs : List AV} {y : Value} (h : RepV w S ρ L (.clo f cs) y) :
    ∃ vs : List Value, y = .func (.func f) #[] vs.toArray ∧ cs.length = vs.length ∧ ∀ (i : Nat) c x, cs[i]? = some c → vs[i]? = some x → RepV w S ρ L c x := by
  cases h with
  | pure _ _ h => cases h with
    | clo _ _ vs hl h => exact ⟨vs, rfl, hl, fun i c x h1 h2 => .pure _ _ (h i c x h1 h2)⟩
  | clo _ _ vs hl h => exact ⟨vs, rfl, hl, h⟩

end
end Go.AM
