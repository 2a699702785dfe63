/- The abstract machine, part 4: further operations. No condition. -/
import Derived.Test.YteodgilndjjgdaaAm3
namespace Go.AM
set_option linter.unusedVariables false
set_option linter.unusedSimpArgs false

/-- Cells with some of them replaced. -/
def splice (e : List AV) (off : Nat) (cs : List AV) : List AV := e.take off ++ cs ++ e.drop (off + cs.length)

theorem splice_length {e cs : List AV} {off : Nat} (h : off + cs.length ≤ e.length) : (splice e off cs).length = e.length := by
  simp [splice]; omega

theorem splice_get {e cs : List AV} {off : Nat} (h : off + cs.length ≤ e.length) (j : Nat) :
    (splice e off cs)[j]? = if j < off then e[j]? else if j < off + cs.length then cs[j - off]? else e[j]? := by
  unfold splice
  rw [List.append_assoc, List.getElem?_append]
  simp only [List.length_take, Nat.min_eq_left (show off ≤ e.length by omega)]
  split
  · rw [List.getElem?_take, if_pos (by assumption)]
  · rw [List.getElem?_append]
    split
    · rw [if_pos (by omega)]
    · rw [if_neg (by omega), List.getElem?_drop]
      congr 1; omega

theorem storeVar_cells {P : Program} {t : TypeId} {w : World} {b off : Nat} {y : Value} {c : Array Value} {et : TypeId} (ht : tdOf P t ≠ .bad) (hsz : y.cells.toList.length = (tdOf P t).size)
    (hc : w.heap[b]? = some (.cells c et (0, 0))) (hin : off + y.cells.toList.length ≤ c.size) (h1 : ∀ u ∈ y.cells.toList, u.oneCell' = true) :
    (storeVar t ⟨b, off, none⟩ y).run P w = .ok () (w.setRow b (c.toList.take off ++ y.cells.toList ++ c.toList.drop (off + y.cells.toList.length)).toArray) := by
  unfold storeVar
  have hs : y.cells.size = (tdOf P t).size := by simpa using hsz
  have := run_storeCells_at P b off et y.cells.toList 0 c w hc (by simpa using hin) h1
  simp only [Nat.add_zero] at this
  simp [run_sizeOf ht, hs, this]

section
variable {P : Program} {o : Oper} {ev : Operand → AV} {H : Nat → Option ARow} {N : Nat}

theorem flatten_set_get {es : List (List AV)} {sz : Nat} (hsz : ∀ e ∈ es, e.length = sz) {i : Nat} (hi : i < es.length) {e' : List AV} (he' : e'.length = sz) (j : Nat) :
    (es.set i e').flatten[j]? = if i * sz ≤ j ∧ j < (i + 1) * sz then e'[j - i * sz]? else es.flatten[j]? := by
  induction es generalizing i j with
  | nil => simp at hi
  | cons x xs ih =>
    have hx : x.length = sz := hsz x (by simp)
    cases i with
    | zero =>
      simp only [List.set_cons_zero, List.flatten_cons, List.getElem?_append, he', hx, Nat.zero_mul, Nat.zero_add, Nat.one_mul, Nat.zero_le, true_and, Nat.sub_zero]
      split <;> rfl
    | succ i =>
      simp only [List.set_cons_succ, List.flatten_cons, List.getElem?_append, hx]
      have hs1 : (i + 1) * sz = i * sz + sz := by rw [Nat.succ_mul]
      have hs2 : (i + 1 + 1) * sz = i * sz + sz + sz := by rw [Nat.succ_mul, hs1]
      split
      · rw [if_neg (by omega)]
      · rename_i hj
        rw [ih (fun e h => hsz e (by simp [h])) (by simpa using hi)]
        split
        · rename_i h; rw [if_pos (by omega)]; congr 1; omega
        · rw [if_neg (by omega)]

theorem ok_store {t : TypeId} {p x : Operand} {r i off sz : Nat} {es : List (List AV)} {e cs : List AV} (ho : o.op = .store t p x) (ht : tdOf P t ≠ .bad) (hp : ev p = .ptr r i off)
    (hH : H r = some (.els sz es)) (he : es[i]? = some e) (hx : (ev x).cells = some cs) (hcs : cs.length = (tdOf P t).size) (hin : off + cs.length ≤ e.length) :
    OpOk P o ev H N ⟨.any, [(r, some (.els sz (es.set i (splice e off cs))))], [r]⟩ := by
  refine OpOk.of_upd fun B S0 a w ρ L hw hops hrd => ?_
  have hr := hops p (by simp [ho, Op.operands])
  have hrx := hops x (by simp [ho, Op.operands])
  obtain ⟨l, hl, hrow⟩ := hrd r (by simp) _ hH
  obtain ⟨b, hb⟩ := row_live hrow he
  obtain ⟨c, t', k1, k2, k3, k4⟩ := row_cells hrow he hb
  obtain ⟨hlen, hcell⟩ := cells_rep hrx hx
  rw [hp] at hr
  have hy : a.eval p = .pointer (some ⟨b, l.o + i * sz + off, none⟩) := by
    cases hr with
    | pure _ _ h => cases h
    | ptr _ _ _ y h1 h2 h3 =>
      obtain ⟨b', hb', hy⟩ := h3 l hl
      rw [hb] at hb'
      simp only [Option.some.injEq] at hb'
      subst hb'
      rw [hy, hrow.1]
  have hi : i < es.length := (List.getElem?_eq_some_iff.1 he).1
  have hsz : (i + 1) * sz = i * sz + sz := by rw [Nat.succ_mul]
  have hone : ∀ u ∈ (a.eval x).cells.toList, u.oneCell' = true := by
    intro u hu
    obtain ⟨j, hj, rfl⟩ := List.getElem_of_mem hu
    exact (hcell j _ _ (List.getElem?_eq_getElem (by omega)) (List.getElem?_eq_getElem hj)).1
  have hfit : l.o + i * sz + off + (a.eval x).cells.toList.length ≤ c.size := by rw [hlen]; omega
  refine ⟨l, b, (c.toList.take (l.o + i * sz + off) ++ (a.eval x).cells.toList ++ c.toList.drop (l.o + i * sz + off + (a.eval x).cells.toList.length)).toArray, hl, hb, ?_, ?_⟩
  · simp only [execOp, ho, Instr.storeAt, hy, Instr.sureAddr]
    have := storeVar_cells (P := P) (y := a.eval x) ht (by rw [hlen, hcs]) k1 hfit hone
    simp [this]
  · intro hkeep
    obtain ⟨h1, h2, h3, h4⟩ := hrow
    obtain ⟨c', t'', q1, q2, q3, q4⟩ := h4 b hb
    rw [k1] at q1
    simp only [Option.some.injEq, Obj.cells.injEq] at q1
    obtain ⟨rfl, rfl, _⟩ := q1
    have hsl : (splice e off cs).length = sz := by rw [splice_length hin, k3]
    refine ⟨h1, ?_, ?_, fun b' hb' => ?_⟩
    · intro e' he'
      rcases List.mem_or_eq_of_mem_set he' with h | h
      · exact h2 e' h
      · rw [h, hsl]
    · intro h0; rw [hb] at h0; cases h0
    · rw [hb] at hb'
      simp only [Option.some.injEq] at hb'
      subst hb'
      refine ⟨_, t', setRow_heap w b c _ t' (0, 0) k1, ?_, by simpa using q3, fun j av hj => ?_⟩
      · rw [← q2]
        simp only [List.size_toArray, List.length_append, List.length_take, List.length_drop, Array.length_toList]
        have := hfit
        simp only [Array.length_toList] at this
        omega
      · rw [flatten_set_get h2 hi hsl] at hj
        simp only [List.getElem?_toArray]
        have hval : ∀ k, (c.toList.take (l.o + i * sz + off) ++ (a.eval x).cells.toList ++ c.toList.drop (l.o + i * sz + off + (a.eval x).cells.toList.length))[k]? =
            if k < l.o + i * sz + off then c[k]? else if k < l.o + i * sz + off + cs.length then (a.eval x).cells.toList[k - (l.o + i * sz + off)]? else c[k]? := by
          intro k
          rw [List.append_assoc, List.getElem?_append]
          simp only [List.length_take, Nat.min_eq_left (show l.o + i * sz + off ≤ c.toList.length by simp; omega)]
          split
          · rw [List.getElem?_take, if_pos (by assumption)]; simp
          · rw [List.getElem?_append, hlen]
            split
            · rw [if_pos (by omega)]
            · rw [if_neg (by omega), List.getElem?_drop]
              simp only [Array.getElem?_toList]
              congr 1; omega
        rw [hval]
        split at hj
        · rename_i hji
          rw [splice_get hin] at hj
          split at hj
          · rw [if_pos (by omega)]
            obtain ⟨u, p1, p2, p3⟩ := q4 j av (by rw [show j = i * sz + (j - i * sz) by omega, flatten_get h2 he _ (by omega)]; exact hj)
            exact ⟨u, p1, p2, hkeep _ _ p3⟩
          · split at hj
            · rw [if_neg (by omega), if_pos (by omega)]
              have hjl : j - i * sz - off < (a.eval x).cells.toList.length := by rw [hlen]; omega
              obtain ⟨p1, p2⟩ := hcell (j - i * sz - off) av _ hj (List.getElem?_eq_getElem hjl)
              refine ⟨_, ?_, p1, hkeep _ _ p2⟩
              rw [← List.getElem?_eq_getElem hjl]
              congr 1; omega
            · rw [if_neg (by omega), if_neg (by omega)]
              obtain ⟨u, p1, p2, p3⟩ := q4 j av (by rw [show j = i * sz + (j - i * sz) by omega, flatten_get h2 he _ (by omega)]; exact hj)
              exact ⟨u, p1, p2, hkeep _ _ p3⟩
        · rename_i hji
          obtain ⟨u, p1, p2, p3⟩ := q4 j av hj
          have hno : ¬ (l.o + i * sz + off ≤ l.o + j ∧ l.o + j < l.o + i * sz + off + cs.length) := by omega
          refine ⟨u, ?_, p2, hkeep _ _ p3⟩
          split
          · exact p1
          · rw [if_neg (by omega)]; exact p1

theorem ok_notBool {t : TypeId} {x : Operand} {b : Bool} (ho : o.op = .unOp .not t x) (hx : ev x = .v (.bool b)) : OpOk P o ev H N ⟨.v (.bool !b), [], []⟩ :=
  ok_exact fun a ha w => by
    have h1 := ha x (by simp [ho, Op.operands]) _ hx
    simp only [execOp, ho, h1]; rfl

theorem ok_negInt {t : TypeId} {x : Operand} {k : IntKind} {n : Int} (ho : o.op = .unOp .neg t x) (hx : ev x = .v (.int k n)) : OpOk P o ev H N ⟨.v (.int k (k.wrap (0 - n))), [], []⟩ :=
  ok_exact fun a ha w => by
    have h1 := ha x (by simp [ho, Op.operands]) _ hx
    simp only [execOp, ho, h1]; rfl

/-- Any operation on two exact values, by its run. -/
theorem ok_bin {op : BinOp} {t ty : TypeId} {x y : Operand} {u v z : Value} (ho : o.op = .binOp op t x y ty) (hx : ev x = .v u) (hy : ev y = .v v)
    (hg : ∀ w : World, (eqGuard op t x y u v).run P w = .ok () w) (hz : ∀ w : World, (binOp op t u v).run P w = .ok z w) : OpOk P o ev H N ⟨.v z, [], []⟩ :=
  ok_exact fun a ha w => by
    have h1 := ha x (by simp [ho, Op.operands]) _ hx
    have h2 := ha y (by simp [ho, Op.operands]) _ hy
    simp [execOp, ho, h1, h2, hg, hz]

theorem ok_convert {src dst : TypeId} {x : Operand} {u z : Value} (ho : o.op = .convert src dst x) (hx : ev x = .v u)
    (hz : ∀ w : World, (convert src dst u).run P w = .ok z w) : OpOk P o ev H N ⟨.v z, [], []⟩ :=
  ok_exact fun a ha w => by
    have h1 := ha x (by simp [ho, Op.operands]) _ hx
    simp [execOp, ho, h1, hz]

theorem ok_pick {c x y : Operand} {b : Bool} (ho : o.op = .pick c x y) (hc : ev c = .v (.bool b)) : OpOk P o ev H N ⟨if b then ev x else ev y, [], []⟩ := by
  refine OpOk.of_pure fun B S0 a w ρ L hw hops hrd => ⟨if b then a.eval x else a.eval y, Or.inl ?_, ?_⟩
  · have := hops c (by simp [ho, Op.operands])
    rw [hc] at this
    have := exact_v this
    simp only [execOp, ho, this]
    cases b <;> rfl
  · cases b
    · exact hops y (by simp [ho, Op.operands])
    · exact hops x (by simp [ho, Op.operands])

theorem fieldPlace_run {w : World} {b off : Nat} {f : Field} (hs : (P.info? f.type).isSome = true) (h : P.cellsOf f.type ≠ 0) : (fieldPlace ⟨b, off, none⟩ f).run P w = .ok ⟨b, off + f.offset, none⟩ w := by
  obtain ⟨i, hi⟩ := Option.isSome_iff_exists.1 hs
  have h' : i.size ≠ 0 := by simpa [Program.cellsOf, hi] using h
  simp [fieldPlace, sizeOf, typeInfo, hi, h', Addr.add_lit]

theorem ok_fieldAddr_row {s : TypeId} {x : Operand} {f : Nat} {z : List Value} {fs : List (Nat × Nat × TypeId)} {foff fsz : Nat} {ft : TypeId} {r i off sz : Nat} {es : List (List AV)}
    (ho : o.op = .fieldAddr s x f) (ht : tdOf P s = .agg z fs) (hf : fs[f]? = some (foff, fsz, ft)) (hft : fsz ≠ 0) (hx : ev x = .ptr r i off) (hH : H r = some (.els sz es)) :
    OpOk P o ev H N ⟨.ptr r i (off + foff), [], [r]⟩ := by
  obtain ⟨info, fa, h1, h2, h3, h4, rfl, _, hall⟩ := tdOf_agg ht
  simp only [List.getElem?_map, Option.map_eq_some_iff, Prod.mk.injEq] at hf
  obtain ⟨fd, hfd, rfl, rfl, rfl⟩ := hf
  have hsome := hall fd (List.mem_of_getElem? hfd)
  refine OpOk.of_pure fun B S0 a w ρ L hw hops hrd => ?_
  have hr := hops x (by simp [ho, Op.operands])
  obtain ⟨l, hl, hrow⟩ := hrd r (by simp) _ hH
  rw [hx] at hr
  cases hr with
  | pure _ _ h => cases h
  | ptr _ _ _ y q1 q2 q3 =>
    obtain ⟨b, hb, hy⟩ := q3 l hl
    refine ⟨.pointer (some ⟨b, l.o + i * l.sz + off + fd.offset, none⟩), Or.inl ?_, .ptr _ _ _ _ q1 rfl ?_⟩
    · have hfd' : fa[f]? = some fd := by simpa using hfd
      simp [execOp, ho, hy, Instr.fieldAt, run_underlying h2, hfd', Instr.sureAddr, fieldPlace_run hsome hft]
    · intro l' hl'
      rw [hl] at hl'
      simp only [Option.some.injEq] at hl'
      subst hl'
      exact ⟨b, hb, by simp [Nat.add_assoc]⟩

theorem ok_fieldAddr_iptr {s : TypeId} {x : Operand} {f : Nat} {z : List Value} {fs : List (Nat × Nat × TypeId)} {foff fsz : Nat} {ft : TypeId} {cs : List AV}
    (ho : o.op = .fieldAddr s x f) (ht : tdOf P s = .agg z fs) (hf : fs[f]? = some (foff, fsz, ft)) (hft : fsz ≠ 0) (hx : ev x = .iptr cs) (hin : foff ≤ cs.length) :
    OpOk P o ev H N ⟨.iptr (cs.drop foff), [], []⟩ := by
  obtain ⟨info, fa, h1, h2, h3, h4, rfl, _, hall⟩ := tdOf_agg ht
  simp only [List.getElem?_map, Option.map_eq_some_iff, Prod.mk.injEq] at hf
  obtain ⟨fd, hfd, rfl, rfl, rfl⟩ := hf
  have hsome := hall fd (List.mem_of_getElem? hfd)
  refine OpOk.of_pure fun B S0 a w ρ L hw hops hrd => ?_
  have hr := hops x (by simp [ho, Op.operands])
  rw [hx] at hr
  obtain ⟨b, off, vs, hy, hS, hb, hl, hv, h⟩ := iptr_cells hr
  refine ⟨.pointer (some ⟨b, off + fd.offset, none⟩), Or.inl ?_, .pure _ _ (.iptr _ b (off + fd.offset) (vs.drop fd.offset) hS hb (by simp [hl]) ?_ ?_)⟩
  · have hfd' : fa[f]? = some fd := by simpa using hfd
    simp [execOp, ho, hy, Instr.fieldAt, run_underlying h2, hfd', Instr.sureAddr, fieldPlace_run hsome hft]
  · intro j u hj
    rw [List.getElem?_drop] at hj
    have := hv _ u hj
    rw [Nat.add_assoc]
    exact this
  · intro j c u h1 h2
    rw [List.getElem?_drop] at h1 h2
    exact h _ c u h1 h2

theorem part_run {t : TypeId} {w : World} {vs : List Value} {off : Nat} (ht : tdOf P t ≠ .bad) (hin : off + (tdOf P t).size ≤ vs.length) :
    (part t vs.toArray off).run P w = .ok (if (tdOf P t).isAgg then .agg ((vs.drop off).take (tdOf P t).size).toArray else ((vs.drop off).take (tdOf P t).size).headD undef) w := by
  unfold part
  simp only [Sem.run_bind, run_isAgg ht, Result.andThen_ok]
  split
  · simp only [Sem.run_bind, run_sizeOf ht, Result.andThen_ok, Sem.run_pure, List.extract_toArray]
    congr 3
    simp [List.extract_eq_take_drop, Nat.add_sub_cancel_left]
  · rename_i hagg
    have h1 : (tdOf P t).size = 1 := by
      cases hd : tdOf P t with
      | cell z => rfl
      | slice e => rfl
      | agg z fs => simp [hd, TD.isAgg] at hagg
      | arr z n e => simp [hd, TD.isAgg] at hagg
      | bad => exact absurd hd ht
    rw [h1] at hin ⊢
    have hlt : off < vs.length := by omega
    simp only [List.getElem?_toArray, List.getElem?_eq_getElem hlt]
    rw [List.drop_eq_getElem_cons hlt]
    rfl

theorem agg_cells {w : World} {S : Nat → Prop} {ρ : Nat → Option Loc} {L : Nat → Prop} {cs : List AV} {y : Value} (h : RepV w S ρ L (.agg cs) y) :
    ∃ vs : List Value, y = .agg vs.toArray ∧ cs.length = vs.length ∧ ∀ (i : Nat) c x, cs[i]? = some c → vs[i]? = some x → x.oneCell' = true ∧ RepV w S ρ L c x := by
  cases h with
  | pure _ _ h => cases h with
    | agg _ vs hl hc h => exact ⟨vs, rfl, hl, fun i c x h1 h2 => ⟨hc x (List.mem_of_getElem? h2), .pure _ _ (h i c x h1 h2)⟩⟩
  | agg _ vs hl hc h => exact ⟨vs, rfl, hl, fun i c x h1 h2 => ⟨hc x (List.mem_of_getElem? h2), h i c x h1 h2⟩⟩

theorem part_rep {w : World} {S : Nat → Prop} {ρ : Nat → Option Loc} {L : Nat → Prop} {cs : List AV} {vs : List Value} {td : TD} {off : Nat} (ht : td ≠ .bad) (hl : cs.length = vs.length)
    (h : ∀ (i : Nat) c x, cs[i]? = some c → vs[i]? = some x → x.oneCell' = true ∧ RepV w S ρ L c x) (hin : off + td.size ≤ cs.length) :
    RepV w S ρ L (mk td ((cs.drop off).take td.size)) (if td.isAgg then .agg ((vs.drop off).take td.size).toArray else ((vs.drop off).take td.size).headD undef) := by
  refine mk_rep ht (by rw [List.length_take, List.length_drop, Nat.min_eq_left]; omega) (by simp [hl]) ?_
  intro i c x h1 h2
  rw [List.getElem?_take] at h1 h2
  split at h1
  · rename_i hi
    rw [if_pos hi, List.getElem?_drop] at h2
    rw [List.getElem?_drop] at h1
    exact h _ c x h1 h2
  · cases h1

theorem ok_field {s : TypeId} {x : Operand} {f : Nat} {z : List Value} {fs : List (Nat × Nat × TypeId)} {foff fsz : Nat} {ft : TypeId} {cs : List AV}
    (ho : o.op = .field s x f) (ht : tdOf P s = .agg z fs) (hf : fs[f]? = some (foff, fsz, ft)) (hft : tdOf P ft ≠ .bad) (hx : ev x = .agg cs) (hin : foff + (tdOf P ft).size ≤ cs.length) :
    OpOk P o ev H N ⟨mk (tdOf P ft) ((cs.drop foff).take (tdOf P ft).size), [], []⟩ := by
  obtain ⟨info, fa, h1, h2, h3, h4, rfl, _, hall⟩ := tdOf_agg ht
  simp only [List.getElem?_map, Option.map_eq_some_iff, Prod.mk.injEq] at hf
  obtain ⟨fd, hfd, rfl, rfl, rfl⟩ := hf
  have hsome := hall fd (List.mem_of_getElem? hfd)
  refine OpOk.of_pure fun B S0 a w ρ L hw hops hrd => ?_
  have hr := hops x (by simp [ho, Op.operands])
  rw [hx] at hr
  obtain ⟨vs, hy, hl, h⟩ := agg_cells hr
  refine ⟨_, Or.inl ?_, part_rep hft hl h hin⟩
  have hfd' : fa[f]? = some fd := by simpa using hfd
  simp only [execOp, ho, hy, Instr.field, Sem.run_bind, run_underlying h2, Result.andThen_ok, hfd', asAgg, Sem.run_pure, part_run hft (hl ▸ hin)]

theorem tup_cells {w : World} {S : Nat → Prop} {ρ : Nat → Option Loc} {L : Nat → Prop} {cs : List AV} {y : Value} (h : RepV w S ρ L (.tup cs) y) :
    ∃ vs : List Value, y = .tuple vs.toArray ∧ cs.length = vs.length ∧ ∀ (i : Nat) c x, cs[i]? = some c → vs[i]? = some x → RepV w S ρ L c x := by
  cases h with
  | pure _ _ h => cases h with
    | tup _ vs hl h => exact ⟨vs, rfl, hl, fun i c x h1 h2 => .pure _ _ (h i c x h1 h2)⟩
  | tup _ vs hl h => exact ⟨vs, rfl, hl, h⟩

theorem ok_extract {x : Operand} {i : Nat} {cs : List AV} {c : AV} (ho : o.op = .extract x i) (hx : ev x = .tup cs) (hc : cs[i]? = some c) : OpOk P o ev H N ⟨c, [], []⟩ := by
  refine OpOk.of_pure fun B S0 a w ρ L hw hops hrd => ?_
  have hr := hops x (by simp [ho, Op.operands])
  rw [hx] at hr
  obtain ⟨vs, hy, hl, h⟩ := tup_cells hr
  have hi : i < vs.length := by rw [← hl]; exact (List.getElem?_eq_some_iff.1 hc).1
  refine ⟨vs[i], Or.inl ?_, h i c _ hc (List.getElem?_eq_getElem hi)⟩
  simp [execOp, ho, hy, Instr.extract, hi]

theorem ok_makeFunc {f : FuncId} {caps : Array Operand} (ho : o.op = .makeFunc (.func f) #[] caps) : OpOk P o ev H N ⟨.clo f (caps.toList.map ev), [], []⟩ := by
  refine OpOk.of_pure fun B S0 a w ρ L hw hops hrd => ⟨.func (.func f) #[] (caps.map a.eval), Or.inl ?_, ?_⟩
  · simp [execOp, ho, Instr.makeFunc]
  · have e : caps.map a.eval = (caps.toList.map a.eval).toArray := by apply Array.ext'; simp
    rw [e]
    refine .clo f _ _ (by simp) ?_
    intro i c x h1 h2
    simp only [List.getElem?_map, Option.map_eq_some_iff] at h1 h2
    obtain ⟨q, h1, rfl⟩ := h1
    obtain ⟨q', h2, rfl⟩ := h2
    rw [h1] at h2
    simp only [Option.some.injEq] at h2
    subst h2
    have hm := List.mem_of_getElem? h1
    exact hops q (by rw [ho]; show q ∈ #[] ++ caps; rw [Array.empty_append]; exact Array.mem_toList_iff.1 hm)

end
end Go.AM
