/- Walks: a branch of the search: a call whose panics are caught. -/
import Derived.Test.YtmenlmioccciiaaZE
import Derived.Recover
set_option maxRecDepth 10000
set_option maxHeartbeats 8000000
set_option linter.unusedVariables false
set_option linter.unusedSimpArgs false
namespace Go.AM
open Go.Proofs
section
variable {P : Program}
/-- The marks are taken by a panic. -/
theorem leaves_marksP {fn : Func} {tmps : Array Value} {R : Ending → World → Prop} {ch : List PanicEntry} : ∀ (Ds : List Nat) (w' : World), Ds.Nodup → (∀ D ∈ Ds, w'.heap[D]? = some (.deferred (some []))) →
    (∀ w'', Ext (fun b => b ∈ Ds) w' w'' → w''.heap.size = w'.heap.size → R (.panicked ch) w'') → LeavesInM Fence.wide 0 P fn tmps R (Ds.map markOf) (.panicking ch) w'
  | [], w', _, _, h => h w' (Ext.refl _ _) rfl
  | D :: Ds, w', hn, hD, h => by
    rw [List.nodup_cons] at hn
    refine ⟨by simp, Or.inl ⟨D, _, rfl, run_takeDeferred (hD D (by simp)), ?_⟩⟩
    refine leaves_marksP Ds _ hn.2 (fun D' hD' => ?_) (fun w'' hx hs => h w'' ?_ ?_)
    · rw [World.putObj_heap_other (fun e => hn.1 (by rw [← e]; exact hD'))]
      exact hD D' (by simp [hD'])
    · exact (ext_putObj (B := fun b => b ∈ D :: Ds) (by simp) (by intro c t s h; rw [hD D (by simp)] at h; cases h)).trans (hx.mono fun b _ hb => by simp [hb])
    · rw [hs]; simp

/-- A call that is given rows of the caller's, and panics. -/
def MutPanic (P : Program) (f : FuncId) (args : List AV) (Hk : Hp) (v : Value) (Hk' : Hp) : Prop :=
  Hk.length = Hk'.length ∧
    ∀ (S0 : Nat → Prop) (w : World) (ρ : Nat → Option AM.Loc) (vs : List Value), Held S0 w ρ Hk → args.length = vs.length →
      (∀ (i : Nat) c x, args[i]? = some c → vs[i]? = some x → RepV w (Sx S0 ρ) ρ (fun r => r < Hk.length) c x) →
      Calls P f vs.toArray w fun e w' => e = .panicked [{ v := v, recovered := false }] ∧ ∃ ρ', Held S0 w' ρ' Hk' ∧
        (∀ r l, r < Hk.length → ρ' r = some l → ρ r = some l) ∧ (∀ b, own ρ' b → own ρ b ∨ w.heap.size ≤ b) ∧ Ext (own ρ) w w'

def endP (pins : List Nat) (T0 : Tm) (H0 : Hp) (H' : Hp) (T : Tm) (H : Hp) : Prop :=
  ∃ g, nodupB g = true ∧ look (renT g T) 999999 = look T 999999 ∧ renH H g = H' ∧ pinL T0 H0 (renT g T) H' 0 pins
def retP (pins : List Nat) (T0 : Tm) (H0 : Hp) (v : Value) (H' : Hp) : Exit → Tm → Hp → Prop
  | .panic ch, T, H => ch = [{ v := v, recovered := false }] ∧ endP pins T0 H0 H' T H
  | _, _, _ => False

theorem MutPanic.of_bodyG {f : FuncId} {fn : Func} {c : Code} {args : List AV} {Hk : Hp} {v : Value} {Hk' : Hp} (pins : List Nat) (hf : P.funcs[f]? = some fn) (hb : fn.body = some c) (hnt : args.length ≤ fn.ntmps) (hlk : Hk.length = Hk'.length) (hpl : pins.length = Hk.length)
    (h : ∀ J : Jt, JC true J → GWp P none J fn.ntmps pins c (argT 0 args) Hk (retP pins (argT 0 args) Hk v Hk')) : MutPanic P f args Hk v Hk' := by
  refine ⟨hlk, ?_⟩
  intro S0 w ρ vs hh hlen hrep
  refine callsIn_wide.1 (callsIn_of_wp_marks (n := 0) (F := Fence.wide) hf hb trivial ?_)
  have hsize : vs.toArray.size = args.length := by simp [hlen]
  let J : Jt := JR true w S0 (fun b => w.heap[b]?) (fun b => own ρ b ∨ w.heap.size ≤ b)
  have hJ : JC true J := ⟨w, S0, _, _, fun b h => Or.inr h, hh.wf.low, rfl⟩
  obtain ⟨tm, htm⟩ : ∃ tm, tm = vs.toArray ++ Array.replicate (fn.ntmps - vs.toArray.size) undef := ⟨_, rfl⟩
  have htmps : ∀ t, RepV w (Sx S0 ρ) ρ (fun r => r < (Hk).length) (look (argT 0 args) t) (tm.getD t undef) := by
    intro t
    rw [look_argT']
    cases hx : args[t]? with
    | none => exact .pure _ _ (.any _)
    | some x =>
      have ht : t < args.length := (List.getElem?_eq_some_iff.1 hx).1
      have ht' : t < vs.length := by omega
      have hget : tm.getD t undef = vs[t] := by
        rw [htm, Array.getD_eq_getD_getElem?, Array.getElem?_append_left (by simpa using ht')]
        simp [ht']
      rw [hget]
      exact hrep t x _ hx (List.getElem?_eq_getElem ht')
  have hst : SG J fn.ntmps pins (fun t => tm.getD t undef) (argT 0 args) (Hk) { tmps := vs.toArray ++ Array.replicate (fn.ntmps - vs.toArray.size) undef, defers := [] } w := by
    rw [← htm]
    refine ⟨⟨S0, ρ, fun r => r < (Hk).length, ⟨hh.wf, ?_, rfl, htmps, hh.rows, hh.dead⟩, fun r hr => hr, ⟨fun b h => ⟨h, hh.wf.low b h, rfl⟩, Ext.refl _ _, fun b hb => Or.inl hb⟩, [], rfl, List.nodup_nil, by simp⟩, fun t _ => rfl⟩
    show tm.size = fn.ntmps
    rw [htm, Array.size_append, Array.size_replicate, hsize]; omega
  refine wpIn_mono (h J hJ hJ.ok (fun t => tm.getD t undef) _ w hst) ?_
  rintro e a' w' ⟨T', H', q, hsg⟩
  have hfin : ∀ ch, ch = [{ v := v, recovered := false }] → endP pins (argT 0 args) (Hk) (Hk') T' H' → LeavesInM Fence.wide 0 P fn a'.tmps (fun e w' => e = .panicked [{ v := v, recovered := false }] ∧ ∃ ρ', Held S0 w' ρ' (Hk') ∧
        (∀ r l, r < Hk.length → ρ' r = some l → ρ r = some l) ∧ (∀ b, own ρ' b → own ρ b ∨ w.heap.size ≤ b) ∧ Ext (own ρ) w w') a'.defers (.panicking ch) w' := by
    rintro ch rfl ⟨g, hgn, hgy, hH, hpin⟩
    have hsg' := hsg.sub hJ.ok ⟨sub_renM g hgn, hgy⟩
    rw [hH] at hsg'
    obtain ⟨H2, hH2⟩ : ∃ H2, H2 = Hk' := ⟨_, rfl⟩
    rw [← hH2] at hsg' hpin
    clear hH
    have hH := hH2
    generalize renT g T' = T' at hsg' hpin
    obtain ⟨⟨S1, ρ1, L1, hc1, hL1, ⟨hj1, hj2, hj3⟩, Ds, hds, hnd, hDs⟩, hkeep⟩ := hsg'
    rw [hds]
    refine leaves_marksP Ds w' hnd (fun D hD => (hDs D hD).2.2) (fun w'' hx hsz => ?_)
    have hc2 : Core anyB S1 fn.ntmps w'' ρ1 L1 (look T') (hget H2) (bare a') := hc1.foreign hx.size (fun b hb hn => hx.block b hb (fun hD => hn (hDs b hD).1)) (fun b hb => ⟨by rw [hsz]; exact hc1.wf.low b hb, Or.inl hb⟩)
    have hSx : ∀ b, ¬ Sx S1 ρ1 b → ¬ Sx S0 ρ1 b := by
      rintro b hn (h | h)
      · exact hn (Or.inl (hj1 b h).1)
      · exact hn (Or.inr h)
    have hLb : ∀ r, L1 r → r < (Hk').length := fun r hr => by rw [← hH]; exact hL1 r hr
    have hrows : ∀ r row, hget (Hk') r = some row → ∃ l, ρ1 r = some l ∧ RowRep w'' (Sx S0 ρ1) ρ1 (fun r => r < (Hk').length) l row := by
      intro r row hr
      obtain ⟨l, g1, g2⟩ := hc2.rows r row (by rw [hH]; exact hr)
      exact ⟨l, g1, g2.ext (Nat.le_refl _) (fun b _ hn => ⟨rfl, hSx b hn⟩) hLb (fun r l _ h => h) (fun _ _ => rfl)⟩
    have hold : ∀ b, b < w.heap.size → ¬ own ρ b → w''.heap[b]? = w.heap[b]? := by
      intro b hb hno
      rw [hx.block b (Nat.lt_of_lt_of_le hb hj2.size) (fun hD => ?_), hj2.block b hb (by rintro (h | h); exact hno h; omega)]
      have := (hDs b hD).2.1.2
      omega
    have hcells : ∀ (b : Nat) c t s, w.heap[b]? = some (Obj.cells c t s) → ∃ c' t' s', w''.heap[b]? = some (Obj.cells c' t' s') ∧ c'.size = c.size := (hj2.trans (hx.mono (M' := fun b => own ρ b ∨ w.heap.size ≤ b) (fun b _ hD => Or.inr (hDs b hD).2.1.2))).cells
    refine ⟨rfl, ρ1, ⟨⟨hc2.wf.inj, fun r l b g1 g2 => ?_, fun r l g1 => hLb r (hc2.wf.given r l g1), fun b hb => ?_, fun _ _ => trivial⟩, hrows, fun r hr => hc2.dead r (by rw [hH]; exact hr)⟩, ?_, hj3, ?_⟩
    · obtain ⟨g3, g4, _⟩ := hc2.wf.own r l b g1 g2
      exact ⟨g3, fun h => g4 (hj1 b h).1, trivial⟩
    · exact Nat.lt_of_lt_of_le (hj1 b hb).2.1 (Nat.le_of_eq hsz.symm)
    · intro r l' hrk hl'
      obtain ⟨t, ht⟩ : ∃ t, pins[r]? = some t := ⟨_, List.getElem?_eq_getElem (by omega)⟩
      obtain ⟨p1, p2, p3⟩ := pinL_at hpin ht
      rw [Nat.zero_add] at p1 p3
      have hv := hc2.tmps t
      rw [p2] at hv
      have hk := hkeep t (List.mem_of_getElem? ht)
      have hv' : (bare a').tmps.getD t undef = tm.getD t undef := hk
      rw [hv'] at hv
      cases h0 : hget (Hk) r with
      | none => rw [h0] at p3; simp only [sameSz] at p3
      | some row =>
        cases row with
        | map => 
          rw [h0] at p3
          cases h8 : hget H2 r with
          | none => have := hc2.dead r h8; rw [this] at hl'; cases hl'
          | some row' => rw [h8] at p3; simp only [sameSz] at p3
        | itr =>
          rw [h0] at p3
          cases h8 : hget H2 r with
          | none => have := hc2.dead r h8; rw [this] at hl'; cases hl'
          | some row' => rw [h8] at p3; simp only [sameSz] at p3
        | els sz es =>
          rw [h0] at p3
          cases h8 : hget H2 r with
          | none => have := hc2.dead r h8; rw [this] at hl'; cases hl'
          | some row' =>
            rw [h8] at p3
            cases row' with
            | map => simp only [sameSz] at p3
            | itr => simp only [sameSz] at p3
            | els sz' es' =>
              simp only [sameSz] at p3
              subst p3
              obtain ⟨l, g1, g2⟩ := hh.rows r _ h0
              obtain ⟨l2, g3, g4⟩ := hc2.rows r _ h8
              rw [hl'] at g3
              simp only [Option.some.injEq] at g3
              subst g3
              rw [pin_loc p1 (htmps t) hv g1 hl' g2 g4 hcells (fun b hb hn => hold b hb (fun ⟨r, l, k1, k2⟩ => hn (Or.inr ⟨r, l, k1, k2⟩)))]; exact g1
    · have he := hj2.trans (hx.mono (M' := fun b => own ρ b ∨ w.heap.size ≤ b) (fun b _ hD => Or.inr (hDs b hD).2.1.2))
      exact ⟨he.os, he.tape, he.output, he.size, hold, he.cells⟩
  cases e with
  | ret => exact q.elim
  | normal => exact q.elim
  | exit id => exact q.elim
  | goto l => exact q.elim
  | panic ch => exact hfin ch q.1 q.2
  | outgrown => exact q.elim

theorem SG.putAny {J : Jt} (hJ : JOk J) {nt : Nat} {kp : List Nat} {kv : Nat → Value} {T : Tm} {H : Hp} {a : Act} {w : World} (hs : SG J nt kp kv T H a w) (hnt : nt ≤ 999999) {d : Tmp} {v : Value} (hd : d < nt) (hk : ∀ t ∈ kp, d ≠ t) : SG J nt kp kv (putT T (some d) .any) H (a.put (some d) v) w := by
  obtain ⟨⟨S0, ρ, L, hc, hL, hj, hm⟩, hkp⟩ := hs
  exact SG.post (e := ⟨.any, [], []⟩) hJ hc hL hj hm hkp hnt (post_skip hc.wf (.pure _ _ (.any _))) (fun d' e => by cases e; exact hd) (fun d' e => by cases e; exact hk) trivial rfl

theorem gwp_panic3 {J : Jt} {nt : Nat} {kp : List Nat} {T : Tm} {H : Hp} {Q : Exit → Tm → Hp → Prop} {id : Nat} {o1 o2 o3 : Oper} {d1 d2 : Tmp} {v1 v2 : Value} (hnt : nt ≤ 999999)
    (e1 : o1.dst = some d1) (e2 : o2.dst = some d2) (g1 : o1.guard = none) (g2 : o2.guard = none) (g3 : o3.guard = none) (n1 : noDefer o1 = true) (n2 : noDefer o2 = true) (n3 : noDefer o3 = true)
    (k1 : d1 < nt) (k2 : d2 < nt) (m1 : kp.contains d1 = false) (m2 : kp.contains d2 = false)
    (h1 : ∀ ev w, (execOp ev o1).run P w = .ok (.value v1) w) (h2 : ∀ ev w, ev (.tmp d1) = v1 → (execOp ev o2).run P w = .ok (.value v2) w) (h3 : ∀ ev w, ev (.tmp d2) = v2 → (execOp ev o3).run P w = .halt (.panic v2) w)
    (hq : Q (.panic [{ v := v2, recovered := false }]) (putT (putT T (some d1) .any) (some d2) .any) H) : GWp P none J nt kp (.region id [o1, o2, o3].toArray false) T H Q := by
  intro hJ kv a w hs
  have ne : ∀ {d : Tmp}, kp.contains d = false → ∀ t ∈ kp, d ≠ t := by
    intro d h t ht e
    subst e
    rw [List.contains_eq_mem, decide_eq_false_iff_not] at h
    exact h ht
  have sz : ∀ {T H a w}, SG J nt kp kv T H a w → a.tmps.size = nt := fun ⟨⟨_, _, _, hc, _⟩, _⟩ => hc.size
  have ev : ∀ {T H a w d v}, SG J nt kp kv T H a w → d < nt → (a.put (some d) v).eval (.tmp d) = v := by
    intro T H a w d v h hd
    have := getD_put a (some d) v d (fun k e => by cases e; rw [sz h]; exact hd)
    simpa [Act.eval] using this
  refine wpIn_region_lit ?_
  have s1 := hs.putAny hJ hnt (v := v1) k1 (ne m1)
  have s2 := s1.putAny hJ hnt (v := v2) k2 (ne m2)
  refine wpListIn_plain g1 fun K hK => wpIn_of_op n1 ?_
  unfold Oper.wp
  rw [h1, Oper.upon_value, e1]
  refine hK _ _ (wpListIn_plain g2 fun K hK => wpIn_of_op n2 ?_)
  unfold Oper.wp
  rw [h2 _ _ (ev hs k1), Oper.upon_value, e2]
  refine hK _ _ (wpListIn_plain g3 fun K hK => wpIn_of_op n3 ?_)
  unfold Oper.wp
  rw [h3 _ _ (ev s1 k2), Oper.upon_panic]
  exact ⟨_, _, hq, s2⟩
end
end Go.AM
namespace Go.Street
open Go.AM Go.Proofs
set_option maxRecDepth 10000
set_option maxHeartbeats 8000000
set_option linter.unusedVariables false
set_option linter.unusedSimpArgs false

section
variable {P : Program} {ops : Array Oper} {Q : Exit → Act → List Frame → World → Prop} {a : Act} {cs cs' : List Frame} {w w' : World} {rest : List Nat} {i : Nat} {o : Oper} {v : Value}
theorem wpOpsS_val (ho : ops[i]? = some o) (hg : o.guard = none) (hr : (execOp a.eval o).run P w = .ok (.value v) w') (h : wpOpsS P ops Q rest (a.put o.dst v) cs w') : wpOpsS P ops Q (i :: rest) a cs w := by
  simp only [wpOpsS, ho, Region.wanted, hg, if_true, hr, Oper.upon_value]; exact h
theorem wpOpsS_skip (ho : ops[i]? = some o) (hg : o.guard = none) (hr : (execOp a.eval o).run P w = .ok .skip w') (h : wpOpsS P ops Q rest (a.put o.dst undef) cs w') : wpOpsS P ops Q (i :: rest) a cs w := by
  simp only [wpOpsS, ho, Region.wanted, hg, if_true, hr, Oper.upon_skip]; exact h
theorem wpOpsS_rec0 (ho : ops[i]? = some o) (hg : o.guard = none) (hr : (execOp a.eval o).run P w = .ok .recover w') (hc : recoverD cs = none) (h : wpOpsS P ops Q rest (a.put o.dst .nilIface) cs w') : wpOpsS P ops Q (i :: rest) a cs w := by
  simp only [wpOpsS, ho, Region.wanted, hg, if_true, hr, hc]; exact h
theorem wpOpsS_rec1 (ho : ops[i]? = some o) (hg : o.guard = none) (hr : (execOp a.eval o).run P w = .ok .recover w') (hc : recoverD cs = some (v, cs')) (h : wpOpsS P ops Q rest (a.put o.dst v) cs' w') : wpOpsS P ops Q (i :: rest) a cs w := by
  simp only [wpOpsS, ho, Region.wanted, hg, if_true, hr, hc]; exact h
end

theorem eg_nil (w : World) : (eqGuard .neq 20 (.tmp 4) (.const .nilIface) .nilIface .nilIface).run Try.prog w = .ok () w := by simp [eqGuard]
theorem eg_hop (w : World) : (eqGuard .neq 20 (.tmp 4) (.const .nilIface) (.iface 87 (.agg #[])) .nilIface).run Try.prog w = .ok () w := by simp [eqGuard]
theorem ne_nil (w : World) : (binOp .neq 20 .nilIface .nilIface).run Try.prog w = .ok (.bool false) w := by kernel_rfl
theorem ne_hop (w : World) : (binOp .neq 20 (.iface 87 (.agg #[])) .nilIface).run Try.prog w = .ok (.bool true) w := by kernel_rfl
theorem as_hop (w : World) : (Instr.typeAssert (.iface 87 (.agg #[])) 20 87 true).run Try.prog w = .ok (.tuple #[.agg #[], .bool true]) w := by kernel_rfl
theorem op_bin {o : Oper} {op : BinOp} {t t' : TypeId} {x y : Operand} {a b : Value} (ev : Operand → Value) {v : Value} {w : World} (ho : o.op = .binOp op t x y t') (hx : ev x = a) (hy : ev y = b)
    (h1 : (eqGuard op t x y a b).run Try.prog w = .ok () w) (h2 : (binOp op t a b).run Try.prog w = .ok v w) : (execOp ev o).run Try.prog w = .ok (.value v) w := by
  subst hx hy
  simp [execOp, ho, h1, h2]
theorem op_as {o : Oper} {t t' : TypeId} {x : Operand} {a : Value} (ev : Operand → Value) {v : Value} {w : World} (ho : o.op = .typeAssert x t t' true) (hx : ev x = a)
    (h2 : (Instr.typeAssert a t t' true).run Try.prog w = .ok v w) : (execOp ev o).run Try.prog w = .ok (.value v) w := by
  subst hx
  simp [execOp, ho, h2]
theorem al_hop (w : World) : (Instr.alloc 87 true (.tuple #[])).run Try.prog w = .ok (.pointer (some ⟨w.heap.size, 0, none⟩)) (w.alloc (.cells #[] 87)) := by kernel_rfl
theorem st_hop (w : World) (b : Nat) : (Instr.storeAt 87 (.pointer (some ⟨b, 0, none⟩)) (.agg #[])).run Try.prog w = .ok () w := by kernel_rfl
theorem op_al {o : Oper} {t : TypeId} (ev : Operand → Value) {v : Value} {w w' : World} (ho : o.op = .alloc t)
    (h2 : (Instr.alloc t true (.tuple #[])).run Try.prog w = .ok v w') : (execOp ev o).run Try.prog w = .ok (.value v) w' := by
  simp [execOp, ho, h2]
theorem op_st {o : Oper} {t : TypeId} {x y : Operand} {a b : Value} (ev : Operand → Value) {w w' : World} (ho : o.op = .store t x y) (hx : ev x = a) (hy : ev y = b)
    (h2 : (Instr.storeAt t a b).run Try.prog w = .ok () w') : (execOp ev o).run Try.prog w = .ok .skip w' := by
  subst hx hy
  simp [execOp, ho, h2]

theorem m_rec (w : World) : CallsD Try.prog 48 #[] .returning w (fun e u' w' => e = .returned (.tuple #[]) ∧ u' = .returning ∧ w' = w) := by
  refine callsD_of_wpS Try.func48 rfl fun c₀ cs hu => ?_
  have hu' : recoverD (c₀ :: cs) = none := by simp [recoverD, hu]
  refine wpS_seq (wpS_region (wpOpsS_rec0 rfl rfl rfl hu' (wpOpsS_val rfl rfl rfl ?_)))
  refine wpS_seq (wpS_region (wpOpsS_val rfl rfl rfl (wpOpsS_val (v := .bool false) (w' := w) rfl rfl (op_bin _ rfl rfl rfl (eg_nil w) (ne_nil w)) ?_)))
  refine wpS_cond (t := false) rfl (wpS_of_wp (wp_skip ?_))
  exact ⟨rfl, .returning, by rw [← hu], .tuple #[], by simp [results], rfl, rfl, rfl⟩

/-- The panic of a search that is given up is caught. -/
theorem m_rec1 (w : World) : CallsD Try.prog 48 #[] (.panicking [{ v := .iface 87 (.agg #[]), recovered := false }]) w (fun e u' w' => e = .returned (.tuple #[]) ∧ u' = .panicking [{ v := .iface 87 (.agg #[]), recovered := true }] ∧ w' = w.alloc (.cells #[] 87)) := by
  refine callsD_of_wpS Try.func48 rfl fun c₀ cs hu => ?_
  have hu' : recoverD (c₀ :: cs) = some (.iface 87 (.agg #[]), { c₀ with mode := .panicking [{ v := .iface 87 (.agg #[]), recovered := true }] } :: cs) := by simp [recoverD, hu]
  refine wpS_seq (wpS_region (wpOpsS_rec1 rfl rfl rfl hu' (wpOpsS_val rfl rfl rfl ?_)))
  refine wpS_seq (wpS_region (wpOpsS_val rfl rfl rfl (wpOpsS_val (v := .bool true) (w' := w) rfl rfl (op_bin _ rfl rfl rfl (eg_hop w) (ne_hop w)) ?_)))
  refine wpS_cond (t := true) rfl ?_
  refine wpS_seq (wpS_region ?_)
  refine wpOpsS_val rfl rfl rfl (wpOpsS_val (v := .tuple #[.agg #[], .bool true]) (w' := w) rfl rfl (op_as _ rfl rfl (as_hop w)) ?_)
  refine wpOpsS_val rfl rfl rfl (wpOpsS_val rfl rfl rfl (wpOpsS_val rfl rfl rfl ?_))
  refine wpOpsS_val (v := .pointer (some ⟨w.heap.size, 0, none⟩)) (w' := w.alloc (.cells #[] 87)) rfl rfl (op_al _ rfl (al_hop w)) ?_
  refine wpOpsS_skip (w' := w.alloc (.cells #[] 87)) rfl rfl (op_st _ rfl rfl rfl (st_hop _ _)) ?_
  refine wpOpsS_val rfl rfl rfl ?_
  refine wpS_seq (wpS_region (wpOpsS_val rfl rfl rfl (wpOpsS_val (v := .bool false) rfl rfl rfl ?_)))
  refine wpS_cond (t := false) rfl (wpS_of_wp (wp_skip ?_))
  exact ⟨rfl, _, rfl, .tuple #[], by simp [results], rfl, rfl, rfl⟩

/-- A search that is given up panics at once. -/
theorem m_searchP (j : Jn) (l : List Int) (B : AV) (hB1 : renAV [some 0, some 1] 40 B = B) (s : Bs) (t : List Int) (len : Int) (hs : BsOk s) (ht : TrOk j t len) (hh : hopeB s len = true) :
    MutPanic Try.prog 49 [iL t, I len, .ptr 0 0 0, .ptr 1 0 0, .iptr [iL l], .iptr j.cells, B] [bRow s, lRow s] (.iface 87 (.agg #[])) [bRow s, lRow s] := by
  have h1 := ht.n1; have h2 := ht.n2
  obtain ⟨gla, la0, la1⟩ := ht.last
  have wt : IntKind.i64.wrap ((t.length : Int) - 1) = ((t.length - 1 : Nat) : Int) := by rw [wrap_in (by omega) (by omega)]; omega
  rcases hbs : s.best with _ | u
  · simp [hopeB, hbs] at hh
  have hle : s.least ≤ len := by simpa [hopeB, hbs] using hh
  refine MutPanic.of_bodyG [2, 3] Try.func49 rfl (by simp [Try.ntmps49]) rfl rfl ?_
  intro J hJ
  simp only [Try.ntmps49, Try.results49]
  refine gwp_sr rfl (by decide) rfl rfl fun K hK => ?_
  simp -dsimp [wt, gla]
  refine hK _ _ ?_; clear hK K
  refine gwp_seq_k fun K1 hK1 => ?_
  refine gwp_sr rfl (by decide) rfl rfl fun K hK => ?_
  simp -dsimp [hbs, hs.ne u hbs]
  refine hK _ _ ?_; clear hK K
  refine gwp_cond rfl (fun hc0 => ?_) (fun hc0 => ?_)
  · refine gwp_panic3 (v1 := .agg #[]) (v2 := .iface 87 (.agg #[])) (by decide) rfl rfl rfl rfl rfl rfl rfl rfl (by decide) (by decide) rfl rfl ?_ ?_ ?_ ?_
    · intro ev w
      kernel_rfl
    · intro ev w e
      simp [execOp, e, Instr.makeInterface]
    · intro ev w e
      simp [execOp, e, Instr.panic]
    · refine ⟨rfl, [some 0, some 1], rfl, by simp, by simp, by simp [hB1]⟩
  · exfalso
    simp at hc0
    omega

theorem op_load {o : Oper} {t : TypeId} {x : Operand} {ad : Addr} (ev : Operand → Value) {v : Value} {w : World} (ho : o.op = .load t x) (hx : ev x = .pointer (some ad))
    (h : (loadVar t ad).run Try.prog w = .ok v w) : (execOp ev o).run Try.prog w = .ok (.value v) w := by
  simp [execOp, ho, hx, Instr.loadAt, Instr.sureAddr, h]
theorem held_alloc {S0 : Nat → Prop} {w : World} {ρ : Nat → Option AM.Loc} {H : Hp} {c : Array Value} {t : TypeId} (h : Held S0 w ρ H) : Held S0 (w.alloc (.cells c t)) ρ H := by
  have hs : (w.alloc (.cells c t)).heap.size = w.heap.size + 1 := by simp
  have hb : ∀ b, b < w.heap.size → (w.alloc (.cells c t)).heap[b]? = w.heap[b]? := fun b hb => (Go.AM.ext_alloc (fun _ => False) w _).block b hb (fun h => h)
  refine ⟨⟨h.wf.inj, fun r l b h1 h2 => ?_, h.wf.given, fun b hb => ?_, fun _ _ => trivial⟩, fun r row hr => ?_, h.dead⟩
  · obtain ⟨k1, k2, k3⟩ := h.wf.own r l b h1 h2
    exact ⟨by omega, k2, k3⟩
  · have := h.wf.low b hb; omega
  · obtain ⟨l, k1, k2⟩ := h.rows r row hr
    exact ⟨l, k1, k2.ext (by omega) (fun b hb' hn => ⟨hb b hb', hn⟩) (fun r h => h) (fun r l _ h => h) (fun b hb' => hb b (h.wf.own r l b k1 hb').1)⟩
section
variable {P : Program} {ops : Array Oper} {Q : Exit → Act → World → Prop} {a : Act} {w w' : World} {rest : List Oper} {o : Oper} {v : Value}
theorem wpl_val (hg : o.guard = none) (hr : (execOp a.eval o).run P w = .ok (.value v) w') (h : wpList P ops Q rest (a.put o.dst v) w') : wpList P ops Q (o :: rest) a w := by
  refine wpList_plain hg fun K hK => ?_
  unfold Oper.wp
  rw [hr]; exact hK _ _ h
theorem wpl_defer (hg : o.guard = none) {d : Deferred} (hr : (execOp a.eval o).run P w = .ok (.defer d) w') (h : wpList P ops Q rest ({ a with defers := d :: a.defers }.put o.dst undef) w') : wpList P ops Q (o :: rest) a w := by
  refine wpList_plain hg fun K hK => ?_
  unfold Oper.wp
  rw [hr]; exact hK _ _ h
theorem wpl_enter (hg : o.guard = none) {f : FuncId} {args : Array Value} {R : Ending → World → Prop} (hr : (execOp a.eval o).run P w = .ok (.enter f args) w') (hc : Calls P f args w' R)
    (h1 : ∀ v w'', R (.returned v) w'' → wpList P ops Q rest (a.put o.dst v) w'') (h2 : ∀ ch w'', R (.panicked ch) w'' → Q (.panic ch) a w'') (h3 : ∀ w'', ¬ R .outgrown w'') : wpList P ops Q (o :: rest) a w := by
  refine wpList_plain hg fun K hK => ?_
  unfold Oper.wp
  rw [hr, Oper.upon_enter]
  refine Calls.mono hc fun e w'' hr => ?_
  cases e with
  | returned v => exact hK _ _ (h1 v w'' hr)
  | panicked ch => exact h2 ch w'' hr
  | outgrown => exact absurd hr (h3 w'')
end

/-- A branch: what its search does, or what it has done when it is given up. -/
theorem m_branch_of {x0 x1 : AV} {caps : List AV} {Hk Hk' : Hp} (h : MutCall Try.prog 49 ([x0, x1] ++ caps) Hk [] (.tup []) Hk' [] ∨ MutPanic Try.prog 49 ([x0, x1] ++ caps) Hk (.iface 87 (.agg #[])) Hk') :
    MutCall Try.prog 47 [x0, x1, .vptr [.clo 49 caps]] Hk [] (.tup []) Hk' [] := by
  have hlen : Hk.length = Hk'.length := by rcases h with h | h; exact h.2.1; exact h.1
  refine ⟨fun w vs => by simp [callFunc, Try.func47]; rfl, hlen, ?_⟩
  intro S0 w ρ vs hh hl hrep
  rw [List.append_nil] at hh hrep
  simp only [List.append_nil]
  match vs, hl with
  | [v0, v1, v2], _ =>
  have r0 := hrep 0 _ _ rfl rfl
  have r1 := hrep 1 _ _ rfl rfl
  have r2 := hrep 2 _ _ rfl rfl
  obtain ⟨ad, u, rfl, hld, hu⟩ := load_vptr_run (P := Try.prog) (t := 85) (by simp) r2 (by simp)
  have hu' : RepV w (Sx S0 ρ) ρ (fun r => r < Hk.length) (.clo 49 caps) u := by simpa using hu
  obtain ⟨cv, rfl, hcl, hcap⟩ := clo_cells hu'
  have hreps : ∀ (i : Nat) c x, ([x0, x1] ++ caps)[i]? = some c → ([v0, v1] ++ cv)[i]? = some x → RepV w (Sx S0 ρ) ρ (fun r => r < Hk.length) c x := by
    intro i c x h1 h2
    match i with
    | 0 => simp at h1 h2; subst h1 h2; exact r0
    | 1 => simp at h1 h2; subst h1 h2; exact r1
    | i + 2 => exact hcap i c x (by simpa using h1) (by simpa using h2)
  refine calls_of_wp_defers Try.func47 rfl ?_
  have hcf : (callFunc 49 (([v0, v1] ++ cv).toArray)).run Try.prog w = .ok (.enter 49 ([v0, v1] ++ cv).toArray) w := by simp [callFunc, Try.func49]; rfl
  refine wp_seq (wp_region_lit (wpl_defer rfl (d := ⟨.fn (.func 48) #[], #[]⟩) (w' := w) (by simp [execOp, resolve, Deferred.ofValue, Act.eval]) (wpList_nil ?_)))
  refine wp_region_lit (wpl_val rfl (w' := w) (op_load _ rfl rfl hld) (wpl_val rfl (w' := w) rfl (wpl_val rfl (w' := w) rfl ?_)))
  have hdf : ∀ w, (invoke (.fn (.func 48) #[]) #[]).run Try.prog w = .ok (.enter 48 #[]) w := fun w => by simp [invoke, callFunc, Try.func48]; rfl
  refine wpl_enter (w' := w) (f := 49) (args := ([v0, v1] ++ cv).toArray) (R := fun e w' => (e = .panicked [{ v := .iface 87 (.agg #[]), recovered := false }] ∨ e = .returned (.tuple #[])) ∧ ∃ ρ', Held S0 w' ρ' Hk' ∧
        (∀ r l, r < Hk.length → ρ' r = some l → ρ r = some l) ∧ (∀ b, own ρ' b → own ρ b ∨ w.heap.size ≤ b) ∧ Ext (own ρ) w w') rfl ?_ ?_ ?_ ?_ ?_
  · rw [← hcf]
    simp [execOp, resolve, Deferred.ofValue, invoke, Act.eval, Act.put, Try.ntmps47]
  · rcases h with h | h
    · refine Calls.mono (h.2.2 S0 w ρ _ (by simpa using hh) (by simp [hcl]) (by simpa using hreps)) ?_
      rintro e w' ⟨v, ρ', rfl, k1, k2, k3⟩
      have : v = .tuple #[] := by
        obtain ⟨us, rfl, hu, _⟩ := tup_cells k2
        cases us with
        | nil => rfl
        | cons _ _ => simp at hu
      subst this
      exact ⟨Or.inr rfl, ρ', by simpa using k1, k3⟩
    · refine Calls.mono (h.2 S0 w ρ _ hh (by simp [hcl]) hreps) ?_
      rintro e w' ⟨rfl, ρ', k⟩
      exact ⟨Or.inl rfl, ρ', k⟩
  · rintro v w'' ⟨hv, ρ', k1, k2, k3, k4⟩
    refine wpList_nil ?_
    refine leaves_cons (by simp) (hdf _) ((m_rec w'').mono ?_)
    rintro e u' w3 ⟨rfl, rfl, rfl⟩
    refine ⟨.tuple #[], ?_, .tuple #[], ρ', rfl, k1, .tup [] [] rfl (by simp), k2, k3, k4⟩
    simp [results]
  · rintro ch w'' ⟨hv, ρ', k1, k2, k3, k4⟩
    have hv' : ch = [{ v := .iface 87 (.agg #[]), recovered := false }] := by
      rcases hv with hv | hv
      · simpa using hv
      · cases hv
    subst hv'
    refine leaves_cons (by simp) (hdf _) ((m_rec1 w'').mono ?_)
    rintro e u' w3 ⟨rfl, rfl, rfl⟩
    refine ⟨.tuple #[], ?_, .tuple #[], ρ', rfl, held_alloc k1, .tup [] [] rfl (by simp), k2, k3, k4.trans (Go.AM.ext_alloc _ _ _)⟩
    simp [results]
  · rintro w'' ⟨h1, _⟩
    rcases h1 with h1 | h1 <;> cases h1
end Go.Street
