/- The abstract machine, part O: a call that hands back a row of its own making. No condition. -/
import Derived.Test.YteodgilndjjgdaaAmG
import Derived.Lib.AppendZeros
namespace Go.AM
set_option linter.unusedVariables false
set_option linter.unusedSimpArgs false

def ρ1 (l : Loc) : Nat → Option Loc := fun r => if r = 0 then some l else none

/-- A call that hands back a slice in a new block which nobody else holds. -/
def OwnCall (P : Program) (f : FuncId) (args : List AV) (i k sz : Nat) (es : List (List AV)) : Prop :=
  (∀ (w : World) (vs : Array Value), (callFunc f vs).run P w = .ok (.enter f vs) w) ∧ plainEls es = true ∧
    ∀ (S0 : Nat → Prop) (w : World) (vs : List Value), (∀ b, S0 b → b < w.heap.size) → args.length = vs.length → (∀ (i : Nat) c x, args[i]? = some c → vs[i]? = some x → RepP w S0 c x) →
      Calls P f vs.toArray w fun e w' => ∃ v l b, e = .returned v ∧ l.b = some b ∧ w.heap.size ≤ b ∧ b < w'.heap.size ∧ Ext (fun _ => False) w w' ∧
        RepV w' (Sx S0 (ρ1 l)) (ρ1 l) (fun r => r = 0) (.row 0 i k) v ∧ RowRep w' (Sx S0 (ρ1 l)) (ρ1 l) (fun r => r = 0) l (.els sz es)

section
variable {P : Program} {o : Oper} {ev : Operand → AV} {H : Nat → Option ARow} {N : Nat}

theorem ok_own {x : Operand} {args : Array Operand} {ts : Array TypeId} {f : FuncId} {caps : List AV} {i k sz : Nat} {es : List (List AV)} (ho : o.op = .call { callee := .value x, args := args, argTypes := ts })
    (hx : ev x = .clo f caps) (h : OwnCall P f ((args.toList.map ev ++ caps).map (frz H 3)) i k sz es) (hn : (args.toList.map ev ++ caps).all (AV.noRef 2) = true) :
    OpOk P o ev H N ⟨.row N i k, [(N, some (.els sz es))], []⟩ := by
  intro B S0 a w ρ L hw hN hops hrd K Q hK
  replace hN : ¬ L N := hN ⟨some (.els sz es), by simp⟩
  have hrx := hops x (by simp [ho, Op.operands, Call.operands])
  rw [hx] at hrx
  obtain ⟨cv, hy, hl, hcap⟩ := clo_cells hrx
  obtain ⟨hcf, hplain, hcall⟩ := h
  have hlow : ∀ b, Sx S0 ρ b → b < w.heap.size := by
    rintro b (h1 | ⟨r, l, h1, h2⟩)
    · exact hw.low b h1
    · exact (hw.own r l b h1 h2).1
  have hreps : ∀ (i : Nat) c y, (args.toList.map ev ++ caps)[i]? = some c → (args.toList.map a.eval ++ cv)[i]? = some y → RepV w (Sx S0 ρ) ρ L c y := by
    intro i c y h1 h2
    rw [List.getElem?_append] at h1 h2
    simp only [List.length_map] at h1 h2
    split at h1
    · rename_i hi
      rw [if_pos hi] at h2
      simp only [List.getElem?_map, Option.map_eq_some_iff] at h1 h2
      obtain ⟨q, h1, rfl⟩ := h1
      obtain ⟨q', h2, rfl⟩ := h2
      rw [h1] at h2
      simp only [Option.some.injEq] at h2
      subst h2
      refine hops q ?_
      rw [ho]
      simp only [Op.operands, Call.operands, Array.mem_append]
      exact Or.inr (Array.mem_toList_iff.1 (List.mem_of_getElem? h1))
    · rename_i hi
      rw [if_neg hi] at h2
      exact hcap _ c y h1 h2
  have harr : args.map a.eval ++ cv.toArray = (args.toList.map a.eval ++ cv).toArray := by apply Array.ext'; simp
  have hrun : (execOp a.eval o).run P w = .ok (.enter f (args.map a.eval ++ cv.toArray)) w := by
    simp only [execOp, ho, resolve, hy, Deferred.ofValue, invoke]
    simp [invoke, hcf]
  unfold Oper.wp
  rw [hrun, Oper.upon_enter, harr]
  refine (hcall (Sx S0 ρ) w (args.toList.map a.eval ++ cv) hlow (by simp [hl]) (fun i c y h1 h2 => by
    simp only [List.getElem?_map, Option.map_eq_some_iff] at h1
    obtain ⟨c', h1, rfl⟩ := h1
    exact frz_plain hlow (List.all_eq_true.1 hn c' (List.mem_of_getElem? h1)) (hreps i c' y h1 h2))).mono fun e w' he => ?_
  obtain ⟨v, l, b, rfl, hb, hb1, hb2, hext, hrep, hrow⟩ := he
  have hwf := wf_fresh hw hN l (w' := w') hext.size (fun b' hb' => by rw [hb] at hb'; simp only [Option.some.injEq] at hb'; subst hb'; exact ⟨hb1, hb2⟩)
  have hSx : ∀ c, Sx S0 (Loc.fresh ρ N l) c → Sx (Sx S0 ρ) (ρ1 l) c := by
    rintro c (h1 | ⟨r, l', h1, h2⟩)
    · exact Or.inl (Or.inl h1)
    · simp only [Loc.fresh] at h1
      split at h1
      · simp only [Option.some.injEq] at h1; subst h1; exact Or.inr ⟨0, l, by simp [ρ1], h2⟩
      · exact Or.inl (Or.inr ⟨r, l', h1, h2⟩)
  have hLL : ∀ r, (L r ∨ r = N) → nL L ⟨.row N i k, [(N, some (.els sz es))], []⟩ r := by
    rintro r (h1 | rfl)
    · exact Or.inl h1
    · exact Or.inr ⟨some (.els sz es), by simp⟩
  refine hK v w' (Loc.fresh ρ N l) { wf := hwf.more hLL, rep := ?_, ups := ?_, others := ?_, only := ?_, ext := hext.mono (fun _ _ h => h.elim) }
  · cases hrep with
    | pure _ _ h => cases h
    | row _ _ _ _ h1 h2 h3 =>
      refine .row _ _ _ _ (hLL _ (Or.inr rfl)) h2 (fun l' hl' => ?_)
      simp only [Loc.fresh, if_true, Option.some.injEq] at hl'
      subst hl'
      exact h3 l (by simp [ρ1])
  · intro r o' hm
    simp only [List.mem_singleton, Prod.mk.injEq] at hm
    obtain ⟨rfl, rfl⟩ := hm
    refine ⟨l, by simp [Loc.fresh], ?_⟩
    obtain ⟨q1, q2, q3, q4⟩ := hrow
    refine ⟨q1, q2, q3, fun c hc => ?_⟩
    obtain ⟨cs, t, p1, p2, p3, p4⟩ := q4 c hc
    refine ⟨cs, t, p1, p2, p3, fun j av hj => ?_⟩
    obtain ⟨y, g1, g2, g3⟩ := p4 j av hj
    refine ⟨y, g1, g2, ?_⟩
    have hmem := List.mem_of_getElem? hj
    rw [List.mem_flatten] at hmem
    obtain ⟨el, hel, hcel⟩ := hmem
    simp only [plainEls, List.all_eq_true] at hplain
    exact .pure _ _ ((noRef_rep 2 av y (hplain el hel av hcel) g3).ext (Nat.le_refl _) (fun c _ hnc => ⟨rfl, fun h => hnc (hSx c h)⟩))
  · intro r hr
    simp only [Loc.fresh]
    rw [if_neg]
    intro e
    subst e
    exact hr _ (by simp; rfl)
  · intro r l' h1
    simp only [Loc.fresh] at h1
    split at h1
    · rename_i e
      simp only [Option.some.injEq] at h1; subst h1
      exact Or.inr ⟨e, ⟨some (.els sz es), by simp⟩, fun c hc => Or.inl (by rw [hb] at hc; simp only [Option.some.injEq] at hc; omega)⟩
    · exact Or.inl h1

/-- So many zeros onto nothing. -/
theorem ok_append_zeros {t tn e : TypeId} {x y : Operand} {sz : Nat} {k kn : IntKind} {n : Int} (ho : o.op = .call { callee := .builtin .append, args := #[x, y], argTypes := #[t, tn] })
    (ht : tdOf P t = .slice e) (htn : ktOf P tn = some (.i kn)) (he : (tdOf P e).size = sz) (hsz : sz ≠ 0) (hx : ev x = .v (.slice none 0 0)) (hy : ev y = .v (.int k n)) (hn : 1 ≤ n) (hbig : n.toNat * (P.bytesOf e + 1) ≤ 140737488355328) :
    OpOk P o ev H N ⟨.row N 0 n.toNat, [(N, some (.els sz (List.replicate n.toNat ((tdOf P e).zero.map .v))))], []⟩ := by
  obtain ⟨info, q1, q2, _⟩ := tdOf_slice ht
  have hbad : tdOf P e ≠ .bad := by intro h; rw [h] at he; exact hsz he.symm
  obtain ⟨_, _, _, hun⟩ := ktOf_cell htn
  simp only at hun
  refine OpOk.of_new fun B S0 a w ρ L hw hN hops _ => ?_
  obtain ⟨ie, hie, hie2, hie3⟩ := td_size (P := P) (t := e) (w := w) hbad
  obtain ⟨z, hz⟩ := Option.isSome_iff_exists.1 hie3
  obtain ⟨z', r1, hzc, hzl, hz1⟩ := run_zero (P := P) (t := e) (w := w) hbad
  have hzz : (zeroValue e).run P w = .ok z w := by simp [zeroValue, typeInfo, hie, hz]
  rw [hzz] at r1
  simp only [Result.ok.injEq] at r1
  obtain ⟨rfl, _⟩ := r1
  have hzsz : z.cells.size = sz := by rw [← Array.length_toList, hzc, hzl, he]
  have hbytes : P.bytesOf e = ie.bytes := by simp [Program.bytesOf, hie]
  rw [Nat.mul_add, Nat.mul_one, hbytes] at hbig
  have hxr := hops x (by simp [ho, Op.operands, Call.operands])
  have hyr := hops y (by simp [ho, Op.operands, Call.operands])
  rw [hx] at hxr; rw [hy] at hyr
  have hxv := exact_v hxr
  have hyv := exact_v hyr
  obtain ⟨m, rfl⟩ : ∃ m : Nat, n = m := ⟨n.toNat, by omega⟩
  simp only [Int.toNat_natCast] at hbig ⊢
  have hm : 0 < m := by omega
  have hrun := Go.Lib.run_append_nil_zeros (P := P) w t tn o.type e ie z k kn q2 hun hie hz m hm (by omega) (by omega) (by omega)
  have hC := grownCap_ge w m 0 e
  refine ⟨.slice (some ⟨w.heap.size, 0, none⟩) m (grownCap w m 0 e), .cells (Builtin.zeroCells z.cells m ++ Builtin.zeroCells z.cells (grownCap w m 0 e - m)) e, w.drew,
    ⟨some w.heap.size, 0, sz, (Builtin.zeroCells z.cells m ++ Builtin.zeroCells z.cells (grownCap w m 0 e - m)).size⟩, ?_, rfl, rfl, rfl, rfl, ?_, ?_⟩
  · simp [execOp, ho, resolve, invoke, builtin, hxv, hyv, hrun]
  · intro b hb; simpa using hb.symm
  · have hcsz : (Builtin.zeroCells z.cells m ++ Builtin.zeroCells z.cells (grownCap w m 0 e - m)).size = grownCap w m 0 e * sz := by
      rw [Array.size_append, size_zeroCells, size_zeroCells, hzsz, ← Nat.add_mul]; congr 1; omega
    rintro w' ρ' rfl rfl hk
    refine ⟨.row _ _ _ _ (Or.inr rfl) rfl (fun l hl => ?_), rfl, ?_, by simp, fun b hb => ?_⟩
    · simp only [Loc.fresh, if_true, Option.some.injEq] at hl
      subst hl
      refine ⟨fun h => (by cases h), fun b hb => ?_⟩
      simp only [Option.some.injEq] at hb; subst hb
      refine ⟨0, grownCap w m 0 e, rfl, hC, Or.inr ⟨by simp, ?_⟩⟩
      simp only [Nat.zero_add]; rw [hcsz]; exact Nat.le_refl _
    · intro el hel
      rw [List.mem_replicate] at hel
      rw [hel.2, List.length_map, hzl, he]
    · simp only [Option.some.injEq] at hb
      subst hb
      refine ⟨_, e, heap_alloc_new w.drew _, rfl, by rw [hcsz]; simp only [List.length_replicate, Nat.zero_add]; exact Nat.mul_le_mul_right _ hC, fun j av hj => ?_⟩
      have hall : ∀ el ∈ List.replicate m ((tdOf P e).zero.map AV.v), el.length = sz := by
        intro el hel
        rw [List.mem_replicate] at hel
        rw [hel.2, List.length_map, hzl, he]
      have hjl : j < m * sz := by
        have := (List.getElem?_eq_some_iff.1 hj).1
        rwa [length_flatten hall, List.length_replicate] at this
      have hpos : 0 < sz := by omega
      have hdiv : j / sz < m := by rw [Nat.div_lt_iff_lt_mul hpos]; exact hjl
      have hmod := Nat.mod_lt j hpos
      have hf := flatten_get hall (i := j / sz) (e := (tdOf P e).zero.map AV.v) (by rw [List.getElem?_replicate, if_pos hdiv]) (j % sz) hmod
      rw [show j / sz * sz + j % sz = j by rw [Nat.mul_comm]; exact Nat.div_add_mod j sz] at hf
      rw [hf, List.getElem?_map, Option.map_eq_some_iff] at hj
      obtain ⟨u, hu, rfl⟩ := hj
      refine ⟨u, ?_, hz1 u (List.mem_of_getElem? hu), .pure _ _ (.v u)⟩
      simp only [Nat.zero_add]
      rw [Array.getElem?_append_left (by rw [size_zeroCells, hzsz]; exact hjl)]
      have hlt : j % z.cells.size < z.cells.size := by rw [hzsz]; exact hmod
      have hzu : z.cells[j % z.cells.size]? = some u := by rw [hzsz]; rw [← hzc] at hu; simpa using hu
      simp only [Builtin.zeroCells, Array.getElem?_map]
      rw [Array.getElem?_range, if_pos (by rw [hzsz]; exact hjl)]
      simp only [Option.map_some]
      rw [Array.getElem!_eq_getD, Array.getD_eq_getD_getElem?, hzu]
      rfl

/-- A part of the nil slice. -/
theorem ok_slice_nil {t e : TypeId} {x : Operand} {lo hi : Option Operand} {l h : Option Nat} (ho : o.op = .slice t x lo hi none) (ht : tdOf P t = .slice e) (he : (tdOf P e).size ≠ 0) (hx : ev x = .v (.slice none 0 0)) (hl : BoundAs ev lo l) (hh : BoundAs ev hi h)
    (h1 : l.getD 0 ≤ h.getD 0) (h2 : h.getD 0 ≤ 0) : OpOk P o ev H N ⟨.v (.slice none 0 0), [], []⟩ := by
  obtain ⟨info, q1, q2, _⟩ := tdOf_slice ht
  have hbad : tdOf P e ≠ .bad := by intro h; rw [h] at he; exact he rfl
  refine OpOk.of_pure fun B S0 a w ρ L hw hops hrd => ⟨_, Or.inl ?_, .pure _ _ (.v _)⟩
  have hxr := hops x (by simp [ho, Op.operands])
  rw [hx] at hxr
  have hxv := exact_v hxr
  have bl : BoundIs a lo l := bound_of (ev := ev) (B := B) (S0 := S0) (w := w) (ρ := ρ) (L := L) hl (fun y hy => hops y (by subst hy; simp [ho, Op.operands]))
  have bh : BoundIs a hi h := bound_of (ev := ev) (B := B) (S0 := S0) (w := w) (ρ := ρ) (L := L) hh (fun y hy => hops y (by subst hy; simp [ho, Op.operands]))
  have hrun := run_slice_in (P := P) (w := w) none 0 0 q2 hbad bl bh h1 h2 (Nat.le_refl _)
  have e1 : h.getD 0 = 0 := by omega
  have e2 : l.getD 0 = 0 := by omega
  simp only [execOp, ho, hxv, Option.map_none, Sem.run_bind, hrun, Result.andThen_ok, Sem.run_pure, e1, e2, if_true, Nat.sub_zero]

theorem ok_cap_nil {t e : TypeId} {x : Operand} (ho : o.op = .call { callee := .builtin .cap, args := #[x], argTypes := #[t] }) (ht : tdOf P t = .slice e) (hx : ev x = .v (.slice none 0 0)) : OpOk P o ev H N ⟨.v (.int .i64 0), [], []⟩ := by
  obtain ⟨info, q1, q2, _⟩ := tdOf_slice ht
  refine OpOk.of_pure fun B S0 a w ρ L hw hops hrd => ⟨_, Or.inl ?_, .pure _ _ (.v _)⟩
  have hxr := hops x (by simp [ho, Op.operands, Call.operands])
  rw [hx] at hxr
  have hxv := exact_v hxr
  simp only [execOp, ho, resolve, invoke, builtin]
  simp [invoke, builtin, Builtin.cap_, hxv, run_underlying q2, goInt]
/-- An element of an array, by the array's address. -/
theorem ok_indexArr_row {t e : TypeId} {x i : Operand} {z : List Value} {m r i0 off sz : Nat} {es : List (List AV)} {k : IntKind} {n : Int} (ho : o.op = .indexAddr t x i) (ht : tdOf P t = .arr z m e) (hsz : (tdOf P e).size ≠ 0)
    (hx : ev x = .ptr r i0 off) (hH : H r = some (.els sz es)) (hi : ev i = .v (.int k n)) (hn : 0 ≤ n) (hlt : n < m) : OpOk P o ev H N ⟨.ptr r i0 (off + n.toNat * (tdOf P e).size), [], [r]⟩ := by
  obtain ⟨info, h1, h2, _⟩ := tdOf_arr ht
  have hbad : tdOf P e ≠ .bad := by intro h; rw [h] at hsz; exact hsz rfl
  refine OpOk.of_pure fun B S0 a w ρ L hw hops hrd => ?_
  have hr := hops x (by simp [ho, Op.operands])
  have hri := hops i (by simp [ho, Op.operands])
  rw [hi] at hri
  have hiv := exact_v hri
  obtain ⟨l, hl, hrow⟩ := hrd r (by simp) _ hH
  rw [hx] at hr
  cases hr with
  | pure _ _ h => cases h
  | ptr _ _ _ y q1 q2 q3 =>
    obtain ⟨b, hb, hy⟩ := q3 l hl
    refine ⟨.pointer (some ⟨b, l.o + i0 * l.sz + off + n.toNat * (tdOf P e).size, none⟩), Or.inl ?_, .ptr _ _ _ _ q1 rfl ?_⟩
    · have hi : 0 ≤ n ∧ n < (m : Int) := ⟨hn, hlt⟩
      simp [execOp, ho, hy, hiv, Instr.indexAt, asIntOf, run_underlying h2, Instr.sureAddr, hi, run_sizeOf hbad, Addr.add_lit]
    · intro l' hl'
      rw [hl] at hl'
      simp only [Option.some.injEq] at hl'
      subst hl'
      exact ⟨b, hb, by simp [Nat.add_assoc]⟩

theorem ok_indexArr_iptr {t e : TypeId} {x i : Operand} {z : List Value} {m : Nat} {cs : List AV} {k : IntKind} {n : Int} (ho : o.op = .indexAddr t x i) (ht : tdOf P t = .arr z m e) (hsz : (tdOf P e).size ≠ 0)
    (hx : ev x = .iptr cs) (hi : ev i = .v (.int k n)) (hn : 0 ≤ n) (hlt : n < m) : OpOk P o ev H N ⟨.iptr (cs.drop (n.toNat * (tdOf P e).size)), [], []⟩ := by
  obtain ⟨info, h1, h2, _⟩ := tdOf_arr ht
  have hbad : tdOf P e ≠ .bad := by intro h; rw [h] at hsz; exact hsz rfl
  refine OpOk.of_pure fun B S0 a w ρ L hw hops hrd => ?_
  have hr := hops x (by simp [ho, Op.operands])
  have hri := hops i (by simp [ho, Op.operands])
  rw [hi] at hri
  have hiv := exact_v hri
  rw [hx] at hr
  obtain ⟨b, off, vs, hy, hS, hb, hl, hv, h⟩ := iptr_cells hr
  refine ⟨.pointer (some ⟨b, off + n.toNat * (tdOf P e).size, none⟩), Or.inl ?_, .pure _ _ (.iptr _ b (off + n.toNat * (tdOf P e).size) (vs.drop (n.toNat * (tdOf P e).size)) hS hb (by simp [hl]) ?_ ?_)⟩
  · have hi : 0 ≤ n ∧ n < (m : Int) := ⟨hn, hlt⟩
    simp [execOp, ho, hy, hiv, Instr.indexAt, asIntOf, run_underlying h2, Instr.sureAddr, hi, run_sizeOf hbad, Addr.add_lit]
  · intro j u hj
    rw [List.getElem?_drop] at hj
    have := hv _ u hj
    rw [Nat.add_assoc]
    exact this
  · intro j c u h1 h2
    rw [List.getElem?_drop] at h1 h2
    exact h _ c u h1 h2
end
end Go.AM
