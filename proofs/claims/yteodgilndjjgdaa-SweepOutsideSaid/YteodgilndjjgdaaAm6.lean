/- The abstract machine, part 6: cuts, structs built, appends. No condition. -/
import Derived.Test.YteodgilndjjgdaaAm5
namespace Go.AM
set_option linter.unusedVariables false
set_option linter.unusedSimpArgs false

/-- The bounds of a cut: the low one, the high one. -/
def lowOf (ev : Operand → AV) : Option Operand → Option Nat
  | none => some 0
  | some x => match ev x with
    | .v (.int _ n) => if 0 ≤ n then some n.toNat else none
    | _ => none

section
variable {P : Program} {o : Oper} {ev : Operand → AV} {H : Nat → Option ARow} {N : Nat}

/-- What a bound is, in the model's words. -/
def BoundIs (a : Act) (x : Option Operand) (n : Option Nat) : Prop :=
  match x, n with
  | none, none => True
  | some x, some n => ∃ (k : IntKind) (i : Int), a.eval x = .int k i ∧ 0 ≤ i ∧ i.toNat = n
  | _, _ => False

theorem run_sliceBounds_in {w : World} {a : Act} {lo hi : Option Operand} {l h : Option Nat} (len cap : Nat) (hl : BoundIs a lo l) (hh : BoundIs a hi h) (h1 : l.getD 0 ≤ h.getD len) (h2 : h.getD len ≤ len) (h3 : len ≤ cap) :
    (Instr.sliceBounds true len cap (lo.map a.eval) (hi.map a.eval) none).run P w = .ok (l.getD 0, h.getD len, cap) w := by
  cases hi with
  | none =>
    cases h with
    | some h => exact hh.elim
    | none =>
      cases lo with
      | none => cases l with
        | some l => exact hl.elim
        | none => simp [Instr.sliceBounds]
      | some x => cases l with
        | none => exact hl.elim
        | some l =>
          obtain ⟨k, i, e1, e2, e3⟩ := hl
          subst e3
          simp only [Option.getD_some, Option.getD_none] at h1 h2
          have hb : 0 ≤ i ∧ i ≤ (len : Int) := ⟨e2, by omega⟩
          simp [Instr.sliceBounds, e1, Instr.sliceBound, asIntOf, hb]
  | some y =>
    cases h with
    | none => exact hh.elim
    | some h =>
      obtain ⟨k', i', d1, d2, d3⟩ := hh
      subst d3
      simp only [Option.getD_some] at h1 h2
      have hb' : 0 ≤ i' ∧ i' ≤ (cap : Int) := ⟨d2, by omega⟩
      cases lo with
      | none => cases l with
        | some l => exact hl.elim
        | none => simp [Instr.sliceBounds, d1, Instr.sliceBound, asIntOf, hb']
      | some x => cases l with
        | none => exact hl.elim
        | some l =>
          obtain ⟨k, i, e1, e2, e3⟩ := hl
          subst e3
          simp only [Option.getD_some] at h1
          have hb : 0 ≤ i ∧ i ≤ i' := ⟨e2, by omega⟩
          have hmax : max i' 0 = i' := by omega
          simp [Instr.sliceBounds, d1, e1, Instr.sliceBound, asIntOf, hb', hb, hmax]

theorem run_slice_in {w : World} {a : Act} {t e : TypeId} {lo hi : Option Operand} {l h : Option Nat} (ad : Option Addr) (len cap : Nat) (ht : P.underlying t = some (.slice e)) (he : tdOf P e ≠ .bad) (hl : BoundIs a lo l) (hh : BoundIs a hi h)
    (h1 : l.getD 0 ≤ h.getD len) (h2 : h.getD len ≤ len) (h3 : len ≤ cap) :
    (Instr.sliceAt t (.slice ad len cap) (lo.map a.eval) (hi.map a.eval) none).run P w =
      .ok (.slice (if cap = l.getD 0 then ad else ad.map (·.add (l.getD 0 * (tdOf P e).size))) (h.getD len - l.getD 0) (cap - l.getD 0)) w := by
  have hb := run_sliceBounds_in (P := P) (w := w) len cap hl hh h1 h2 h3
  simp only [Instr.sliceAt, Sem.run_bind, run_underlying ht, Result.andThen_ok, Instr.slice, hb, run_sizeOf he, Sem.run_pure]

theorem bound_of {B S0 : Nat → Prop} {a : Act} {w : World} {ρ : Nat → Option Loc} {L : Nat → Prop} {x : Option Operand} {n : Option Nat}
    (hx : match x, n with | none, none => True | some x, some n => ∃ (k : IntKind) (i : Int), ev x = .v (.int k i) ∧ 0 ≤ i ∧ i.toNat = n | _, _ => False)
    (h : ∀ y, x = some y → RepV w (Sx S0 ρ) ρ L (ev y) (a.eval y)) : BoundIs a x n := by
  cases x <;> cases n <;> simp only at hx <;> try exact hx
  rename_i x n
  obtain ⟨k, i, e1, e2, e3⟩ := hx
  have := h x rfl
  rw [e1] at this
  exact ⟨k, i, exact_v this, e2, e3⟩

/-- How a bound is had. -/
def BoundAs (ev : Operand → AV) (x : Option Operand) (n : Option Nat) : Prop :=
  match x, n with
  | none, none => True
  | some x, some n => ∃ (k : IntKind) (i : Int), ev x = .v (.int k i) ∧ 0 ≤ i ∧ i.toNat = n
  | _, _ => False

theorem ok_slice_lst {t e : TypeId} {x : Operand} {lo hi : Option Operand} {l h : Option Nat} {sz : Nat} {els : List (List AV)} (ho : o.op = .slice t x lo hi none) (ht : tdOf P t = .slice e) (he : (tdOf P e).size = sz) (hsz : sz ≠ 0)
    (hx : ev x = .lst sz els ∨ ev x = .full sz els) (hl : BoundAs ev lo l) (hh : BoundAs ev hi h) (h1 : l.getD 0 ≤ h.getD els.length) (h2 : h.getD els.length ≤ els.length) :
    OpOk P o ev H N ⟨.lst sz ((els.take (h.getD els.length)).drop (l.getD 0)), [], []⟩ := by
  obtain ⟨info, q1, q2, _⟩ := tdOf_slice ht
  have hbad : tdOf P e ≠ .bad := by intro h; rw [h] at he; exact hsz he.symm
  refine OpOk.of_pure fun B S0 a w ρ L hw hops hrd => ?_
  have hr := hops x (by simp [ho, Op.operands])
  have bl : BoundIs a lo l := bound_of (B := B) (S0 := S0) (w := w) (ρ := ρ) (L := L) hl (fun y hy => hops y (by simp [ho, Op.operands, hy]))
  have bh : BoundIs a hi h := bound_of (B := B) (S0 := S0) (w := w) (ρ := ρ) (L := L) hh (fun y hy => hops y (by simp [ho, Op.operands, hy]))
  obtain ⟨ad, cap, hy, hcap, hrest⟩ := lst_parts hx hr
  have hrun := run_slice_in (P := P) (w := w) ad els.length cap q2 hbad bl bh h1 h2 hcap
  refine ⟨_, Or.inl (by simp only [execOp, ho, hy, Option.map_none]; rw [Sem.run_bind, hrun]; rfl), .pure _ _ ?_⟩
  have hlen : ((els.take (h.getD els.length)).drop (l.getD 0)).length = h.getD els.length - l.getD 0 := by
    rw [List.length_drop, List.length_take, Nat.min_eq_left h2]
  by_cases hzero : h.getD els.length - l.getD 0 = 0
  · have hnil : (els.take (h.getD els.length)).drop (l.getD 0) = [] := by
      apply List.eq_nil_of_length_eq_zero; rw [hlen, hzero]
    rw [hnil, hzero]
    exact .lstNil _ _ _
  · rcases hrest with rfl | ⟨b, off, vs, rfl, hS, hb, hall, hvl, hv, hrep⟩
    · simp only [List.length_nil] at h2 hzero; omega
    · rw [if_neg (by omega)]
      simp only [Option.map_some, Addr.add_lit, he]
      rw [← hlen]
      have hsub : ∀ e ∈ (els.take (h.getD els.length)).drop (l.getD 0), e.length = sz := fun e he => hall e (List.mem_of_mem_take (List.mem_of_mem_drop he))
      have hfl : ∀ j, j < ((els.take (h.getD els.length)).drop (l.getD 0)).length * sz → ((els.take (h.getD els.length)).drop (l.getD 0)).flatten[j]? = els.flatten[l.getD 0 * sz + j]? := by
        intro j hj
        have hsz' : 0 < sz := by omega
        have hdm := Nat.div_add_mod j sz
        have hmod := Nat.mod_lt j hsz'
        have hdiv : j / sz < ((els.take (h.getD els.length)).drop (l.getD 0)).length := by
          rw [Nat.div_lt_iff_lt_mul hsz']; exact hj
        have hget : ((els.take (h.getD els.length)).drop (l.getD 0))[j / sz]? = els[l.getD 0 + j / sz]? := by
          rw [List.getElem?_drop, List.getElem?_take, if_pos]
          rw [hlen] at hdiv; omega
        have he1 := List.getElem?_eq_getElem hdiv
        have he2 := hget.symm.trans he1
        have f1 := flatten_get hsub he1 (j % sz) hmod
        have f2 := flatten_get hall he2 (j % sz) hmod
        rw [show j / sz * sz + j % sz = j by rw [Nat.mul_comm]; exact hdm] at f1
        rw [show (l.getD 0 + j / sz) * sz + j % sz = l.getD 0 * sz + j by rw [Nat.add_mul, Nat.add_assoc, Nat.mul_comm (j / sz)]; rw [hdm]] at f2
        rw [f1, f2]
      refine .lst sz _ b (off + l.getD 0 * sz) (cap - l.getD 0) ((vs.drop (l.getD 0 * sz)).take (((els.take (h.getD els.length)).drop (l.getD 0)).length * sz)) hS hb (by rw [hlen]; omega) hsub ?_ ?_ ?_
      · have hvd : (vs.drop (l.getD 0 * sz)).length = els.length * sz - l.getD 0 * sz := by rw [List.length_drop, ← hvl, length_flatten hall]
        rw [length_flatten hsub, List.length_take, hvd, hlen, Nat.min_eq_left]
        rw [← Nat.sub_mul]
        exact Nat.mul_le_mul_right _ (by omega)
      · intro j u hj
        rw [List.getElem?_take] at hj
        split at hj
        · rw [List.getElem?_drop] at hj
          rw [Nat.add_assoc]; exact hv _ u hj
        · cases hj
      · intro j c u hj hu
        rw [List.getElem?_take] at hu
        split at hu
        · rename_i hjl
          rw [List.getElem?_drop] at hu
          rw [hfl j hjl] at hj
          exact hrep _ c u hj hu
        · cases hu

theorem ok_slice_row {t e : TypeId} {x : Operand} {lo hi : Option Operand} {l h : Option Nat} {r i n sz : Nat} {es : List (List AV)} (ho : o.op = .slice t x lo hi none) (ht : tdOf P t = .slice e) (he : (tdOf P e).size = sz) (hsz : sz ≠ 0)
    (hx : ev x = .row r i n) (hH : H r = some (.els sz es)) (hl : BoundAs ev lo l) (hh : BoundAs ev hi h) (h1 : l.getD 0 ≤ h.getD n) (h2 : h.getD n ≤ n) (hin : n ≠ 0 ∨ i + n ≤ es.length) :
    OpOk P o ev H N ⟨if l.getD 0 = 0 ∧ n = 0 then .row r i n else .row r (i + l.getD 0) (h.getD n - l.getD 0), [], [r]⟩ := by
  obtain ⟨info, q1, q2, _⟩ := tdOf_slice ht
  have hbad : tdOf P e ≠ .bad := by intro h; rw [h] at he; exact hsz he.symm
  refine OpOk.of_pure fun B S0 a w ρ L hw hops hrd => ?_
  have hr := hops x (by simp [ho, Op.operands])
  have bl : BoundIs a lo l := bound_of (B := B) (S0 := S0) (w := w) (ρ := ρ) (L := L) hl (fun y hy => hops y (by simp [ho, Op.operands, hy]))
  have bh : BoundIs a hi h := bound_of (B := B) (S0 := S0) (w := w) (ρ := ρ) (L := L) hh (fun y hy => hops y (by simp [ho, Op.operands, hy]))
  obtain ⟨lc, hlc, hrow⟩ := hrd r (by simp) _ hH
  rw [hx] at hr
  cases hr with
  | pure _ _ h => cases h
  | row _ _ _ y g1 g2 g3 =>
    obtain ⟨g4, g5⟩ := g3 lc hlc
    cases hb : lc.b with
    | none =>
      obtain ⟨hy, rfl, rfl⟩ := g4 hb
      have hl0 : l.getD 0 = 0 := by omega
      have hrun := run_slice_in (P := P) (w := w) none 0 0 q2 hbad bl bh h1 h2 (Nat.le_refl _)
      refine ⟨_, Or.inl (by simp only [execOp, ho, hy, Option.map_none]; rw [Sem.run_bind, hrun]; rfl), ?_⟩
      rw [if_pos ⟨hl0, rfl⟩]
      simp only [hl0, Option.map_none, ite_self, Nat.sub_zero]
      rw [show h.getD 0 = 0 by omega]
      exact .row _ _ _ _ g1 rfl (fun l' hl' => by rw [hlc] at hl'; simp only [Option.some.injEq] at hl'; subst hl'; exact ⟨fun _ => ⟨rfl, rfl, rfl⟩, fun b hb' => by rw [hb] at hb'; cases hb'⟩)
    | some b =>
      obtain ⟨off, cap, hy, hcap, hoff⟩ := g5 b hb
      have hrun := run_slice_in (P := P) (w := w) (some ⟨b, off, none⟩) n cap q2 hbad bl bh h1 h2 hcap
      have key : ∀ i' n', i' = i + l.getD 0 → n' = h.getD n - l.getD 0 → RepV w (Sx S0 ρ) ρ L (.row r i' n') (.slice (if cap = l.getD 0 then some ⟨b, off, none⟩ else (some (⟨b, off, none⟩ : Addr)).map (·.add (l.getD 0 * (tdOf P e).size))) (h.getD n - l.getD 0) (cap - l.getD 0)) := by
        rintro i' n' rfl rfl
        refine .row _ _ _ _ g1 rfl (fun l' hl' => ?_)
        rw [hlc] at hl'
        simp only [Option.some.injEq] at hl'
        subst hl'
        refine ⟨fun h0 => (by rw [hb] at h0; cases h0), fun b' hb' => ?_⟩
        rw [hb] at hb'
        simp only [Option.some.injEq] at hb'
        subst hb'
        split
        · exact ⟨_, _, rfl, by omega, Or.inl (by omega)⟩
        · simp only [Option.map_some, Addr.add_lit, he]
          refine ⟨_, _, rfl, by omega, ?_⟩
          rcases hoff with hc | ⟨rfl, ho'⟩
          · exact Or.inl (by omega)
          · refine Or.inr ⟨by rw [hrow.1, Nat.add_mul, Nat.add_assoc], ?_⟩
            rw [show i + l.getD 0 + (cap - l.getD 0) = i + cap by omega]; exact ho'
      refine ⟨_, Or.inl (by simp only [execOp, ho, hy, Option.map_none]; rw [Sem.run_bind, hrun]; rfl), ?_⟩
      split
      · rename_i hz
        exact key i n (by omega) (by omega)
      · exact key _ _ rfl rfl

/-- A struct's or an array's cells filled part by part. -/
def bfill (place : Nat → Option (Nat × Nat)) (ev : Operand → AV) : List (Nat × Operand) → List AV → Option (List AV)
  | [], cs => some cs
  | (i, x) :: rest, cs =>
    match place i, (ev x).cells with
    | some (off, size), some xs => if xs.length = size ∧ off + xs.length ≤ cs.length then bfill place ev rest (splice cs off xs) else none
    | _, _ => none

theorem fill_rep {w : World} {S : Nat → Prop} {ρ : Nat → Option Loc} {L : Nat → Prop} {a : Act} {place : Nat → Option (Nat × Nat)} : ∀ (parts : List (Nat × Operand)) (cs res : List AV) (acc : Array Value),
    bfill place ev parts cs = some res → (∀ p ∈ parts, RepV w S ρ L (ev p.2) (a.eval p.2)) → cs.length = acc.size → (∀ (i : Nat) c x, cs[i]? = some c → acc[i]? = some x → x.oneCell' = true ∧ RepV w S ρ L c x) →
    ∃ acc' : Array Value, Instr.fill place acc (parts.map fun (p : Nat × Operand) => (p.1, a.eval p.2)) = some acc' ∧ res.length = acc'.size ∧
      ∀ (i : Nat) c x, res[i]? = some c → acc'[i]? = some x → x.oneCell' = true ∧ RepV w S ρ L c x := by
  intro parts
  induction parts with
  | nil =>
    intro cs res acc h1 _ h3 h4
    simp only [bfill, Option.some.injEq] at h1
    subst h1
    exact ⟨acc, rfl, h3, h4⟩
  | cons p parts ih =>
    intro cs res acc h1 h2 h3 h4
    obtain ⟨i, x⟩ := p
    simp only [bfill] at h1
    split at h1
    · rename_i off size xs hp hx
      split at h1
      · rename_i hc
        obtain ⟨hlen, hfit⟩ := hc
        obtain ⟨c1, c2⟩ := cells_rep (h2 (i, x) (by simp)) hx
        have hsize : (a.eval x).cells.size = size := by rw [← hlen, ← c1, Array.length_toList]
        have hz := foldl_zipIdx_get (a.eval x).cells.toList off 0 acc (by rw [c1]; omega)
        simp only [Nat.add_zero] at hz
        let acc1 := ((a.eval x).cells.toList.zipIdx 0).foldl (fun cs (p : Value × Nat) => cs.setIfInBounds (off + p.2) p.1) acc
        have hs1 : acc1.size = acc.size := by
          rw [← Array.length_toList, hz]
          simp only [List.length_append, List.length_take, List.length_drop, Array.length_toList, hsize]
          rw [Nat.min_eq_left (by omega)]; omega
        obtain ⟨acc', q1, q2, q3⟩ := ih (splice cs off xs) res acc1 h1 (fun p hp => h2 p (by simp [hp])) (by rw [splice_length hfit, h3, hs1]) (by
          intro j c u hj hu
          have hu' : (acc.toList.take off ++ (a.eval x).cells.toList ++ acc.toList.drop (off + (a.eval x).cells.toList.length))[j]? = some u := by rw [← hz]; simpa using hu
          rw [splice_get hfit] at hj
          rw [List.append_assoc, List.getElem?_append] at hu'
          simp only [List.length_take, Nat.min_eq_left (show off ≤ acc.toList.length by simp; omega)] at hu'
          split at hj
          · rename_i hjo
            rw [if_pos hjo, List.getElem?_take, if_pos hjo] at hu'
            exact h4 j c u hj (by simpa using hu')
          · rename_i hjo
            rw [if_neg hjo, List.getElem?_append, c1] at hu'
            split at hj
            · rename_i hjx
              rw [if_pos (by omega)] at hu'
              exact c2 _ c u hj hu'
            · rename_i hjx
              rw [if_neg (by omega), List.getElem?_drop] at hu'
              rw [show off + xs.length + (j - off - xs.length) = j by omega] at hu'
              exact h4 j c u hj (by simpa using hu'))
        refine ⟨acc', ?_, q2, q3⟩
        simp only [List.map_cons, Instr.fill, hp]
        rw [if_neg (by rw [hsize]; simp; omega)]
        have hfold' : (a.eval x).cells.zipIdx.foldl (fun cs x => match x with | (c, j) => cs.setIfInBounds (off + j) c) acc = acc1 := by
          show (a.eval x).cells.zipIdx.foldl (fun cs (p : Value × Nat) => cs.setIfInBounds (off + p.2) p.1) acc = acc1
          rw [← Array.foldl_toList, Array.toList_zipIdx]
        rw [hfold', q1]
      · cases h1
    · cases h1

theorem run_places {w : World} : ∀ (l : List Field), (∀ f ∈ l, (P.info? f.type).isSome = true) →
    (l.mapM fun (f : Field) => do pure (f.offset, ← sizeOf f.type) : Sem (List (Nat × Nat))).run P w = .ok (l.map fun f => (f.offset, P.cellsOf f.type)) w := by
  intro l
  induction l with
  | nil => intro _; simp
  | cons f l ih =>
    intro h
    obtain ⟨i, hi⟩ := Option.isSome_iff_exists.1 (h f (by simp))
    have h1 : (sizeOf f.type).run P w = .ok (P.cellsOf f.type) w := by simp [sizeOf, typeInfo, hi, Program.cellsOf]
    simp only [List.mapM_cons, Sem.run_bind, h1, Result.andThen_ok, Sem.run_pure, ih (fun g hg => h g (by simp [hg])), List.map_cons]

theorem ok_build_struct {t : TypeId} {parts : Array (Nat × Operand)} {z : List Value} {fs : List (Nat × Nat × TypeId)} {res : List AV} (ho : o.op = .build t parts) (ht : tdOf P t = .agg z fs)
    (hf : bfill (fun i => (fs[i]?).map fun (q : Nat × Nat × TypeId) => (q.1, q.2.1)) ev parts.toList (z.map .v) = some res) : OpOk P o ev H N ⟨.agg res, [], []⟩ := by
  obtain ⟨info, fa, q1, q2, q3, q4, rfl, q6, q7⟩ := tdOf_agg ht
  refine OpOk.of_pure fun B S0 a w ρ L hw hops hrd => ?_
  obtain ⟨acc', r1, r2, r3⟩ := fill_rep (w := w) (S := Sx S0 ρ) (ρ := ρ) (L := L) (a := a) parts.toList _ res z.toArray hf (by
    intro p hp
    refine hops p.2 ?_
    rw [ho]
    simp only [Op.operands, List.mem_toArray, List.mem_map]
    exact ⟨p, hp, rfl⟩) (by simp) (by
    intro i c x h1 h2
    simp only [List.getElem?_map, Option.map_eq_some_iff] at h1
    obtain ⟨u, h1, rfl⟩ := h1
    simp only [List.getElem?_toArray] at h2
    rw [h1] at h2
    simp only [Option.some.injEq] at h2
    subst h2
    exact ⟨List.all_eq_true.1 q6 u (List.mem_of_getElem? h1), .pure _ _ (.v u)⟩)
  refine ⟨.agg acc', Or.inl ?_, ?_⟩
  · have hmap' : (parts.map fun x => match x with | (i, x) => (i, a.eval x)) = parts.map fun (p : Nat × Operand) => (p.1, a.eval p.2) := rfl
    have hmap : (parts.map fun (p : Nat × Operand) => (p.1, a.eval p.2)).toList = parts.toList.map fun (p : Nat × Operand) => (p.1, a.eval p.2) := by simp
    have hz : (zeroValue t).run P w = .ok (.agg z.toArray) w := by simp [zeroValue, typeInfo, q1, q3]
    have hpl : (fa.mapM fun (f : Field) => do pure (f.offset, ← sizeOf f.type) : Sem (Array (Nat × Nat))).run P w = .ok (fa.toList.map fun f => (f.offset, P.cellsOf f.type)).toArray w := by
      rw [Array.mapM_eq_mapM_toList, Sem.run_map, run_places fa.toList q7]; rfl
    have hplace : (fun (i : Nat) => (fa.toList.map fun f => (f.offset, P.cellsOf f.type)).toArray[i]?) = (fun (i : Nat) => ((fa.toList.map fun f => (f.offset, P.cellsOf f.type, f.type))[i]?).map fun (q : Nat × Nat × TypeId) => (q.1, q.2.1)) := by
      funext i
      simp only [List.getElem?_toArray, List.getElem?_map, Option.map_map]
      rfl
    simp only [execOp, ho, Instr.build, hmap', Sem.run_bind, hz, Result.andThen_ok, Sem.run_pure, run_underlying q2, Value.cells, hmap]
    rw [hpl]
    simp only [Result.andThen_ok]
    rw [hplace, r1]
    rfl
  · have e : acc' = acc'.toList.toArray := by simp
    rw [e]
    refine .agg _ _ (by simpa using r2) ?_ ?_
    · intro x hx
      obtain ⟨i, hi, rfl⟩ := List.getElem_of_mem hx
      have hi' : i < res.length := by rw [r2]; simpa using hi
      exact (r3 i _ _ (List.getElem?_eq_getElem hi') (by rw [← Array.getElem?_toList]; exact List.getElem?_eq_getElem hi)).1
    · intro i c x h1 h2
      exact (r3 i c x h1 (by rw [← Array.getElem?_toList]; exact h2)).2

theorem ok_build_arr {t e : TypeId} {parts : Array (Nat × Operand)} {z : List Value} {n : Nat} {res : List AV} (ho : o.op = .build t parts) (ht : tdOf P t = .arr z n e) (he : tdOf P e ≠ .bad)
    (hf : bfill (fun i => some (i * (tdOf P e).size, (tdOf P e).size)) ev parts.toList (z.map .v) = some res) : OpOk P o ev H N ⟨.agg res, [], []⟩ := by
  obtain ⟨info, q1, q2, q3, q4, q6⟩ := tdOf_arr ht
  refine OpOk.of_pure fun B S0 a w ρ L hw hops hrd => ?_
  obtain ⟨acc', r1, r2, r3⟩ := fill_rep (w := w) (S := Sx S0 ρ) (ρ := ρ) (L := L) (a := a) parts.toList _ res z.toArray hf (by
    intro p hp
    refine hops p.2 ?_
    rw [ho]
    simp only [Op.operands, List.mem_toArray, List.mem_map]
    exact ⟨p, hp, rfl⟩) (by simp) (by
    intro i c x h1 h2
    simp only [List.getElem?_map, Option.map_eq_some_iff] at h1
    obtain ⟨u, h1, rfl⟩ := h1
    simp only [List.getElem?_toArray] at h2
    rw [h1] at h2
    simp only [Option.some.injEq] at h2
    subst h2
    exact ⟨List.all_eq_true.1 q6 u (List.mem_of_getElem? h1), .pure _ _ (.v u)⟩)
  refine ⟨.agg acc', Or.inl ?_, ?_⟩
  · have hmap' : (parts.map fun x => match x with | (i, x) => (i, a.eval x)) = parts.map fun (p : Nat × Operand) => (p.1, a.eval p.2) := rfl
    have hmap : (parts.map fun (p : Nat × Operand) => (p.1, a.eval p.2)).toList = parts.toList.map fun (p : Nat × Operand) => (p.1, a.eval p.2) := by simp
    have hz : (zeroValue t).run P w = .ok (.agg z.toArray) w := by simp [zeroValue, typeInfo, q1, q3]
    simp only [execOp, ho, Instr.build, hmap', Sem.run_bind, hz, Result.andThen_ok, Sem.run_pure, run_underlying q2, Value.cells, hmap, run_sizeOf he]
    rw [r1]
    rfl
  · have e : acc' = acc'.toList.toArray := by simp
    rw [e]
    refine .agg _ _ (by simpa using r2) ?_ ?_
    · intro x hx
      obtain ⟨i, hi, rfl⟩ := List.getElem_of_mem hx
      have hi' : i < res.length := by rw [r2]; simpa using hi
      exact (r3 i _ _ (List.getElem?_eq_getElem hi') (by rw [← Array.getElem?_toList]; exact List.getElem?_eq_getElem hi)).1
    · intro i c x h1 h2
      exact (r3 i c x h1 (by rw [← Array.getElem?_toList]; exact h2)).2

end
end Go.AM
