import Derived.Test.YtibddmpaklcleaaH6
set_option maxRecDepth 100000
set_option maxHeartbeats 8000000
set_option linter.unusedVariables false
set_option linter.unusedSimpArgs false
section
namespace Go.Cur
open Go.AM Go.Proofs Go.Tram
section
variable {P : Program}
theorem shaped_slice {n : Nat} {t e : TypeId} {avs : List AV} (hk : ktOf P t = none) (ht : tdOf P t = .slice e) (h : Shaped P (n + 1) t avs) : ∃ els, avs = [.lst (tdOf P e).size els] ∧ els.length ≤ maxLen ∧ ∀ el ∈ els, Shaped P n e el := by
 simp only [Shaped, hk, ht] at h; exact h
theorem shaped_agg {n : Nat} {t : TypeId} {z : List Value} {fs : List (Nat × Nat × TypeId)} {avs : List AV} (hk : ktOf P t = none) (ht : tdOf P t = .agg z fs) (h : Shaped P (n + 1) t avs) : avs.length = z.length ∧ ∀ f ∈ fs, Shaped P n f.2.2 ((avs.drop f.1).take f.2.1) := by
 simp only [Shaped, hk, ht] at h; exact h
theorem shaped_int {n : Nat} {t : TypeId} {k : IntKind} {avs : List AV} (hk : ktOf P t = some (.i k)) (h : Shaped P (n + 1) t avs) : ∃ m, avs = [.v (.int k m)] ∧ (Lit.int k m).wf = true := by
 simp only [Shaped, hk] at h; exact h
theorem shaped_bool {n : Nat} {t : TypeId} {avs : List AV} (hk : ktOf P t = some .b) (h : Shaped P (n + 1) t avs) : ∃ b, avs = [.v (.bool b)] := by
 simp only [Shaped, hk] at h; exact h
end
theorem list_of {α : Type} {c : α → List AV} {R : α → Prop} : ∀ {els : List (List AV)}, (∀ el ∈ els, ∃ a, el = c a ∧ R a) → ∃ l : List α, els = l.map c ∧ ∀ a ∈ l, R a
 | [], _ => ⟨[], rfl, by simp⟩
 | e :: els, h => by
  obtain ⟨a, rfl, ha⟩ := h e (List.mem_cons_self ..)
  obtain ⟨l, rfl, hl⟩ := list_of (els := els) (c := c) (R := R) (fun el hel => h el (List.mem_cons_of_mem _ hel))
  refine ⟨a :: l, rfl, fun b hb => ?_⟩
  rcases List.mem_cons.1 hb with rfl | hb
  ·exact ha
  ·exact hl b hb
theorem und_bool2 : (Try.prog).underlying 4 = some .bool := by kernel_rfl
theorem k_int : ktOf Try.prog 3 = some (.i .i64) := by kernel_rfl
theorem k_bool : ktOf Try.prog 4 = some .b := by kernel_rfl
def I64 (n : Int) : Prop := -9223372036854775808 ≤ n ∧ n ≤ 9223372036854775807
theorem wf_i64 {m : Int} (h : (Lit.int .i64 m).wf = true) : I64 m := by
 simpa [Lit.wf, IntKind.min, IntKind.max, IntKind.signed, IntKind.bits, I64] using h
theorem sh_int {n : Nat} {avs : List AV} (h : Shaped Try.prog (n + 1) 3 avs) : ∃ m, avs = [I m] ∧ I64 m := by
 obtain ⟨m, h1, h2⟩ := shaped_int k_int h; exact ⟨m, h1, wf_i64 h2⟩
theorem list2 {α : Type} {l : List α} (h : l.length = 2) : ∃ a b, l = [a, b] := by match l, h with | [a, b], _ => exact ⟨a, b, rfl⟩
theorem list4 {α : Type} {l : List α} (h : l.length = 4) : ∃ a b c d, l = [a, b, c, d] := by match l, h with | [a, b, c, d], _ => exact ⟨a, b, c, d, rfl⟩
theorem sh_bl {n : Nat} {avs : List AV} (h : Shaped Try.prog (n + 1) 4 avs) : ∃ b, avs = bCell b := shaped_bool k_bool h
theorem sh_bools {n : Nat} {avs : List AV} (h : Shaped Try.prog (n + 2) 26 avs) : ∃ l : List Bool, avs = [bL l] ∧ l.length ≤ maxLen := by
 obtain ⟨els, hl, hb, he⟩ := shaped_slice (by kernel_rfl) td26 h
 obtain ⟨l, rfl, hR⟩ := list_of (c := bCell) (R := fun _ => True) (fun el hel => by obtain ⟨b, h⟩ := sh_bl (he el hel); exact ⟨b, h, trivial⟩)
 simp at hl hb
 exact ⟨l, hl, hb⟩
theorem sh_wire {n : Nat} {avs : List AV} (h : Shaped Try.prog (n + 2) 54 avs) : ∃ s : Wr, avs = s.cells := by
 obtain ⟨h1, h2⟩ := shaped_agg (by kernel_rfl) td54 h
 obtain ⟨a, b, c, d, rfl⟩ := list4 h1
 obtain ⟨x, hx, _⟩ := sh_int (h2 (0, 1, 3) (by simp))
 obtain ⟨y, hy, _⟩ := sh_int (h2 (1, 1, 3) (by simp))
 obtain ⟨z, hz, _⟩ := sh_int (h2 (2, 1, 3) (by simp))
 obtain ⟨u, hu⟩ := sh_bl (h2 (3, 1, 4) (by simp))
 simp at hx hy hz hu
 subst hx hy hz hu
 exact ⟨⟨x, y, z, u⟩, rfl⟩
theorem sh_feed {n : Nat} {avs : List AV} (h : Shaped Try.prog (n + 2) 52 avs) : ∃ s : Fd, avs = s.cells := by
 obtain ⟨h1, h2⟩ := shaped_agg (by kernel_rfl) td52 h
 obtain ⟨a, b, c, d, rfl⟩ := list4 h1
 obtain ⟨x, hx, _⟩ := sh_int (h2 (0, 1, 3) (by simp))
 obtain ⟨y, hy, _⟩ := sh_int (h2 (1, 1, 3) (by simp))
 obtain ⟨z, hz, _⟩ := sh_int (h2 (2, 1, 3) (by simp))
 obtain ⟨u, hu, _⟩ := sh_int (h2 (3, 1, 3) (by simp))
 simp at hx hy hz hu
 subst hx hy hz hu
 exact ⟨⟨x, y, z, u⟩, rfl⟩
theorem sh_grid {n : Nat} {avs : List AV} (h : Shaped Try.prog (n + 4) 25 avs) : ∃ g : Gr, avs = g.cells ∧ g.Wires.length ≤ maxLen ∧ g.Feeds.length ≤ maxLen := by
 obtain ⟨h1, h2⟩ := shaped_agg (by kernel_rfl) td25 h
 obtain ⟨a, b, c, d, rfl⟩ := list4 h1
 obtain ⟨x, hx, _⟩ := sh_int (h2 (0, 1, 3) (by simp))
 obtain ⟨e1, hl1, b1, he1⟩ := shaped_slice (by kernel_rfl) td22 (h2 (1, 1, 22) (by simp))
 obtain ⟨l1, rfl, _⟩ := list_of (c := Wr.cells) (R := fun _ => True) (fun el hel => by obtain ⟨b, h⟩ := sh_wire (he1 el hel); exact ⟨b, h, trivial⟩)
 obtain ⟨e2, hl2, b2, he2⟩ := shaped_slice (by kernel_rfl) td23 (h2 (2, 1, 23) (by simp))
 obtain ⟨l2, rfl, _⟩ := list_of (c := Fd.cells) (R := fun _ => True) (fun el hel => by obtain ⟨b, h⟩ := sh_feed (he2 el hel); exact ⟨b, h, trivial⟩)
 obtain ⟨y, hy, _⟩ := sh_int (h2 (3, 1, 3) (by simp))
 simp at hx hl1 hl2 hy
 subst hx hl1 hl2 hy
 rw [List.length_map] at b1 b2
 exact ⟨⟨x, l1, l2, y⟩, by simp, b1, b2⟩
theorem sh_state {n : Nat} {avs : List AV} (h : Shaped Try.prog (n + 4) 28 avs) : ∃ s : Sta, avs = s.cells ∧ s.Feeds.length ≤ maxLen ∧ s.Wires.length ≤ maxLen := by
 obtain ⟨h1, h2⟩ := shaped_agg (by kernel_rfl) td28 h
 obtain ⟨a, b, rfl⟩ := list2 h1
 obtain ⟨l1, hl1, b1⟩ := sh_bools (h2 (0, 1, 26) (by simp))
 obtain ⟨l2, hl2, b2⟩ := sh_bools (h2 (1, 1, 26) (by simp))
 simp at hl1 hl2
 subst hl1 hl2
 exact ⟨⟨l1, l2⟩, by simp, b1, b2⟩
open Go.WideShapes in
theorem arg_agg {H : Type} {enc : TypeId × Value → H} {W : World} {base n : Nat} {t : TypeId} {v : Value} {d : DataW H} {p : List MemPlace} {z : List Value} {fs : List (Nat × Nat × TypeId)} (hg : goodB Try.prog n t = true) (ht : tdOf Try.prog t = .agg z fs)
  (hv : Value.okWide Try.prog W .any base t v) (h : DataW.Trod enc Try.prog W 0 (fun _ => true) true t v d p) : ∃ avs, RepP W (fun _ => False) (.agg avs) v ∧ Shaped Try.prog n t avs := by
 obtain ⟨fuel, h⟩ := h
 obtain ⟨avs, hr, hs⟩ := trod_rc n fuel t _ _ hg h
 obtain ⟨info, fa, h1, h2, _⟩ := tdOf_agg ht
 obtain ⟨cs, rfl, _⟩ := okWide_struct h2 hv
 refine ⟨avs, ?_, hs⟩
 have := RepP.agg (w := W) (S := fun _ => False) avs cs.toList hr.1 (fun x hx => by
  obtain ⟨i, hi⟩ := List.getElem?_of_mem hx
  have hil := (List.getElem?_eq_some_iff.1 hi).1
  obtain ⟨c, hc⟩ : ∃ c, avs[i]? = some c := ⟨_, List.getElem?_eq_getElem (by rw [hr.1]; exact hil)⟩
  exact (hr.2 i c x hc hi).2) (fun i c x h1 h2 => (hr.2 i c x h1 h2).1)
 simpa using this
theorem laid : laidOutB Try.prog = true := by kernel_rfl
theorem mapped : mapsRowed Try.prog = true := by kernel_rfl
theorem kids : Kids Try.prog (· < Try.prog.types.size) := kids_rows laid mapped
theorem full : ∀ t e, t < Try.prog.types.size → Try.prog.underlying t = some (.slice e) → 0 < Try.prog.cellsOf e := slices_full_of Try.prog (by kernel_rfl)
theorem ext_cell {w w' : World} (h : Ext (fun _ => False) w w') {a : Addr} (ha : a.block < w.heap.size) : w'.cell? a = w.cell? a := cell_of_block (h.block _ ha (fun k => k))
theorem post_ext {H : Type} {enc : TypeId × Value → H} {f : Func} {s : ChangeSpec} {fresh handsOn again : Bool} {W W' : World} {args : Array Value} {v : Value} {ds : List (DataW H)} {before : List MemPlace}
  (hvars : s.vars = []) (hres : (s.fn H ds).results = [.lit (.bool true)]) (hargs : (s.fn H ds).args = ds) (hvs : (s.fn H ds).vars = []) (hf : f.resultTypes = #[4]) (hts : ∀ t ∈ f.params.toList, t < Try.prog.types.size)
  (hW : DataW.Whole enc Try.prog f.params.toList s.vars false W args.toList ds [] before) (hext : Ext (fun _ => False) W W') (hv : v = .bool true) :
  s.post enc Try.prog f false fresh handsOn again W args v W' := by
 subst hv
 have hlt := hW.lt
 have hW' := hW
 obtain ⟨p, q, hA, hV, hpq, hz, hn⟩ := hW
 rw [hvars] at hV
 obtain ⟨_, rfl⟩ := Go.ChangeShapes.trodVars_none hV
 rw [List.append_nil] at hpq
 subst hpq
 have carry : ∀ (ts : List TypeId) (vs : List Value) (ds : List (DataW H)) (ps : List MemPlace), DataW.TrodAll enc Try.prog W 0 (fun _ => true) true ts vs ds ps → (∀ x ∈ ps, x.block < W.heap.size) → DataW.TrodAll enc Try.prog W' 0 (fun _ => true) true ts vs ds ps := by
  intro ts
  induction ts with
  | nil => intro vs ds ps h _; match vs, ds, h with | [], [], h => exact h
  | cons t ts ih =>
   intro vs ds ps h hl
   match vs, ds, h with
   | v :: vs, d :: ds, ⟨p1, q1, ⟨n, h1⟩, h2, he⟩ =>
    subst he
    refine ⟨p1, q1, ⟨n, DataW.trod_carry n _ _ _ h1 (fun x hx => ?_)⟩, ih vs ds q1 h2 (fun x hx => hl x (List.mem_append_right _ hx)), rfl⟩
    have hb := hl x (List.mem_append_left _ hx)
    cases x with
    | cell b off => exact ext_cell hext hb
    | map b => exact hext.block b hb (fun k => k)
 have hA' := carry _ _ _ _ hA hlt
 have hag : ∀ sp : Nat → Bool, (∀ x ∈ before, sp x.block = true) → DataW.TrodAll enc Try.prog W' 0 sp true f.params.toList args.toList (s.fn H (ds ++ [])).args before := by
  intro sp hs
  rw [List.append_nil, hargs]
  exact hA'.respare kids full hts hs
 have hr : ∀ (b : Nat) (sp : Nat → Bool) (hd : Bool), DataW.TrodAll enc Try.prog W' b sp hd f.resultTypes.toList ((Value.bool true).resultList f.resultTypes.size) (s.fn H (ds ++ [])).results [] := by
  intro b sp hd
  rw [List.append_nil, hres, hf]
  exact Go.ChangeShapes.trodAll_mk1 (Go.RowKit.shut_bool und_bool2 _)
 have hkept : W.keptBut W' (· ∈ before) := by
  refine ⟨hext.os, hext.output, fun i hi => ?_⟩
  rw [hext.block i hi (fun k => k)]
  cases hb : W.heap[i]? with
  | none => trivial
  | some o => cases o <;> simp
 have hv0 : ∀ sp : Nat → Bool, DataW.TrodVars enc Try.prog W' sp s.vars (s.fn H (ds ++ [])).vars [] := by
  intro sp
  rw [hvars, List.append_nil, hvs]
  rfl
 have hold : ∀ x ∈ before, (fun b => decide (b < W.heap.size)) x.block = true := fun x hx => by simpa using hlt x hx
 refine ⟨ds, [], before, [], before, [], hW', hr _ _ _, hag _ hold, hv0 _, World.keptBut_mono (fun x hx => ⟨hx, Or.inr (Or.inl hx)⟩) hkept, fun _ => ?_⟩
 refine ⟨Go.RowKit.ok_one hf rfl (Go.RowKit.okWide_bool_mk und_bool2 _), _, _, ([] ++ before) ++ [], ⟨[] ++ before, [], Go.ChangeShapes.trodAll_append (hag _ (fun _ _ => rfl)) (hr _ _ _), hv0 _, rfl, ?_, ?_⟩, ?_⟩
 ·intro b off hp
  have hp' : MemPlace.cell b off ∈ before := by simpa using hp
  have hb := hlt _ hp'
  have : W'.frozen? ⟨b, off, none⟩ = W.frozen? ⟨b, off, none⟩ := by unfold World.frozen?; rw [hext.block b hb (fun k => k)]
  rw [this]
  exact hz b off hp'
 ·intro ha; cases ha
 ·intro x hx _; simpa using hx
theorem law_calls {P : Program} {f : FuncId} {fn : Func} {c : Code} {avs : List AV} {vs : List Value} {W : World} (hf : P.funcs[f]? = some fn) (hb : fn.body = some c) (hname : (fn.name == "runtime.NumGoroutine") = false)
  (h : PureCall P f avs (Bo true)) (hl : avs.length = vs.length) (hr : ∀ (i : Nat) c x, avs[i]? = some c → vs[i]? = some x → RepP W (fun _ => False) c x) :
  Calls P f vs.toArray W fun e W' => e = .returned (.bool true) ∧ Ext (fun _ => False) W W' := by
 have hn' : ¬ fn.name = "runtime.NumGoroutine" := by simpa using hname
 rcases h with ⟨_, h2⟩ | h2
 ·refine (h2 (fun _ => False) W vs (fun b k => k.elim) hl hr).mono fun e W' ⟨v, q1, q2, q3⟩ => ?_
  cases q2
  exact ⟨q1, q3⟩
 ·exfalso
  obtain ⟨v, q1, _⟩ := h2 (fun _ => False) W vs hl hr
  have : (callFunc f vs.toArray).run P W = .ok (.enter f vs.toArray) W := by simp [callFunc, hf, hn', hb]
  rw [this] at q1
  cases q1
theorem rep_nil {W : World} : ∀ (i : Nat) c x, ([] : List AV)[i]? = some c → ([] : List Value)[i]? = some x → RepP W (fun _ => False) c x := fun i c x h => by simp at h
theorem rep_cons {W : World} {a : AV} {v : Value} {xs : List AV} {vs : List Value} (h : RepP W (fun _ => False) a v) (k : ∀ (i : Nat) c x, xs[i]? = some c → vs[i]? = some x → RepP W (fun _ => False) c x) :
  ∀ (i : Nat) c x, (a :: xs)[i]? = some c → (v :: vs)[i]? = some x → RepP W (fun _ => False) c x := fun i c x h1 h2 => by
 cases i with
 | zero => simp at h1 h2; subst h1 h2; exact h
 | succ i => exact k i c x (by simpa using h1) (by simpa using h2)
end Go.Cur
end
section
namespace Go.Cur
open Go.AM Go.Proofs
theorem num_zero {A : Nat → Nat → Int} {b : Nat → Int} {p : List Nat} {k : Nat} (hp : p.Nodup) (hk : k ∈ p) (hb : ∀ i ∈ p, b i = 0) : num A b p k = 0 := by
 obtain ⟨j, hj⟩ := List.getElem?_of_mem hk
 have hjl := (List.getElem?_eq_some_iff.1 hj).1
 have e : p.getD j 0 = k := by rw [List.getD_eq_getElem?_getD, hj]; rfl
 rw [← e, num_minor hp hjl]
 have hex : ∀ (f : Nat → Nat) (l : List Nat), ∃ R, ∀ i ∈ l, f i ≤ R := by
  intro f l
  induction l with
  | nil => exact ⟨0, by simp⟩
  | cons a l ih =>
   obtain ⟨R, h⟩ := ih
   refine ⟨f a + R, fun i hi => ?_⟩
   rcases List.mem_cons.1 hi with rfl | hi
   ·omega
   ·have := h i hi; omega
 obtain ⟨R, hR⟩ := hex (fun i => sa (fun c => if c = j then 0 else ((if c = j then b (p.getD i 0) else A (p.getD i 0) (p.getD c 0)) : Int).natAbs) (List.range p.length)) (List.range p.length)
 have := minor_mark (a := fun i c => if c = j then b (p.getD i 0) else A (p.getD i 0) (p.getD c 0)) (R := R) (B := 0) (k0 := j) (rows := List.range p.length) (cols := List.range p.length) List.nodup_range (List.mem_range.2 hjl)
  (fun i hi => by simp only [if_true]; rw [hb _ (getD_mem (List.mem_range.1 hi))]; exact Nat.le_refl _) hR
 rw [bnd_zero] at this
 omega
def mxF (g : Gr) (fs : List Int) : Int := fs.foldl (fun m f => maxI m (fdI g f).Volts) 0
theorem maxI_mul {a b d : Int} (hd : 0 < d) : maxI (a * d) (b * d) = maxI a b * d := by
 unfold maxI
 by_cases h : b > a
 ·rw [if_pos h, if_pos (Int.mul_lt_mul_of_pos_right h hd)]
 ·rw [if_neg h, if_neg]
  have := Int.mul_le_mul_of_nonneg_right (show b ≤ a by omega) (Int.le_of_lt hd)
  omega
theorem shift_mul {d : Int} (hd : 0 < d) : ∀ (xs : List Int) (x0 : Int), shiftL (x0 * d) (xs.map fun x => x * d) = shiftL x0 xs * d
 | [], x0 => rfl
 | x :: xs, x0 => by
  have := shift_mul hd xs (maxI x0 x)
  unfold shiftL at this ⊢
  rw [List.map_cons, List.foldl_cons, List.foldl_cons, maxI_mul hd, this]
theorem red_mul {m d : Int} (hd : 0 < d) : red (m * d) d = ⟨m, 1⟩ := by
 unfold red
 have e : Int.gcd (m * d) d = d.natAbs := by
  rw [Int.gcd_eq_natAbs_gcd_natAbs, Int.natAbs_mul]
  exact Nat.gcd_mul_left_left _ _
 rw [e, Int.natAbs_of_nonneg (Int.le_of_lt hd), Int.mul_ediv_cancel _ (by omega), Int.ediv_self (by omega)]
theorem mxF_ge (g : Gr) : ∀ (fs : List Int) (m : Int), m ≤ fs.foldl (fun m f => maxI m (fdI g f).Volts) m ∧ ∀ f ∈ fs, (fdI g f).Volts ≤ fs.foldl (fun m f => maxI m (fdI g f).Volts) m
 | [], m => ⟨Int.le_refl _, by simp⟩
 | f :: fs, m => by
  obtain ⟨h1, h2⟩ := mxF_ge g fs (maxI m (fdI g f).Volts)
  rw [List.foldl_cons]
  have h3 : m ≤ maxI m (fdI g f).Volts ∧ (fdI g f).Volts ≤ maxI m (fdI g f).Volts := by unfold maxI; split <;> omega
  refine ⟨by omega, fun x hx => ?_⟩
  rcases List.mem_cons.1 hx with rfl | hx
  ·omega
  ·exact h2 x hx
theorem igt_none (x : Int) : igt (tkK [] (allS [])) x = 0 := rfl
section
variable {g : Gr} {s : Sta} {p : List Nat}
theorem quiet_shift (hnt : NetOk g s) (hp : p ∈ partL g s) (us : Kvs) (hz : ∀ x, igt us x = 0) (hf : feedL g s (upN p) ≠ []) (h10 : p.length ≤ 10) (hus : ∀ x, -40 ≤ igt us x ∧ igt us x ≤ 40) :
  ∃ d, 0 < d ∧ pvol g s us p = (p.map fun _ => mxF g (feedL g s (upN p)) * d, d, true) := by
 obtain ⟨z1, z2, z3⟩ : Sml0 (ptO g s us p) (p.getD 0 0) := Pt_small0 (us := us) hnt hp (Or.inr ⟨h10, hz⟩) rfl hus (p.getD 0 0) rfl
 have ho := Pt_ok (us := us) hnt hp rfl
 refine ⟨_, z2, ?_⟩
 have hs := sumU_zero hz p
 have hn0 : ∀ k ∈ p, (ptO g s us p).num0 (p.getD 0 0) k = 0 := fun k hk => by
  unfold Part.num0
  refine num_zero ho.nd hk fun i _ => ?_
  unfold Part.b0
  show (if i = _ then (0 : Int) else - igt us i) = 0
  rw [hz]; split <;> rfl
 have hpin : ∀ b, b < (feedL g s (upN p)).length → (ptO g s us p).p b ∈ p := fun b hb => (feed_at hnt rfl hb).2.2.2.2.2.1
 unfold pvol
 rw [if_neg hf, if_neg (by omega), if_pos hs]
 have hpos : 0 < (feedL g s (upN p)).length := List.length_pos_iff.2 hf
 generalize hd : (ptO g s us p).den0 (p.getD 0 0) = d at z2
 have e1 : shiftL ((ptO g s us p).V 0 * d - (ptO g s us p).num0 (p.getD 0 0) ((ptO g s us p).p 0)) ((List.range (feedL g s (upN p)).length).map fun b => (ptO g s us p).V b * d - (ptO g s us p).num0 (p.getD 0 0) ((ptO g s us p).p b)) = mxF g (feedL g s (upN p)) * d := by
  rw [hn0 _ (hpin 0 hpos), Int.sub_zero]
  have e2 : ((List.range (feedL g s (upN p)).length).map fun b => (ptO g s us p).V b * d - (ptO g s us p).num0 (p.getD 0 0) ((ptO g s us p).p b)) = (((feedL g s (upN p)).map fun f => (fdI g f).Volts).map fun x => x * d) := by
   rw [List.map_map]
   refine List.ext_getElem? fun i => ?_
   by_cases hi : i < (feedL g s (upN p)).length
   ·have hfa := feed_at hnt (p := p) rfl hi
    rw [List.getElem?_map, List.getElem?_range hi, List.getElem?_map, hfa.1]
    simp only [Option.map_some, Function.comp_apply]
    rw [hn0 _ (hpin i hi), Int.sub_zero]; rfl
   ·rw [List.getElem?_eq_none (by simp; omega), List.getElem?_eq_none (by simp; omega)]
  rw [e2, shift_mul z2]
  congr 1
  have hV0 : (ptO g s us p).V 0 = (fdI g (at0 (feedL g s (upN p)) 0)).Volts := rfl
  rw [hV0]
  have hfa := feed_at hnt (p := p) rfl hpos
  cases hF : feedL g s (upN p) with
  | nil => exact absurd hF hf
  | cons f tl =>
   have ea : at0 (f :: tl) 0 = f := rfl
   rw [ea]
   rw [hF, show at0 (f :: tl) (0 : Nat) = f from rfl] at hfa
   unfold shiftL mxF
   rw [List.map_cons, List.foldl_cons, List.foldl_cons, List.foldl_map]
   have m1 : maxI (fdI g f).Volts (fdI g f).Volts = (fdI g f).Volts := by unfold maxI; split <;> rfl
   have m2 : maxI 0 (fdI g f).Volts = (fdI g f).Volts := by unfold maxI; rw [if_pos (by omega)]
   rw [m1, m2]
 rw [e1]
 refine Prod.ext ?_ rfl
 refine List.map_congr_left fun k hk => ?_
 rw [hn0 k hk, Int.zero_add]
theorem quiet_vf (hnt : NetOk g s) (hp : p ∈ partL g s) (us : Kvs) (hz : ∀ x, igt us x = 0) (h10 : p.length ≤ 10) {k : Nat} (hk : k ∈ p) : (pvol g s us p).2.2 = true ∧ vfS g s us k = ⟨mxF g (feedL g s (upN p)), 1⟩ := by
 have hus : ∀ x, -40 ≤ igt us x ∧ igt us x ≤ 40 := fun x => by rw [hz]; omega
 have hpe := partOf_eq hp hk
 have hi : p.idxOf k < p.length := List.idxOf_lt_length_of_mem hk
 by_cases hf : feedL g s (upN p) = []
 ·have e : pvol g s us p = (zerosL p.length, 1, true) := by
   unfold pvol
   rw [if_pos hf]
   have : noneU us p = true := by
    unfold noneU
    rw [List.all_eq_true]
    intro x _
    rw [hz]; rfl
   rw [this]
  refine ⟨by rw [e], ?_⟩
  unfold vfS
  rw [← hpe, e, hf]
  have : at0 (zerosL p.length) (p.idxOf k : Nat) = 0 := at0_of (by unfold zerosL; rw [List.getElem?_replicate, if_pos hi])
  simp only [this]
  rfl
 ·obtain ⟨d, hd, e⟩ := quiet_shift hnt hp us hz hf h10 hus
  refine ⟨by rw [e], ?_⟩
  unfold vfS
  rw [← hpe, e]
  have : at0 (p.map fun _ => mxF g (feedL g s (upN p)) * d) (p.idxOf k : Nat) = mxF g (feedL g s (upN p)) * d := at0_of (by rw [List.getElem?_map, List.getElem?_eq_getElem hi]; rfl)
  simp only [this]
  exact red_mul hd
end
theorem quiet_ff {g : Gr} {s : Sta} (hnt : NetOk g s) (us : Kvs) (hz : ∀ x, igt us x = 0) (h10 : ∀ p ∈ partL g s, p.length ≤ 10) {i : Nat} (hi : i < g.Feeds.length) : ffF g s (vfS g s us) i = ⟨0, 1⟩ := by
 have hg : g.Feeds[i]? = some (fdI g (i : Int)) := by have := fdI_get (g := g) (i := (i : Int)) (by omega) (by omega); rwa [Int.toNat_natCast] at this
 have hb := hnt.feeds _ (List.mem_of_getElem? hg)
 obtain ⟨p, hp, hkp⟩ := List.mem_flatten.1 (partL_all hnt (k := (fdI g (i : Int)).At.toNat) (by omega))
 have hv := (quiet_vf hnt hp us hz (h10 p hp) hkp).2
 unfold ffF
 simp only [hv]
 rw [if_neg]
 rintro ⟨h1, h2⟩
 have hm : (i : Int) ∈ feedL g s (upN p) := by
  unfold feedL
  rw [List.mem_filter, upI_mem]
  refine ⟨⟨by omega, by omega⟩, ?_⟩
  unfold fdOn
  rw [Int.toNat_natCast, h1, Bool.true_and, decide_eq_true_eq, upN_mem]
  exact ⟨hb.1, hkp⟩
 have := (mxF_ge g (feedL g s (upN p)) 0).2 _ hm
 unfold mxF at h2
 omega
theorem c_CurrentQuiet (g : Gr) (s : Sta) : PureCall Try.prog 9 [g.av, s.av] (Bo true) := by
 have hk := c_known
 have hfw := PureCall.nil3 (c_few g s [])
 have hrf : fewB g s 0 = true → PureCall Try.prog 16 [g.av, s.av, .v (.slice none 0 0)] (I (refE g s [])) := fun h => by
  have hsp := few_spec h
  exact PureCall.nil3 (c_refused g s [] (by omega) (by omega) (by simp))
 refine PureCall.of_body Try.func9 rfl (by decide) (by simp [Try.ntmps9]) ?_
 simp only [Try.ntmps9, Try.results9]
 refine awp_sr rfl fun K hK => ?_
 simp -dsimp
 refine hK _ _ ?_; clear hK K
 refine awp_seq_k fun K1 hK1 => ?_
 refine awp_sr rfl fun K hK => ?_
 simp -dsimp
 refine callK_intro _ (hfw) (by simp) ?_
 simp -dsimp
 refine callK_may _ (fun hm => hrf (by simpa using hm)) (by simp) ?_
 simp -dsimp
 refine hK _ _ ?_; clear hK K
 refine awp_cond rfl (fun hc0 => ?_) (fun hc0 => ?_)
 ·skip
  skip
  refine awp_sr rfl fun K hK => ?_
  simp -dsimp
  refine callK_intro _ (hk) (by simp) ?_
  simp -dsimp
  refine hK _ _ ?_; clear hK K
  exact awp_ret (by simp)
 ·skip
  skip
  have hfew : fewB g s 0 = true := by simp at hc0; exact hc0.1
  have hre : refE g s [] = 0 := by simp at hc0; exact hc0.2
  have hfi : fineB g s [] = true := by
   unfold refE at hre
   cases h : fineB g s [] with
   | true => rfl
   | false => rw [h] at hre; simp at hre
  have hlo : longB g s = false := by
   unfold refE at hre
   rw [hfi] at hre
   cases h : longB g s with
   | false => rfl
   | true => rw [h] at hre; simp at hre
  have hnt := fine_net hfi
  have hbd := grB_bd hnt.gr
  have h10 : ∀ p ∈ partL g s, p.length ≤ 10 := fun p hp => by
   unfold longB at hlo
   rw [List.any_eq_false] at hlo
   have := hlo p hp
   simpa using this
  have h12 : Few12 g s := fun p hp => by have := h10 p hp; omega
  have hz : ∀ x, igt (tkK [] (allS [])) x = 0 := igt_none
  have hsz : ∀ p ∈ partL g s, Siz (tkK [] (allS [])) p := fun p hp => Or.inr ⟨h10 p hp, hz⟩
  have hok : okS g s (tkK [] (allS [])) = true := by
   unfold okS
   rw [List.all_eq_true]
   intro p hp
   have hne : p ≠ [] := by obtain ⟨i, hi, e⟩ := partL_head hp; rw [e]; exact List.ne_nil_of_mem (cp_self hi)
   obtain ⟨k, hkp⟩ := List.exists_mem_of_ne_nil p hne
   exact (quiet_vf hnt hp _ hz (h10 p hp) hkp).1
  have hsv := c_Solve g s [] (by simp) (fun _ => h12) (fun _ _ => hsz)
  unfold solveA at hsv
  rw [if_pos hfi, if_neg (by rw [hlo]; decide), if_pos hok] at hsv
  have hsv := PureCall.nil3 hsv
  have hvf := fun p (hp : p ∈ partL g s) k (hkp : k ∈ p) => (quiet_vf hnt hp (tkK [] (allS [])) hz (h10 p hp) hkp).2
  have hff := fun i (hi : i < g.Feeds.length) => quiet_ff hnt (tkK [] (allS [])) hz h10 hi
  have hvl : (vlA g.Nodes.toNat (vfS g s (tkK [] (allS [])))).length = g.Nodes.toNat := by simp [vlA]
  have hfl : (flA g s (vfS g s (tkK [] (allS [])))).length = g.Feeds.length := by simp [flA]
  have hvg := fun k (hk : k < g.Nodes.toNat) => vlA_get (vf := vfS g s (tkK [] (allS []))) hk
  have hfg : ∀ i, i < g.Feeds.length → (flA g s (vfS g s (tkK [] (allS []))))[i]? = some ⟨0, 1⟩ := fun i hi => by unfold flA; rw [List.getElem?_map, List.getElem?_range hi]; exact congrArg some (hff i hi)
  have hlt := fun p (hp : p ∈ partL g s) k (hk : k ∈ p) => partL_lt hp hk
  have hrp := c_rParts g s hnt
  have hpl := partL_len g s
  generalize flA g s (vfS g s (tkK [] (allS []))) = FS at hsv hfl hfg
  generalize vlA g.Nodes.toNat (vfS g s (tkK [] (allS []))) = VS at hsv hvl hvg
  generalize vfS g s (tkK [] (allS [])) = vf at hvg hvf
  generalize partL g s = ps at hrp hpl hvf hlt h10
  refine awp_skip ?_
  simp only [zT, reduceIte, Nat.reduceEqDiff]
  refine hK1 _ _ ?_
  refine awp_prune [2, 3] ?_
  simp only [zP, Nat.reduceEqDiff, reduceIte]
  refine awp_sr rfl fun K hK => ?_
  simp -dsimp
  refine callK_intro _ (hsv) (by simp) ?_
  simp -dsimp
  refine hK _ _ ?_; clear hK K
  refine awp_seq_k fun K2 hK2 => ?_
  refine awp_sr rfl fun K hK => ?_
  simp -dsimp [hvl, hfl]
  refine hK _ _ ?_; clear hK K
  refine awp_cond rfl (fun hc1 => ?_) (fun hc1 => ?_)
  ·skip
   skip
   exfalso
   simp at hc1
   omega
  ·skip
   skip
   refine awp_skip ?_
   simp only [zT, reduceIte, Nat.reduceEqDiff]
   refine hK2 _ _ ?_
   refine awp_prune [2, 3, 5, 6] ?_
   simp only [zP, Nat.reduceEqDiff, reduceIte]
   refine awp_sr rfl fun K hK => ?_
   simp -dsimp
   refine callK_intro _ (hrp) (by simp) ?_
   simp -dsimp
   refine hK _ _ ?_; clear hK K
   refine awp_seq_k fun K3 hK3 => ?_
   refine awp_sr rfl fun K hK => ?_
   simp -dsimp
   refine hK _ _ ?_; clear hK K
   refine awp_block ?_
   refine awp_prune [2, 3, 5, 6, 8, 9] ?_
   simp only [zP, Nat.reduceEqDiff, reduceIte]
   refine awp_loop_l [2, 3, 5, 6, 8] (α := Nat) (fun k => [(9, I k)]) (fun k => [some (.els 4 [g.cells]), some (.els 2 [s.cells])]) (fun k => k ≤ ps.length) (fun k => ps.length - k) 0 ?_ ?_ ?_
   ·exact Nat.zero_le _
   ·exact sub_rb [some 0, some 1] rfl (by simp) (by simp)
   rintro k k1
   simp only [List.cons_append, List.nil_append, zP, Nat.reduceEqDiff, reduceIte]
   refine awp_seq_k fun K4 hK4 => ?_
   refine awp_sr rfl fun K hK => ?_
   simp -dsimp
   refine hK _ _ ?_; clear hK K
   refine awp_cond rfl (fun hc2 => ?_) (fun hc2 => ?_)
   ·skip
    skip
    have hkl : k < ps.length := by simpa using hc2
    have wk : IntKind.i64.wrap ((k : Int) + 1) = (k : Int) + 1 := wrap_in (by omega) (by omega)
    obtain ⟨p, hp⟩ : ∃ p, ps[k]? = some p := ⟨_, List.getElem?_eq_getElem hkl⟩
    have hpm := List.mem_of_getElem? hp
    have hul := upN_len p
    have hp10 := h10 p hpm
    have hfd := c_rFeeders g s (upN p) hnt.sf (by omega) (by omega)
    have hfm := fun f (hf : f ∈ feedL g s (upN p)) => feedL_mem hf
    have hfs12 := fs_len (p := p) hnt rfl
    obtain ⟨F, hF⟩ : ∃ F, F = feedL g s (upN p) := ⟨_, rfl⟩
    have hvp : ∀ q ∈ p, vf q = ⟨mxF g F, 1⟩ := fun q hq => by rw [hF]; exact hvf p hpm q hq
    rw [← hF] at hfd hfm hfs12
    refine awp_skip ?_
    simp only [zT, reduceIte, Nat.reduceEqDiff]
    refine hK4 _ _ ?_
    refine awp_prune [2, 3, 5, 6, 8, 9] ?_
    simp only [zP, Nat.reduceEqDiff, reduceIte]
    refine awp_seq_k fun K5 hK5 => ?_
    refine awp_block ?_
    refine awp_sr rfl fun K hK => ?_
    simp -dsimp
    refine hK _ _ ?_; clear hK K
    refine awp_sd mixed rfl fun K hK => ?_
    simp -dsimp [hp, pAV]
    refine callK_intro _ (hfd) (by simp) ?_
    simp -dsimp [hp, pAV]
    refine hK _ _ _ (by decide +kernel) ?_; clear hK K
    refine awp_seq_k fun K6 hK6 => ?_
    refine awp_sr rfl fun K hK => ?_
    simp -dsimp
    refine hK _ _ ?_; clear hK K
    refine awp_block ?_
    refine awp_prune [2, 3, 5, 6, 8, 9, 10, 11, 12] ?_
    simp only [zP, Nat.reduceEqDiff, reduceIte]
    refine awp_loop_l [2, 3, 5, 6, 8, 9, 11] (α := Nat) (fun i => [(10, I (mxF g (F.take i))), (12, I i)]) (fun i => [some (.els 4 [g.cells]), some (.els 2 [s.cells])]) (fun i => i ≤ F.length) (fun i => F.length - i) 0 ?_ ?_ ?_
    ·exact Nat.zero_le _
    ·exact sub_rb [some 0, some 1] rfl (by simp [mxF]) (by simp)
    rintro i i1
    simp only [List.cons_append, List.nil_append, zP, Nat.reduceEqDiff, reduceIte]
    refine awp_seq_k fun K7 hK7 => ?_
    refine awp_sr rfl fun K hK => ?_
    simp -dsimp
    refine hK _ _ ?_; clear hK K
    refine awp_cond rfl (fun hc3 => ?_) (fun hc3 => ?_)
    ·skip
     skip
     have hil : i < F.length := by simpa using hc3
     have wi : IntKind.i64.wrap ((i : Int) + 1) = (i : Int) + 1 := wrap_in (by omega) (by omega)
     obtain ⟨f, hf⟩ : ∃ f, F[i]? = some f := ⟨_, List.getElem?_eq_getElem hil⟩
     have hfi2 := hfm f (List.mem_of_getElem? hf)
     have gf := fdI_get hfi2.1 hfi2.2.1
     have hms : mxF g (F.take (i + 1)) = maxI (mxF g (F.take i)) (fdI g f).Volts := by unfold mxF; rw [List.take_add_one, hf, List.foldl_append]; rfl
     unfold maxI at hms
     refine awp_skip ?_
     simp only [zT, reduceIte, Nat.reduceEqDiff]
     refine hK7 _ _ ?_
     refine awp_prune [2, 3, 5, 6, 8, 9, 10, 11, 12] ?_
     simp only [zP, Nat.reduceEqDiff, reduceIte]
     refine awp_seq_k fun K8 hK8 => ?_
     refine awp_block ?_
     refine awp_draw mixed rfl fun K hK => ?_
     simp -dsimp [hf, gf, hfi2.1]
     refine hK _ _ _ (by decide +kernel) ?_; clear hK K
     simp only [zT, reduceIte, Nat.reduceEqDiff]
     refine hK8 _ _ ?_
     refine awp_prune [2, 3, 5, 6, 8, 9, 10, 11, 12] ?_
     simp only [zP, Nat.reduceEqDiff, reduceIte]
     refine awp_r rfl fun K hK => ?_
     simp -dsimp [wi]
     refine hK _ _ ?_; clear hK K
     simp only [zT, reduceIte, Nat.reduceEqDiff]
     exact ⟨i + 1, by omega, by omega, sub_rb [some 0, some 1] rfl (by simp [hms]) (by simp)⟩
    ·skip
     skip
     have hie : i = F.length := by have hx : ¬ i < F.length := (by simpa using hc3); omega
     rw [hie, List.take_of_length_le (Nat.le_refl _)]
     refine awp_exit ?_
     simp only [zT, reduceIte, Nat.reduceEqDiff]
     refine hK6 _ _ ?_
     refine awp_prune [2, 3, 5, 6, 8, 9, 10] ?_
     simp only [zP, Nat.reduceEqDiff, reduceIte]
     refine awp_sr rfl fun K hK => ?_
     simp -dsimp
     refine hK _ _ ?_; clear hK K
     refine awp_block ?_
     refine awp_prune [2, 3, 5, 6, 8, 9, 10, 13] ?_
     simp only [zP, Nat.reduceEqDiff, reduceIte]
     refine awp_loop_l [2, 3, 5, 6, 8, 9, 10] (α := Nat) (fun j => [(13, I j)]) (fun j => [some (.els 4 [g.cells]), some (.els 2 [s.cells])]) (fun j => j ≤ p.length) (fun j => p.length - j) 0 ?_ ?_ ?_
     ·exact Nat.zero_le _
     ·exact sub_rb [some 0, some 1] rfl (by simp) (by simp)
     rintro j j1
     simp only [List.cons_append, List.nil_append, zP, Nat.reduceEqDiff, reduceIte]
     refine awp_seq_k fun K9 hK9 => ?_
     refine awp_sr rfl fun K hK => ?_
     simp -dsimp [hp, pAV]
     refine hK _ _ ?_; clear hK K
     refine awp_cond rfl (fun hc4 => ?_) (fun hc4 => ?_)
     ·skip
      skip
      have hjl : j < p.length := by rw [← hul]; simpa using hc4
      have wj : IntKind.i64.wrap ((j : Int) + 1) = (j : Int) + 1 := wrap_in (by omega) (by omega)
      obtain ⟨q, hq⟩ : ∃ q, p[j]? = some q := ⟨_, List.getElem?_eq_getElem hjl⟩
      have hqm := List.mem_of_getElem? hq
      have gq := upN_get hq
      have gv := hvg q (hlt p hpm q hqm)
      rw [hvp q hqm] at gv
      refine awp_skip ?_
      simp only [zT, reduceIte, Nat.reduceEqDiff]
      refine hK9 _ _ ?_
      refine awp_prune [2, 3, 5, 6, 8, 9, 10, 13] ?_
      simp only [zP, Nat.reduceEqDiff, reduceIte]
      refine awp_seq_k fun K10 hK10 => ?_
      refine awp_block ?_
      refine awp_sr rfl fun K hK => ?_
      simp -dsimp [hp, pAV, gq, gv]
      refine hK _ _ ?_; clear hK K
      refine awp_cond rfl (fun hc5 => ?_) (fun hc5 => ?_)
      ·skip
       skip
       simp at hc5
      ·skip
       skip
       refine awp_skip ?_
       simp only [zT, reduceIte, Nat.reduceEqDiff]
       refine hK10 _ _ ?_
       refine awp_prune [2, 3, 5, 6, 8, 9, 10, 13] ?_
       simp only [zP, Nat.reduceEqDiff, reduceIte]
       refine awp_r rfl fun K hK => ?_
       simp -dsimp [wj]
       refine hK _ _ ?_; clear hK K
       simp only [zT, reduceIte, Nat.reduceEqDiff]
       exact ⟨j + 1, by omega, by omega, sub_rb [some 0, some 1] rfl (by simp) (by simp)⟩
     ·skip
      skip
      refine awp_exit ?_
      simp only [zT, reduceIte, Nat.reduceEqDiff]
      refine hK5 _ _ ?_
      refine awp_prune [2, 3, 5, 6, 8, 9] ?_
      simp only [zP, Nat.reduceEqDiff, reduceIte]
      refine awp_r rfl fun K hK => ?_
      simp -dsimp [wk]
      refine hK _ _ ?_; clear hK K
      simp only [zT, reduceIte, Nat.reduceEqDiff]
      exact ⟨k + 1, by omega, by omega, sub_rb [some 0, some 1] rfl (by simp) (by simp)⟩
   ·skip
    skip
    refine awp_exit ?_
    simp only [zT, reduceIte, Nat.reduceEqDiff]
    refine hK3 _ _ ?_
    refine awp_prune [6] ?_
    simp only [zP, Nat.reduceEqDiff, reduceIte]
    refine awp_seq_k fun K11 hK11 => ?_
    refine awp_sr rfl fun K hK => ?_
    simp -dsimp
    refine hK _ _ ?_; clear hK K
    refine awp_block ?_
    refine awp_prune [6, 14] ?_
    simp only [zP, Nat.reduceEqDiff, reduceIte]
    refine awp_loop_l [6] (α := Nat) (fun i => [(14, I i)]) (fun i => []) (fun i => i ≤ FS.length) (fun i => FS.length - i) 0 ?_ ?_ ?_
    ·exact Nat.zero_le _
    ·exact sub_rb [] rfl (by simp) (by simp)
    rintro i i1
    simp only [List.cons_append, List.nil_append, zP, Nat.reduceEqDiff, reduceIte]
    refine awp_seq_k fun K12 hK12 => ?_
    refine awp_sr rfl fun K hK => ?_
    simp -dsimp
    refine hK _ _ ?_; clear hK K
    refine awp_cond rfl (fun hc6 => ?_) (fun hc6 => ?_)
    ·skip
     skip
     have hil : i < FS.length := by simpa using hc6
     have wi : IntKind.i64.wrap ((i : Int) + 1) = (i : Int) + 1 := wrap_in (by omega) (by omega)
     have gf := hfg i (by omega)
     refine awp_skip ?_
     simp only [zT, reduceIte, Nat.reduceEqDiff]
     refine hK12 _ _ ?_
     refine awp_prune [6, 14] ?_
     simp only [zP, Nat.reduceEqDiff, reduceIte]
     refine awp_seq_k fun K13 hK13 => ?_
     refine awp_block ?_
     refine awp_sr rfl fun K hK => ?_
     simp -dsimp [gf]
     refine hK _ _ ?_; clear hK K
     refine awp_cond rfl (fun hc7 => ?_) (fun hc7 => ?_)
     ·skip
      skip
      simp at hc7
     ·skip
      skip
      refine awp_skip ?_
      simp only [zT, reduceIte, Nat.reduceEqDiff]
      refine hK13 _ _ ?_
      refine awp_prune [6, 14] ?_
      simp only [zP, Nat.reduceEqDiff, reduceIte]
      refine awp_r rfl fun K hK => ?_
      simp -dsimp [wi]
      refine hK _ _ ?_; clear hK K
      simp only [zT, reduceIte, Nat.reduceEqDiff]
      exact ⟨i + 1, by omega, by omega, sub_rb [] rfl (by simp) (by simp)⟩
    ·skip
     skip
     refine awp_exit ?_
     simp only [zT, reduceIte, Nat.reduceEqDiff]
     refine hK11 _ _ ?_
     refine awp_prune [] ?_
     simp only [zP, Nat.reduceEqDiff, reduceIte]
     refine awp_sr rfl fun K hK => ?_
     simp -dsimp
     refine callK_intro _ (hk) (by simp) ?_
     simp -dsimp
     refine hK _ _ ?_; clear hK K
     exact awp_ret (by simp)
end Go.Cur
end
