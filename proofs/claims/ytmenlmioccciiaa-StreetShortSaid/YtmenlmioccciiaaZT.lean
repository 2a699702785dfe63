/- What the arguments of the laws of the street read as: junctions, programs, lists. No condition. -/
import Derived.Test.YtmenlmioccciiaaT1
import Derived.Test.YtmenlmioccciiaaZ4
namespace Go.Street
open Go.AM Go.Proofs Go.Tram
set_option maxRecDepth 100000
set_option maxHeartbeats 1000000
set_option linter.unusedVariables false
set_option linter.unusedSimpArgs false

section
variable {P : Program}
theorem shaped_slice {n : Nat} {t e : TypeId} {avs : List AV} (hk : ktOf P t = none) (ht : tdOf P t = .slice e) (h : Shaped P (n + 1) t avs) : ∃ els, avs = [.lst (tdOf P e).size els] ∧ els.length ≤ maxLen ∧ ∀ el ∈ els, Shaped P n e el := by
  simp only [Shaped, hk, ht] at h; exact h
theorem shaped_agg {n : Nat} {t : TypeId} {z : List Value} {fs : List (Nat × Nat × TypeId)} {avs : List AV} (hk : ktOf P t = none) (ht : tdOf P t = .agg z fs) (h : Shaped P (n + 1) t avs) : avs.length = z.length ∧ ∀ f ∈ fs, Shaped P n f.2.2 ((avs.drop f.1).take f.2.1) := by
  simp only [Shaped, hk, ht] at h; exact h
theorem shaped_int {n : Nat} {t : TypeId} {k : IntKind} {avs : List AV} (hk : ktOf P t = some (.i k)) (h : Shaped P (n + 1) t avs) : ∃ m, avs = [.v (.int k m)] ∧ (Lit.int k m).wf = true := by
  simp only [Shaped, hk] at h; exact h
theorem shaped_bool {n : Nat} {t : TypeId} {avs : List AV} (hk : ktOf P t = some .b) (h : Shaped P (n + 1) t avs) : ∃ b, avs = [.v (.bool b)] := by
  simp only [Shaped, hk] at h; exact h
end

theorem list_of {α : Type} {c : α → List AV} {R : α → Prop} : ∀ {els : List (List AV)}, (∀ el ∈ els, ∃ a, el = c a ∧ R a) → ∃ l : List α, els = l.map c ∧ ∀ a ∈ l, R a
  | [], _ => ⟨[], rfl, by simp⟩
  | e :: els, h => by
    obtain ⟨a, rfl, ha⟩ := h e (List.mem_cons_self ..)
    obtain ⟨l, rfl, hl⟩ := list_of (els := els) (c := c) (R := R) (fun el hel => h el (List.mem_cons_of_mem _ hel))
    refine ⟨a :: l, rfl, fun b hb => ?_⟩
    rcases List.mem_cons.1 hb with rfl | hb
    · exact ha
    · exact hl b hb

theorem und_int : (Try.prog).underlying 3 = some (.int .i64) := by kernel_rfl
theorem und_bool2 : (Try.prog).underlying 4 = some .bool := by kernel_rfl
theorem k_int : ktOf Try.prog 3 = some (.i .i64) := by kernel_rfl
theorem k_kind : ktOf Try.prog 66 = some (.i .i64) := by kernel_rfl
theorem k_bool : ktOf Try.prog 4 = some .b := by kernel_rfl

/-- A number of the machine. -/
def I64 (n : Int) : Prop := -9223372036854775808 ≤ n ∧ n ≤ 9223372036854775807
theorem wf_i64 {m : Int} (h : (Lit.int .i64 m).wf = true) : I64 m := by
  simpa [Lit.wf, IntKind.min, IntKind.max, IntKind.signed, IntKind.bits, I64] using h

theorem sh_int {n : Nat} {avs : List AV} (h : Shaped Try.prog (n + 1) 3 avs) : ∃ m, avs = [I m] ∧ I64 m := by
  obtain ⟨m, h1, h2⟩ := shaped_int k_int h; exact ⟨m, h1, wf_i64 h2⟩

/-- A junction of the machine. -/
structure JnIn (j : Jn) : Prop where
  s : j.Streams.length ≤ maxLen
  c : j.Clears.length ≤ maxLen
  p : j.Phases.length ≤ maxLen
  l : j.Longest.length ≤ maxLen
  g : j.Gates.length ≤ maxLen
  rs : ∀ s ∈ j.Streams, I64 s.Kind ∧ I64 s.Least
  rc : ∀ r ∈ j.Clears, r.length ≤ maxLen ∧ ∀ x ∈ r, I64 x
  rp : ∀ r ∈ j.Phases, r.length ≤ maxLen ∧ ∀ x ∈ r, I64 x
  rl : ∀ x ∈ j.Longest, I64 x
  k : I64 j.Skips
  rg : ∀ g ∈ j.Gates, I64 g.M.Rail ∧ I64 g.Stream
structure PgIn (p : Pg) : Prop where
  c : I64 p.Cycle
  b : p.Begins.length ≤ maxLen
  rb : ∀ x ∈ p.Begins, I64 x
  l : p.Lasts.length ≤ maxLen
  rl : ∀ x ∈ p.Lasts, I64 x
theorem list2 {α : Type} {l : List α} (h : l.length = 2) : ∃ a b, l = [a, b] := by match l, h with | [a, b], _ => exact ⟨a, b, rfl⟩
theorem list3 {α : Type} {l : List α} (h : l.length = 3) : ∃ a b c, l = [a, b, c] := by match l, h with | [a, b, c], _ => exact ⟨a, b, c, rfl⟩
theorem list5 {α : Type} {l : List α} (h : l.length = 5) : ∃ a b c d e, l = [a, b, c, d, e] := by match l, h with | [a, b, c, d, e], _ => exact ⟨a, b, c, d, e, rfl⟩

theorem list6 {α : Type} {l : List α} (h : l.length = 6) : ∃ a b c d e f, l = [a, b, c, d, e, f] := by match l, h with | [a, b, c, d, e, f], _ => exact ⟨a, b, c, d, e, f, rfl⟩
theorem sh_ints {n : Nat} {avs : List AV} (h : Shaped Try.prog (n + 2) 24 avs) : ∃ l : List Int, avs = [iL l] ∧ l.length ≤ maxLen ∧ ∀ x ∈ l, I64 x := by
  obtain ⟨els, hl, hb, he⟩ := shaped_slice (by kernel_rfl) td24 h
  obtain ⟨l, rfl, hR⟩ := list_of (c := nCell) (R := fun x => I64 x) (fun el hel => sh_int (he el hel))
  simp at hl hb
  exact ⟨l, hl, hb, hR⟩
theorem sh_rows {n : Nat} {avs : List AV} (h : Shaped Try.prog (n + 3) 23 avs) : ∃ l : List (List Int), avs = [.lst 1 (l.map rCell)] ∧ l.length ≤ maxLen ∧ ∀ r ∈ l, r.length ≤ maxLen ∧ ∀ x ∈ r, I64 x := by
  obtain ⟨els, hl, hb, he⟩ := shaped_slice (by kernel_rfl) td23 h
  obtain ⟨l, rfl, hR⟩ := list_of (c := rCell) (R := fun r => r.length ≤ maxLen ∧ ∀ x ∈ r, I64 x) (fun el hel => sh_ints (he el hel))
  simp at hl hb
  exact ⟨l, hl, hb, hR⟩
theorem sh_strm {n : Nat} {avs : List AV} (h : Shaped Try.prog (n + 2) 68 avs) : ∃ s : Strm, avs = s.cells ∧ I64 s.Kind ∧ I64 s.Least := by
  obtain ⟨h1, h2⟩ := shaped_agg (by kernel_rfl) td68 h
  obtain ⟨a, b, rfl⟩ := list2 h1
  obtain ⟨x, hx, bx⟩ := shaped_int k_kind (h2 (0, 1, 66) (by simp))
  obtain ⟨y, hy, by'⟩ := sh_int (h2 (1, 1, 3) (by simp))
  simp at hx hy
  subst hx hy
  exact ⟨⟨x, y⟩, rfl, wf_i64 bx, by'⟩
theorem sh_move {n : Nat} {avs : List AV} (h : Shaped Try.prog (n + 2) 99 avs) : ∃ s : Mv, avs = s.cells ∧ I64 s.Rail := by
  obtain ⟨h1, h2⟩ := shaped_agg (by kernel_rfl) td99 h
  obtain ⟨a, b, rfl⟩ := list2 h1
  obtain ⟨x, hx, bx⟩ := sh_int (h2 (0, 1, 3) (by simp))
  obtain ⟨y, hy⟩ := shaped_bool k_bool (h2 (1, 1, 4) (by simp))
  simp at hx hy
  subst hx hy
  exact ⟨⟨x, y⟩, rfl, bx⟩
theorem sh_gate {n : Nat} {avs : List AV} (h : Shaped Try.prog (n + 3) 101 avs) : ∃ s : Gt, avs = s.cells ∧ I64 s.M.Rail ∧ I64 s.Stream := by
  obtain ⟨h1, h2⟩ := shaped_agg (by kernel_rfl) td101 h
  obtain ⟨a, b, c, rfl⟩ := list3 h1
  obtain ⟨m, hm, bm⟩ := sh_move (h2 (0, 2, 99) (by simp))
  obtain ⟨z, hz, zb⟩ := sh_int (h2 (2, 1, 3) (by simp))
  simp at hm hz
  obtain ⟨rfl, rfl⟩ := hm
  subst hz
  exact ⟨⟨m, z⟩, rfl, bm, zb⟩
theorem sh_jn {n : Nat} {avs : List AV} (h : Shaped Try.prog (n + 6) 27 avs) : ∃ j : Jn, avs = j.cells ∧ JnIn j := by
  obtain ⟨h1, h2⟩ := shaped_agg (by kernel_rfl) td27 h
  obtain ⟨a, b, c, d, e, f, rfl⟩ := list6 h1
  obtain ⟨e1, hl1, b1, he1⟩ := shaped_slice (by kernel_rfl) td22 (h2 (0, 1, 22) (by simp))
  obtain ⟨l1, rfl, r1⟩ := list_of (c := Strm.cells) (R := fun s => I64 s.Kind ∧ I64 s.Least) (fun el hel => sh_strm (he1 el hel))
  obtain ⟨l2, hl2, b2, r2⟩ := sh_rows (h2 (1, 1, 23) (by simp))
  obtain ⟨l3, hl3, b3, r3⟩ := sh_rows (h2 (2, 1, 23) (by simp))
  obtain ⟨l4, hl4, b4, r4⟩ := sh_ints (h2 (3, 1, 24) (by simp))
  obtain ⟨s, hs, bs⟩ := sh_int (h2 (4, 1, 3) (by simp))
  obtain ⟨e6, hl6, b6, he6⟩ := shaped_slice (by kernel_rfl) td25 (h2 (5, 1, 25) (by simp))
  obtain ⟨l6, rfl, r6⟩ := list_of (c := Gt.cells) (R := fun s => I64 s.M.Rail ∧ I64 s.Stream) (fun el hel => sh_gate (he6 el hel))
  simp at hl1 hl2 hl3 hl4 hs hl6
  subst hl1 hl2 hl3 hl4 hs hl6
  rw [List.length_map] at b1 b6
  exact ⟨⟨l1, l2, l3, l4, s, l6⟩, by simp, ⟨b1, b2, b3, b4, b6, r1, r2, r3, r4, bs, r6⟩⟩
theorem sh_pg {n : Nat} {avs : List AV} (h : Shaped Try.prog (n + 4) 34 avs) : ∃ p : Pg, avs = p.cells ∧ PgIn p := by
  obtain ⟨h1, h2⟩ := shaped_agg (by kernel_rfl) td34 h
  obtain ⟨a, b, c, rfl⟩ := list3 h1
  obtain ⟨s, hs, bs⟩ := sh_int (h2 (0, 1, 3) (by simp))
  obtain ⟨l4, hl4, b4, r4⟩ := sh_ints (h2 (1, 1, 24) (by simp))
  obtain ⟨l5, hl5, b5, r5⟩ := sh_ints (h2 (2, 1, 24) (by simp))
  simp at hs hl4 hl5
  subst hs hl4 hl5
  exact ⟨⟨s, l4, l5⟩, by simp, ⟨bs, b4, r4, b5, r5⟩⟩

open Go.WideShapes in
/-- An argument of a struct type. -/
theorem arg_agg {H : Type} {enc : TypeId × Value → H} {W : World} {base n : Nat} {t : TypeId} {v : Value} {d : DataW H} {p : List MemPlace} {z : List Value} {fs : List (Nat × Nat × TypeId)} (hg : goodB Try.prog n t = true) (ht : tdOf Try.prog t = .agg z fs)
    (hv : Value.okWide Try.prog W .any base t v) (h : DataW.Trod enc Try.prog W 0 (fun _ => true) true t v d p) : ∃ avs, RepP W (fun _ => False) (.agg avs) v ∧ Shaped Try.prog n t avs := by
  obtain ⟨fuel, h⟩ := h
  obtain ⟨avs, hr, hs⟩ := trod_rc n fuel t _ _ hg h
  obtain ⟨info, fa, h1, h2, _⟩ := tdOf_agg ht
  obtain ⟨cs, rfl, _⟩ := okWide_struct h2 hv
  refine ⟨avs, ?_, hs⟩
  have := RepP.agg (w := W) (S := fun _ => False) avs cs.toList hr.1 (fun x hx => by
    obtain ⟨i, hi⟩ := List.getElem?_of_mem hx
    have hil := (List.getElem?_eq_some_iff.1 hi).1
    obtain ⟨c, hc⟩ : ∃ c, avs[i]? = some c := ⟨_, List.getElem?_eq_getElem (by rw [hr.1]; exact hil)⟩
    exact (hr.2 i c x hc hi).2) (fun i c x h1 h2 => (hr.2 i c x h1 h2).1)
  simpa using this

open Go.WideShapes in
/-- An argument that is a slice. -/
theorem arg_slice {H : Type} {enc : TypeId × Value → H} {W : World} {base n : Nat} {t e : TypeId} {v : Value} {d : DataW H} {p : List MemPlace} (hg : goodB Try.prog n t = true) (ht : tdOf Try.prog t = .slice e)
    (hv : Value.okWide Try.prog W .any base t v) (h : DataW.Trod enc Try.prog W 0 (fun _ => true) true t v d p) : ∃ av, RepP W (fun _ => False) av v ∧ Shaped Try.prog n t [av] := by
  obtain ⟨fuel, h⟩ := h
  obtain ⟨avs, hr, hs⟩ := trod_rc n fuel t _ _ hg h
  obtain ⟨info, h1, h2, _⟩ := tdOf_slice ht
  obtain ⟨a, len, cap, rfl⟩ := okWide_slice h2 hv
  have hl : avs.length = 1 := by rw [hr.1]; rfl
  match avs, hl, hr, hs with
  | [av], _, hr, hs => exact ⟨av, (hr.2 0 av _ rfl rfl).1, hs⟩

/-- An int. -/
theorem arg_int {H : Type} {enc : TypeId × Value → H} {W : World} {base : Nat} {v : Value} {d : DataW H} {p : List MemPlace}
    (hv : Value.okWide Try.prog W .any base 3 v) (h : DataW.Trod enc Try.prog W 0 (fun _ => true) true 3 v d p) : ∃ n, RepP W (fun _ => False) (I n) v ∧ I64 n := by
  obtain ⟨n, rfl, rfl, rfl, w0⟩ := Go.ChangeShapes.open_int und_int hv h
  exact ⟨n, .v _, wf_i64 w0⟩

theorem laid : laidOutB Try.prog = true := by kernel_rfl
theorem mapped : mapsRowed Try.prog = true := by kernel_rfl
theorem kids : Kids Try.prog (· < Try.prog.types.size) := kids_rows laid mapped
theorem full : ∀ t e, t < Try.prog.types.size → Try.prog.underlying t = some (.slice e) → 0 < Try.prog.cellsOf e := slices_full_of Try.prog (by kernel_rfl)

theorem ext_cell {w w' : World} (h : Ext (fun _ => False) w w') {a : Addr} (ha : a.block < w.heap.size) : w'.cell? a = w.cell? a := cell_of_block (h.block _ ha (fun k => k))

/-- Behind a call that leaves all blocks alone the law's statement holds, if it returned true. -/
theorem post_ext {H : Type} {enc : TypeId × Value → H} {f : Func} {s : ChangeSpec} {fresh handsOn again : Bool} {W W' : World} {args : Array Value} {v : Value} {ds : List (DataW H)} {before : List MemPlace}
    (hvars : s.vars = []) (hres : (s.fn H ds).results = [.lit (.bool true)]) (hargs : (s.fn H ds).args = ds) (hvs : (s.fn H ds).vars = []) (hf : f.resultTypes = #[4]) (hts : ∀ t ∈ f.params.toList, t < Try.prog.types.size)
    (hW : DataW.Whole enc Try.prog f.params.toList s.vars false W args.toList ds [] before) (hext : Ext (fun _ => False) W W') (hv : v = .bool true) :
    s.post enc Try.prog f false fresh handsOn again W args v W' := by
  subst hv
  have hlt := hW.lt
  have hW' := hW
  obtain ⟨p, q, hA, hV, hpq, hz, hn⟩ := hW
  rw [hvars] at hV
  obtain ⟨_, rfl⟩ := Go.ChangeShapes.trodVars_none hV
  rw [List.append_nil] at hpq
  subst hpq
  have carry : ∀ (ts : List TypeId) (vs : List Value) (ds : List (DataW H)) (ps : List MemPlace), DataW.TrodAll enc Try.prog W 0 (fun _ => true) true ts vs ds ps → (∀ x ∈ ps, x.block < W.heap.size) → DataW.TrodAll enc Try.prog W' 0 (fun _ => true) true ts vs ds ps := by
    intro ts
    induction ts with
    | nil => intro vs ds ps h _; match vs, ds, h with | [], [], h => exact h
    | cons t ts ih =>
      intro vs ds ps h hl
      match vs, ds, h with
      | v :: vs, d :: ds, ⟨p1, q1, ⟨n, h1⟩, h2, he⟩ =>
        subst he
        refine ⟨p1, q1, ⟨n, DataW.trod_carry n _ _ _ h1 (fun x hx => ?_)⟩, ih vs ds q1 h2 (fun x hx => hl x (List.mem_append_right _ hx)), rfl⟩
        have hb := hl x (List.mem_append_left _ hx)
        cases x with
        | cell b off => exact ext_cell hext hb
        | map b => exact hext.block b hb (fun k => k)
  have hA' := carry _ _ _ _ hA hlt
  have hag : ∀ sp : Nat → Bool, (∀ x ∈ before, sp x.block = true) → DataW.TrodAll enc Try.prog W' 0 sp true f.params.toList args.toList (s.fn H (ds ++ [])).args before := by
    intro sp hs
    rw [List.append_nil, hargs]
    exact hA'.respare kids full hts hs
  have hr : ∀ (b : Nat) (sp : Nat → Bool) (hd : Bool), DataW.TrodAll enc Try.prog W' b sp hd f.resultTypes.toList ((Value.bool true).resultList f.resultTypes.size) (s.fn H (ds ++ [])).results [] := by
    intro b sp hd
    rw [List.append_nil, hres, hf]
    exact Go.ChangeShapes.trodAll_mk1 (Go.RowKit.shut_bool und_bool2 _)
  have hkept : W.keptBut W' (· ∈ before) := by
    refine ⟨hext.os, hext.output, fun i hi => ?_⟩
    rw [hext.block i hi (fun k => k)]
    cases hb : W.heap[i]? with
    | none => trivial
    | some o => cases o <;> simp
  have hv0 : ∀ sp : Nat → Bool, DataW.TrodVars enc Try.prog W' sp s.vars (s.fn H (ds ++ [])).vars [] := by
    intro sp
    rw [hvars, List.append_nil, hvs]
    rfl
  have hold : ∀ x ∈ before, (fun b => decide (b < W.heap.size)) x.block = true := fun x hx => by simpa using hlt x hx
  refine ⟨ds, [], before, [], before, [], hW', hr _ _ _, hag _ hold, hv0 _, World.keptBut_mono (fun x hx => ⟨hx, Or.inr (Or.inl hx)⟩) hkept, fun _ => ?_⟩
  refine ⟨Go.RowKit.ok_one hf rfl (Go.RowKit.okWide_bool_mk und_bool2 _), _, _, ([] ++ before) ++ [], ⟨[] ++ before, [], Go.ChangeShapes.trodAll_append (hag _ (fun _ _ => rfl)) (hr _ _ _), hv0 _, rfl, ?_, ?_⟩, ?_⟩
  · intro b off hp
    have hp' : MemPlace.cell b off ∈ before := by simpa using hp
    have hb := hlt _ hp'
    have : W'.frozen? ⟨b, off, none⟩ = W.frozen? ⟨b, off, none⟩ := by unfold World.frozen?; rw [hext.block b hb (fun k => k)]
    rw [this]
    exact hz b off hp'
  · intro ha; cases ha
  · intro x hx _; simpa using hx

/-- A law's call, out of its contract. -/
theorem law_calls {P : Program} {f : FuncId} {fn : Func} {c : Code} {avs : List AV} {vs : List Value} {W : World} (hf : P.funcs[f]? = some fn) (hb : fn.body = some c) (hname : (fn.name == "runtime.NumGoroutine") = false)
    (h : PureCall P f avs (Bo true)) (hl : avs.length = vs.length) (hr : ∀ (i : Nat) c x, avs[i]? = some c → vs[i]? = some x → RepP W (fun _ => False) c x) :
    Calls P f vs.toArray W fun e W' => e = .returned (.bool true) ∧ Ext (fun _ => False) W W' := by
  have hn' : ¬ fn.name = "runtime.NumGoroutine" := by simpa using hname
  rcases h with ⟨_, h2⟩ | h2
  · refine (h2 (fun _ => False) W vs (fun b k => k.elim) hl hr).mono fun e W' ⟨v, q1, q2, q3⟩ => ?_
    cases q2
    exact ⟨q1, q3⟩
  · exfalso
    obtain ⟨v, q1, _⟩ := h2 (fun _ => False) W vs hl hr
    have : (callFunc f vs.toArray).run P W = .ok (.enter f vs.toArray) W := by simp [callFunc, hf, hn', hb]
    rw [this] at q1
    cases q1

theorem rep_nil {W : World} : ∀ (i : Nat) c x, ([] : List AV)[i]? = some c → ([] : List Value)[i]? = some x → RepP W (fun _ => False) c x := fun i c x h => by simp at h
theorem rep_cons {W : World} {a : AV} {v : Value} {xs : List AV} {vs : List Value} (h : RepP W (fun _ => False) a v) (k : ∀ (i : Nat) c x, xs[i]? = some c → vs[i]? = some x → RepP W (fun _ => False) c x) :
    ∀ (i : Nat) c x, (a :: xs)[i]? = some c → (v :: vs)[i]? = some x → RepP W (fun _ => False) c x := fun i c x h1 h2 => by
  cases i with
  | zero => simp at h1 h2; subst h1 h2; exact h
  | succ i => exact k i c x (by simpa using h1) (by simpa using h2)
end Go.Street
