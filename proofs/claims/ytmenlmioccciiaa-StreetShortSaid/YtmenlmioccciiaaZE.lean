/- Walks: the search for the shortest tour. -/
import Derived.Test.YtmenlmioccciiaaZD
namespace Go.Street
open Go.AM Go.Proofs
set_option maxRecDepth 10000
set_option maxHeartbeats 8000000
set_option linter.unusedVariables false
set_option linter.unusedSimpArgs false

theorem o_Clone (t : List Int) (hne : t ≠ []) (hn : t.length ≤ 1000) : OwnCall Try.prog 51 [iL t] 0 t.length 1 (t.map nCell) := by
  have f1 : Fits t.length 9 := fits_of (by omega) (by omega)
  refine OwnCall.of_body Try.func51 rfl (by decide) (by simp [Try.ntmps51]) (by simp) (by simpa using hne) ?_
  simp only [Try.ntmps51, Try.results51]
  refine awp_sr rfl fun K hK => ?_
  simp -dsimp
  refine hK _ _ ?_; clear hK K
  refine awp_seq_k fun K1 hK1 => ?_
  refine awp_sr rfl fun K hK => ?_
  simp -dsimp [hne]
  refine hK _ _ ?_; clear hK K
  refine awp_cond rfl (fun hc0 => ?_) (fun hc0 => ?_)
  · skip
    skip
    simp at hc0
  · skip
    skip
    refine awp_skip ?_
    simp only [thenA, inBlockA, reduceIte, Nat.reduceEqDiff, eq_self]
    refine hK1 _ _ ?_
    refine awp_prune [0] ?_
    simp only [prune, List.map_cons, List.map_nil, Go.AM.look, Nat.reduceEqDiff, reduceIte]
    refine awp_sr rfl fun K hK => ?_
    simp -dsimp [hne, f1]
    refine hK _ _ ?_; clear hK K
    exact awp_ret ⟨2, 0, rfl, by simp, by simp⟩

theorem br_eat (j : Jn) (l t t' : List Int) (len : Int) (B : AV) (s s' : Bs) (hB : ∀ H k, 37 ≤ k → renC H [0, 1] k B = B) (hne : t.length = t'.length)
    (h : MutCall Try.prog 47 (brArgs j l t' len B) [bRow s, lRow s] [] (.tup []) [bRow s', lRow s'] []) :
    MutCall Try.prog 47 [.row 2 0 t.length, I len, .vptr [.clo 49 [.ptr 0 0 0, .ptr 1 0 0, .iptr [iL l], .iptr j.cells, B]]] [bRow s, lRow s] [some (.els 1 (t'.map nCell))] (.tup []) [bRow s', lRow s'] [] := by
  refine MutCall.eat 40 2 rfl ?_ ?_ h
  · simp [List.range, List.range.loop]
  · simp [List.range, List.range.loop, hB, hne]

theorem ne_slice_nil (t e : TypeId) (hu : (Try.prog).underlying t = some (.slice e)) (a : Option Addr) (n c : Nat) (w : World) : (binOp .neq t (.slice a n c) (.slice none 0 0)).run Try.prog w = .ok (.bool (!a.isNone)) w := by
  have hq : (Op.equal t (.slice a n c) (.slice none 0 0)).run Try.prog w = .ok a.isNone w := by
    show (Op.equalIn (Op.maxDepth - 1 + 1) t _ _).run _ w = _
    cases a <;> simp [Op.equalIn, run_underlying hu]
  simp [binOp, hq]

theorem m_search (j : Jn) (l : List Int) (n : Nat) (hf : Fit j) (ho : JOk j) (hl : ∀ x ∈ l, 0 ≤ x ∧ x < j.n) (hll : l.length ≤ 9)
    (hb : ∀ s t len s', orG s len (srF j l n s t len) = some s' → BsOk s → TrOk j t len → t.length + n ≤ 10 → MutCall Try.prog 47 (brArgs j l t len (bAV j l n)) [bRow s, lRow s] [] (.tup []) [bRow s', lRow s'] [])
    (s : Bs) (t : List Int) (len : Int) (s' : Bs) (hsr : srF j l (n + 1) s t len = some s') (hs : BsOk s) (ht : TrOk j t len) (htn : t.length + (n + 1) ≤ 10) :
    MutCall Try.prog 49 (srArgs j l t len (bAV j l (n + 1))) [bRow s, lRow s] [] (.tup []) [bRow s', lRow s'] [] := by
  have hh : hopeB s len = false := by
    cases hq : hopeB s len with
    | false => rfl
    | true => simp [srF, hq] at hsr
  simp only [srF, hh, Bool.false_eq_true, if_false] at hsr
  have h1 := ht.n1; have h2 := ht.n2; have hlo := ht.lo; have hhi := ht.hi
  obtain ⟨gla, la0, la1⟩ := ht.last
  have g0 : t[0]? = some (at0 t 0) := at0_nat (l := t) (k := 0) (by omega)
  have hb0 := ht.bd _ (List.mem_of_getElem? g0)
  have gr := (ho.sqr.row la0 la1).1
  have gc0 := ho.sqr.get la0 la1 hb0.1 hb0.2
  have hc0b := ho.cl (lastI t) (at0 t 0) la0 la1 hb0.1 hb0.2
  have wt : IntKind.i64.wrap ((t.length : Int) - 1) = ((t.length - 1 : Nat) : Int) := by rw [wrap_in (by omega) (by omega)]; omega
  have wl0 : IntKind.i64.wrap (len + clr j (lastI t) (at0 t 0)) = len + clr j (lastI t) (at0 t 0) := wrap_in (by omega) (by omega)
  have hne : t ≠ [] := by intro e; rw [e] at h1; simp at h1
  have hslo := hs.lo; have hshi := hs.hi
  have hne2 : ∀ u, s.best = some u → u ≠ [] := hs.ne
  show MutCall Try.prog 49 [iL t, I len, .ptr 0 0 0, .ptr 1 0 0, .iptr [iL l], .iptr j.cells, .vptr [.clo 47 [.vptr [.clo 49 [.ptr 0 0 0, .ptr 1 0 0, .iptr [iL l], .iptr j.cells, bAV j l n]]]]] [bRow s, lRow s] [] (.tup []) [bRow s', lRow s'] []
  have hB1 : ∀ k, 36 ≤ k → renAV [some 0, some 1] k (bAV j l n) = bAV j l n := fun k hk => bAV_ren j l _ rfl rfl n k (by omega)
  have hB2 : ∀ k, 36 ≤ k → renAV [some 0, some 1, some 3] k (bAV j l n) = bAV j l n := fun k hk => bAV_ren j l _ rfl rfl n k (by omega)
  have hB3 : ∀ H k, 37 ≤ k → renC H [0, 1] k (bAV j l n) = bAV j l n := fun H k hk => bAV_renC j l H n k (by omega)
  generalize bAV j l n = B at hb hB1 hB2 hB3 ⊢
  obtain ⟨la, hla⟩ : ∃ la, la = lastI t := ⟨_, rfl⟩
  rw [← hla] at gla la0 la1 gr gc0 hc0b wl0
  refine MutCall.of_bodyG [2, 3] Try.func49 rfl (by decide) (by simp [Try.ntmps49]) rfl rfl ?_
  intro J hJ
  simp only [Try.ntmps49, Try.results49]
  refine gwp_sr rfl (by decide) rfl rfl fun K hK => ?_
  simp -dsimp [wt, gla]
  refine hK _ _ ?_; clear hK K
  refine gwp_seq_k fun K1 hK1 => ?_
  rcases hbs : s.best with _ | u
  · skip
    refine gwp_sr rfl (by decide) rfl rfl fun K hK => ?_
    simp -dsimp [hbs]
    refine ⟨fun w => eqg_slice _ _ _ _ _ _ _ _ _ _ w, _, fun w => ne_slice_nil _ _ us_int _ _ _ w, ?_⟩
    simp -dsimp [hbs]
    refine hK _ _ ?_; clear hK K
    refine gwp_cond rfl (fun hc0 => ?_) (fun hc0 => ?_)
    · skip
      skip
      simp at hc0
    · skip
      skip
      refine gwp_skip ?_
      simp only [thenA, inBlockA, reduceIte, Nat.reduceEqDiff, eq_self]
      refine hK1 _ _ ?_
      refine gwp_prune [0, 1, 2, 3, 4, 5, 6, 9] (Or.inr (by simp)) ?_
      simp only [prune, List.map_cons, List.map_nil, Go.AM.look, Nat.reduceEqDiff, reduceIte]
      refine gwp_seq_k fun K2 hK2 => ?_
      refine gwp_sr rfl (by decide) rfl rfl fun K hK => ?_
      simp -dsimp
      refine hK _ _ ?_; clear hK K
      refine gwp_cond rfl (fun hc1 => ?_) (fun hc1 => ?_)
      · skip
        skip
        have htl : t.length = l.length := by have := of_decide_eq_true (by rw [← beq_d]; exact hc1 : decide ((t.length : Int) = (l.length : Int)) = true)
                                             omega
        rw [if_pos htl] at hsr
        simp only [Option.some.injEq] at hsr
        rw [← hla] at hsr
        refine gwp_seq_k fun K3 hK3 => ?_
        refine gwp_sd mixed rfl (by decide) rfl rfl fun K hK => ?_
        simp -dsimp [g0, gr, gc0, la0, hb0.1, wl0]
        refine hK _ _ _ (by decide +kernel) ?_; clear hK K
        refine gwp_sr rfl (by decide) rfl rfl fun K hK => ?_
        simp -dsimp [hbs]
        refine ⟨fun w => eqg_slice _ _ _ _ _ _ _ _ _ _ w, _, fun w => eq_slice_nil _ _ us_int _ _ _ w, ?_⟩
        simp -dsimp [hbs]
        refine hK _ _ ?_; clear hK K
        refine gwp_cond rfl (fun hc2 => ?_) (fun hc2 => ?_)
        · skip
          skip
          refine gwp_r rfl (by decide) rfl rfl fun K hK => ?_
          simp -dsimp
          refine hK _ _ ?_; clear hK K
          simp only [thenA, inBlockA, reduceIte, Nat.reduceEqDiff, eq_self]
          refine hK3 _ _ ?_
          simp only [hbs, Option.isNone_none, Bool.true_or, if_true] at hsr
          subst hsr
          exact gwp_ret ⟨[some 0, some 1], rfl, by simp [hB1], by simp, by simp [hB1], by simp [resP, tupOf]⟩
        · skip
          skip
          simp at hc2
      · skip
        skip
        have htl : ¬ t.length = l.length := by have := of_decide_eq_false (by rw [← beq_d]; exact hc1 : decide ((t.length : Int) = (l.length : Int)) = false)
                                               omega
        rw [if_neg htl] at hsr
        refine gwp_skip ?_
        simp only [thenA, inBlockA, reduceIte, Nat.reduceEqDiff, eq_self]
        refine hK2 _ _ ?_
        refine gwp_prune [0, 1, 2, 3, 4, 5, 6, 9] (Or.inr (by simp)) ?_
        simp only [prune, List.map_cons, List.map_nil, Go.AM.look, Nat.reduceEqDiff, reduceIte]
        refine gwp_sr rfl (by decide) rfl rfl fun K hK => ?_
        simp -dsimp
        refine hK _ _ ?_; clear hK K
        refine gwp_block ?_
        refine gwp_prune [0, 1, 2, 3, 5, 6, 9, 54, 55, 56] (Or.inr (by simp)) ?_
        simp only [prune, List.map_cons, List.map_nil, Go.AM.look, Nat.reduceEqDiff, reduceIte]
        refine gwp_loop_l [0, 1, 2, 3, 5, 6, 9, 54, 55] (α := Nat × Bs) (fun x => [(56, I x.1)]) (fun x => [bRow x.2, lRow x.2]) (fun x => x.1 ≤ l.length ∧ lpF (fun s x => if x ∈ t then some s else orG s (stepLen j t len x) (srF j l n s (t ++ [x]) (stepLen j t len x))) (l.take x.1) s = some x.2 ∧ BsOk x.2) (fun x => l.length - x.1) (0, s) ?_ ?_ ?_
        · exact ⟨Nat.zero_le _, rfl, hs⟩
        · exact gsub (sub_rb [some 0, some 1] rfl (by simp [hB1]) (by simp)) (by simp)
        rintro ⟨k, st⟩ ⟨k1, k2, k3⟩
        simp only at k1 k2 k3 ⊢
        simp only [List.cons_append, List.nil_append, prune, List.map_cons, List.map_nil, Go.AM.look, Nat.reduceEqDiff, reduceIte]
        refine gwp_sr rfl (by decide) rfl rfl fun K hK => ?_
        simp -dsimp
        refine hK _ _ ?_; clear hK K
        refine gwp_seq_k fun K4 hK4 => ?_
        refine gwp_cond rfl (fun hc3 => ?_) (fun hc3 => ?_)
        · skip
          skip
          have hkl : k < l.length := by simpa using hc3
          have gx := at0_nat hkl
          have hxb := hl _ (List.mem_of_getElem? gx)
          have wk : IntKind.i64.wrap ((k : Int) + 1) = (k : Int) + 1 := wrap_in (by omega) (by omega)
          obtain ⟨s1, hs1, _⟩ := lpF_take hsr (k + 1)
          generalize at0 l k = x at gx hxb
          have hst := lpF_step k2 gx
          rw [hs1] at hst
          refine gwp_skip ?_
          simp only [thenA, inBlockA, reduceIte, Nat.reduceEqDiff, eq_self]
          refine hK4 _ _ ?_
          refine gwp_prune [0, 1, 2, 3, 5, 6, 9, 54, 55, 56] (Or.inr (by simp)) ?_
          simp only [prune, List.map_cons, List.map_nil, Go.AM.look, Nat.reduceEqDiff, reduceIte]
          refine gwp_seq_k fun K5 hK5 => ?_
          refine gwp_block ?_
          refine gwp_sr rfl (by decide) rfl rfl fun K hK => ?_
          simp -dsimp [gx]
          refine hK _ _ ?_; clear hK K
          refine gwp_sr rfl (by decide) rfl rfl fun K hK => ?_
          simp -dsimp
          refine callK_intro _ (c_Contains t x (by omega)) (by simp) ?_
          simp -dsimp
          refine hK _ _ ?_; clear hK K
          refine gwp_cond rfl (fun hc4 => ?_) (fun hc4 => ?_)
          · skip
            skip
            have hxt : ¬ x ∈ t := by simpa using hc4
            rw [if_neg hxt] at hst
            have gcx := ho.sqr.get la0 la1 hxb.1 hxb.2
            have hcx := ho.cl la x la0 la1 hxb.1 hxb.2
            have hsx := ho.strm x hxb.1 hxb.2
            have gsx := strm_get hxb.1 hxb.2
            have wx1 : IntKind.i64.wrap (len + clr j la x) = len + clr j la x := wrap_in (by omega) (by omega)
            have wx2 : IntKind.i64.wrap (len + clr j la x + (strm j x).Least) = len + clr j la x + (strm j x).Least := wrap_in (by omega) (by omega)
            have f1 : Fits (t.length + 1) 9 := fits_of (by omega) (by omega)
            have htr := ht.snoc ho (by omega) hxb.1 hxb.2
            have hk3 := orG_ok ho hl n st _ _ s1 hst.symm k3 htr (by simp; omega)
            have hbr := br_eat j l (t ++ [x]) (t ++ [x]) _ B st s1 hB3 rfl (hb st _ _ s1 hst.symm k3 htr (by simp; omega))
            have hsl : stepLen j t len x = len + clr j la x + (strm j x).Least := by rw [hla]; rfl
            rw [hsl] at hbr
            refine gwp_draw mixed rfl (by decide) rfl rfl fun K hK => ?_
            simp -dsimp [f1, gr, gcx, la0, hxb.1, gsx, wx1, wx2]
            refine callK_own (o_Clone t hne (by omega)) ?_
            simp -dsimp [f1, gr, gcx, la0, hxb.1, gsx, wx1, wx2]
            refine callK_mut [0, 1] [3] [some 0, some 1, none, none] (hbr) (by decide) rfl (by simp [hB2]) (by simp [hB2]) rfl (by simp) ?_
            simp -dsimp [f1, gr, gcx, la0, hxb.1, gsx, wx1, wx2]
            refine hK _ _ _ (by decide +kernel) ?_; clear hK K
            simp only [thenA, inBlockA, reduceIte, Nat.reduceEqDiff, eq_self]
            refine hK5 _ _ ?_
            refine gwp_prune [0, 1, 2, 3, 5, 6, 9, 54, 55, 56] (Or.inr (by simp)) ?_
            simp only [prune, List.map_cons, List.map_nil, Go.AM.look, Nat.reduceEqDiff, reduceIte]
            refine gwp_r rfl (by decide) rfl rfl fun K hK => ?_
            simp -dsimp [wk]
            refine hK _ _ ?_; clear hK K
            simp only [thenA, inBlockA, reduceIte, Nat.reduceEqDiff, eq_self]
            exact ⟨(k + 1, s1), ⟨by omega, hs1, hk3⟩, by simp only; omega, gsub (sub_rb [some 0, some 1] rfl (by simp [hB1]) (by simp)) (by simp)⟩
          · skip
            skip
            refine gwp_skip ?_
            simp only [thenA, inBlockA, reduceIte, Nat.reduceEqDiff, eq_self]
            refine hK5 _ _ ?_
            refine gwp_prune [0, 1, 2, 3, 5, 6, 9, 54, 55, 56] (Or.inr (by simp)) ?_
            simp only [prune, List.map_cons, List.map_nil, Go.AM.look, Nat.reduceEqDiff, reduceIte]
            refine gwp_r rfl (by decide) rfl rfl fun K hK => ?_
            simp -dsimp [wk]
            refine hK _ _ ?_; clear hK K
            simp only [thenA, inBlockA, reduceIte, Nat.reduceEqDiff, eq_self]
            have hxt : x ∈ t := by simpa using hc4
            rw [if_pos hxt] at hst
            simp only [Option.some.injEq] at hst
            subst hst
            exact ⟨(k + 1, s1), ⟨by omega, hs1, k3⟩, by simp only; omega, gsub (sub_rb [some 0, some 1] rfl (by simp [hB1]) (by simp)) (by simp)⟩
        · skip
          skip
          refine gwp_exit ?_
          try simp only [thenA, inBlockA, reduceIte, Nat.reduceEqDiff, eq_self]
          have hkk : ¬ k < l.length := by simpa using hc3
          have htk : l.take k = l := List.take_of_length_le (by omega)
          rw [htk, hsr] at k2
          simp only [Option.some.injEq] at k2
          subst k2
          exact ⟨[some 0, some 1], rfl, by simp [hB1], by simp, by simp [hB1], by simp [resP, tupOf]⟩
  · skip
    refine gwp_sr rfl (by decide) rfl rfl fun K hK => ?_
    simp -dsimp [hbs, hne2 u hbs]
    refine hK _ _ ?_; clear hK K
    refine gwp_cond rfl (fun hc0 => ?_) (fun hc0 => ?_)
    · skip
      skip
      exfalso; simp [hopeB, hbs] at hh hc0; omega
    · skip
      skip
      refine gwp_skip ?_
      simp only [thenA, inBlockA, reduceIte, Nat.reduceEqDiff, eq_self]
      refine hK1 _ _ ?_
      refine gwp_prune [0, 1, 2, 3, 4, 5, 6, 9] (Or.inr (by simp)) ?_
      simp only [prune, List.map_cons, List.map_nil, Go.AM.look, Nat.reduceEqDiff, reduceIte]
      refine gwp_seq_k fun K6 hK6 => ?_
      refine gwp_sr rfl (by decide) rfl rfl fun K hK => ?_
      simp -dsimp
      refine hK _ _ ?_; clear hK K
      refine gwp_cond rfl (fun hc1 => ?_) (fun hc1 => ?_)
      · skip
        skip
        have htl : t.length = l.length := by have := of_decide_eq_true (by rw [← beq_d]; exact hc1 : decide ((t.length : Int) = (l.length : Int)) = true)
                                             omega
        rw [if_pos htl] at hsr
        simp only [Option.some.injEq] at hsr
        rw [← hla] at hsr
        refine gwp_seq_k fun K7 hK7 => ?_
        refine gwp_sd mixed rfl (by decide) rfl rfl fun K hK => ?_
        simp -dsimp [g0, gr, gc0, la0, hb0.1, wl0]
        refine hK _ _ _ (by decide +kernel) ?_; clear hK K
        refine gwp_sr rfl (by decide) rfl rfl fun K hK => ?_
        simp -dsimp [hbs, hne2 u hbs]
        refine hK _ _ ?_; clear hK K
        refine gwp_cond rfl (fun hc2 => ?_) (fun hc2 => ?_)
        · skip
          skip
          refine gwp_r rfl (by decide) rfl rfl fun K hK => ?_
          simp -dsimp
          refine hK _ _ ?_; clear hK K
          simp only [thenA, inBlockA, reduceIte, Nat.reduceEqDiff, eq_self]
          refine hK7 _ _ ?_
          simp only [hbs, Option.isNone_some, Bool.false_or, hc2, if_true] at hsr
          subst hsr
          exact gwp_ret ⟨[some 0, some 1], rfl, by simp [hB1], by simp, by simp [hB1], by simp [resP, tupOf]⟩
        · skip
          skip
          refine gwp_skip ?_
          simp only [thenA, inBlockA, reduceIte, Nat.reduceEqDiff, eq_self]
          refine hK7 _ _ ?_
          simp only [hbs, Option.isNone_some, Bool.false_or, hc2, Bool.false_eq_true, if_false] at hsr
          subst hsr
          exact gwp_ret ⟨[some 0, some 1], rfl, by simp [hB1], by simp, by simp [hB1], by simp [resP, tupOf]⟩
      · skip
        skip
        have htl : ¬ t.length = l.length := by have := of_decide_eq_false (by rw [← beq_d]; exact hc1 : decide ((t.length : Int) = (l.length : Int)) = false)
                                               omega
        rw [if_neg htl] at hsr
        refine gwp_skip ?_
        simp only [thenA, inBlockA, reduceIte, Nat.reduceEqDiff, eq_self]
        refine hK6 _ _ ?_
        refine gwp_prune [0, 1, 2, 3, 4, 5, 6, 9] (Or.inr (by simp)) ?_
        simp only [prune, List.map_cons, List.map_nil, Go.AM.look, Nat.reduceEqDiff, reduceIte]
        refine gwp_sr rfl (by decide) rfl rfl fun K hK => ?_
        simp -dsimp
        refine hK _ _ ?_; clear hK K
        refine gwp_block ?_
        refine gwp_prune [0, 1, 2, 3, 5, 6, 9, 54, 55, 56] (Or.inr (by simp)) ?_
        simp only [prune, List.map_cons, List.map_nil, Go.AM.look, Nat.reduceEqDiff, reduceIte]
        refine gwp_loop_l [0, 1, 2, 3, 5, 6, 9, 54, 55] (α := Nat × Bs) (fun x => [(56, I x.1)]) (fun x => [bRow x.2, lRow x.2]) (fun x => x.1 ≤ l.length ∧ lpF (fun s x => if x ∈ t then some s else orG s (stepLen j t len x) (srF j l n s (t ++ [x]) (stepLen j t len x))) (l.take x.1) s = some x.2 ∧ BsOk x.2) (fun x => l.length - x.1) (0, s) ?_ ?_ ?_
        · exact ⟨Nat.zero_le _, rfl, hs⟩
        · exact gsub (sub_rb [some 0, some 1] rfl (by simp [hB1]) (by simp)) (by simp)
        rintro ⟨k, st⟩ ⟨k1, k2, k3⟩
        simp only at k1 k2 k3 ⊢
        simp only [List.cons_append, List.nil_append, prune, List.map_cons, List.map_nil, Go.AM.look, Nat.reduceEqDiff, reduceIte]
        refine gwp_sr rfl (by decide) rfl rfl fun K hK => ?_
        simp -dsimp
        refine hK _ _ ?_; clear hK K
        refine gwp_seq_k fun K8 hK8 => ?_
        refine gwp_cond rfl (fun hc3 => ?_) (fun hc3 => ?_)
        · skip
          skip
          have hkl : k < l.length := by simpa using hc3
          have gx := at0_nat hkl
          have hxb := hl _ (List.mem_of_getElem? gx)
          have wk : IntKind.i64.wrap ((k : Int) + 1) = (k : Int) + 1 := wrap_in (by omega) (by omega)
          obtain ⟨s1, hs1, _⟩ := lpF_take hsr (k + 1)
          generalize at0 l k = x at gx hxb
          have hst := lpF_step k2 gx
          rw [hs1] at hst
          refine gwp_skip ?_
          simp only [thenA, inBlockA, reduceIte, Nat.reduceEqDiff, eq_self]
          refine hK8 _ _ ?_
          refine gwp_prune [0, 1, 2, 3, 5, 6, 9, 54, 55, 56] (Or.inr (by simp)) ?_
          simp only [prune, List.map_cons, List.map_nil, Go.AM.look, Nat.reduceEqDiff, reduceIte]
          refine gwp_seq_k fun K9 hK9 => ?_
          refine gwp_block ?_
          refine gwp_sr rfl (by decide) rfl rfl fun K hK => ?_
          simp -dsimp [gx]
          refine hK _ _ ?_; clear hK K
          refine gwp_sr rfl (by decide) rfl rfl fun K hK => ?_
          simp -dsimp
          refine callK_intro _ (c_Contains t x (by omega)) (by simp) ?_
          simp -dsimp
          refine hK _ _ ?_; clear hK K
          refine gwp_cond rfl (fun hc4 => ?_) (fun hc4 => ?_)
          · skip
            skip
            have hxt : ¬ x ∈ t := by simpa using hc4
            rw [if_neg hxt] at hst
            have gcx := ho.sqr.get la0 la1 hxb.1 hxb.2
            have hcx := ho.cl la x la0 la1 hxb.1 hxb.2
            have hsx := ho.strm x hxb.1 hxb.2
            have gsx := strm_get hxb.1 hxb.2
            have wx1 : IntKind.i64.wrap (len + clr j la x) = len + clr j la x := wrap_in (by omega) (by omega)
            have wx2 : IntKind.i64.wrap (len + clr j la x + (strm j x).Least) = len + clr j la x + (strm j x).Least := wrap_in (by omega) (by omega)
            have f1 : Fits (t.length + 1) 9 := fits_of (by omega) (by omega)
            have htr := ht.snoc ho (by omega) hxb.1 hxb.2
            have hk3 := orG_ok ho hl n st _ _ s1 hst.symm k3 htr (by simp; omega)
            have hbr := br_eat j l (t ++ [x]) (t ++ [x]) _ B st s1 hB3 rfl (hb st _ _ s1 hst.symm k3 htr (by simp; omega))
            have hsl : stepLen j t len x = len + clr j la x + (strm j x).Least := by rw [hla]; rfl
            rw [hsl] at hbr
            refine gwp_draw mixed rfl (by decide) rfl rfl fun K hK => ?_
            simp -dsimp [f1, gr, gcx, la0, hxb.1, gsx, wx1, wx2]
            refine callK_own (o_Clone t hne (by omega)) ?_
            simp -dsimp [f1, gr, gcx, la0, hxb.1, gsx, wx1, wx2]
            refine callK_mut [0, 1] [3] [some 0, some 1, none, none] (hbr) (by decide) rfl (by simp [hB2]) (by simp [hB2]) rfl (by simp) ?_
            simp -dsimp [f1, gr, gcx, la0, hxb.1, gsx, wx1, wx2]
            refine hK _ _ _ (by decide +kernel) ?_; clear hK K
            simp only [thenA, inBlockA, reduceIte, Nat.reduceEqDiff, eq_self]
            refine hK9 _ _ ?_
            refine gwp_prune [0, 1, 2, 3, 5, 6, 9, 54, 55, 56] (Or.inr (by simp)) ?_
            simp only [prune, List.map_cons, List.map_nil, Go.AM.look, Nat.reduceEqDiff, reduceIte]
            refine gwp_r rfl (by decide) rfl rfl fun K hK => ?_
            simp -dsimp [wk]
            refine hK _ _ ?_; clear hK K
            simp only [thenA, inBlockA, reduceIte, Nat.reduceEqDiff, eq_self]
            exact ⟨(k + 1, s1), ⟨by omega, hs1, hk3⟩, by simp only; omega, gsub (sub_rb [some 0, some 1] rfl (by simp [hB1]) (by simp)) (by simp)⟩
          · skip
            skip
            refine gwp_skip ?_
            simp only [thenA, inBlockA, reduceIte, Nat.reduceEqDiff, eq_self]
            refine hK9 _ _ ?_
            refine gwp_prune [0, 1, 2, 3, 5, 6, 9, 54, 55, 56] (Or.inr (by simp)) ?_
            simp only [prune, List.map_cons, List.map_nil, Go.AM.look, Nat.reduceEqDiff, reduceIte]
            refine gwp_r rfl (by decide) rfl rfl fun K hK => ?_
            simp -dsimp [wk]
            refine hK _ _ ?_; clear hK K
            simp only [thenA, inBlockA, reduceIte, Nat.reduceEqDiff, eq_self]
            have hxt : x ∈ t := by simpa using hc4
            rw [if_pos hxt] at hst
            simp only [Option.some.injEq] at hst
            subst hst
            exact ⟨(k + 1, s1), ⟨by omega, hs1, k3⟩, by simp only; omega, gsub (sub_rb [some 0, some 1] rfl (by simp [hB1]) (by simp)) (by simp)⟩
        · skip
          skip
          refine gwp_exit ?_
          try simp only [thenA, inBlockA, reduceIte, Nat.reduceEqDiff, eq_self]
          have hkk : ¬ k < l.length := by simpa using hc3
          have htk : l.take k = l := List.take_of_length_le (by omega)
          rw [htk, hsr] at k2
          simp only [Option.some.injEq] at k2
          subst k2
          exact ⟨[some 0, some 1], rfl, by simp [hB1], by simp, by simp [hB1], by simp [resP, tupOf]⟩
end Go.Street
