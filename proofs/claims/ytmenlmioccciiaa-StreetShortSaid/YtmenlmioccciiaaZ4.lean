/- Walks: copies of lists, and a junction in new memory. -/
import Derived.Test.YtmenlmioccciiaaZ3
namespace Go.Street
open Go.AM Go.Proofs
set_option maxRecDepth 10000
set_option maxHeartbeats 4000000
set_option linter.unusedVariables false
set_option linter.unusedSimpArgs false

/-- A contract out of contracts for whatever the first argument may be in detail. -/
theorem PureCall.split {P : Program} {f : FuncId} {fn : Func} {c : Code} {x : AV} {rest : List AV} {res : AV} (hf : P.funcs[f]? = some fn) (hb : fn.body = some c) (hname : (fn.name == "runtime.NumGoroutine") = false)
    (h : ∀ (w : World) (S : Nat → Prop) (y : Value), RepP w S x y → ∃ x', RepP w S x' y ∧ PureCall P f (x' :: rest) res) : PureCall P f (x :: rest) res := by
  have hn' : ¬ fn.name = "runtime.NumGoroutine" := by simpa using hname
  have hcf : ∀ (w : World) (vs : Array Value), (callFunc f vs).run P w = .ok (.enter f vs) w := fun w vs => by simp [callFunc, hf, hn', hb]
  refine Or.inl ⟨hcf, ?_⟩
  intro S0 w vs hlow hl hrep
  match vs, hl with
  | y :: vs, hl =>
    obtain ⟨x', hx', hp⟩ := h w S0 y (hrep 0 x y rfl rfl)
    have hrep' : ∀ (i : Nat) c z, (x' :: rest)[i]? = some c → (y :: vs)[i]? = some z → RepP w S0 c z := by
      intro i c z h1 h2
      cases i with
      | zero => simp only [List.getElem?_cons_zero, Option.some.injEq] at h1 h2; subst h1 h2; exact hx'
      | succ i => exact hrep (i + 1) c z (by simpa using h1) h2
    rcases hp with ⟨_, h2⟩ | h2
    · exact h2 S0 w (y :: vs) hlow (by simpa using hl) hrep'
    · obtain ⟨v, h3, _⟩ := h2 S0 w (y :: vs) (by simpa using hl) hrep'
      rw [hcf] at h3; cases h3

theorem eqg_slice (op : BinOp) (t : TypeId) (x y : Operand) (a b : Option Addr) (n c m d : Nat) (w : World) : (eqGuard op t x y (.slice a n c) (.slice b m d)).run Try.prog w = .ok () w := by
  cases op <;> simp [eqGuard]
theorem eq_slice_nil (t e : TypeId) (hu : (Try.prog).underlying t = some (.slice e)) (a : Option Addr) (n c : Nat) (w : World) : (binOp .eql t (.slice a n c) (.slice none 0 0)).run Try.prog w = .ok (.bool a.isNone) w := by
  have hq : (Op.equal t (.slice a n c) (.slice none 0 0)).run Try.prog w = .ok a.isNone w := by
    show (Op.equalIn (Op.maxDepth - 1 + 1) t _ _).run _ w = _
    cases a <;> simp [Op.equalIn, run_underlying hu]
  simp [binOp, hq]
@[simp] theorem sl_int : sliceB Try.prog 24 = true := by kernel_rfl
@[simp] theorem sl_st : sliceB Try.prog 22 = true := by kernel_rfl
@[simp] theorem sl_gt : sliceB Try.prog 25 = true := by kernel_rfl
theorem us_int : (Try.prog).underlying 24 = some (.slice 3) := by kernel_rfl
theorem us_st : (Try.prog).underlying 22 = some (.slice 68) := by kernel_rfl
theorem us_gt : (Try.prog).underlying 25 = some (.slice 101) := by kernel_rfl

/-- An empty slice, in detail. -/
theorem lst_nil {w : World} {S : Nat → Prop} {sz : Nat} {y : Value} (h : RepP w S (.lst sz []) y) : ∃ a cap, y = .slice a 0 cap := by
  cases h with
  | lst _ _ b off cap => exact ⟨_, cap, rfl⟩
  | lstNil _ a cap => exact ⟨a, cap, rfl⟩
theorem nil_lst {w : World} {S : Nat → Prop} {sz : Nat} {y : Value} (h : RepP w S (.v (.slice none 0 0)) y) : RepP w S (.lst sz []) y := by
  cases h; exact .lstNil _ _ _
theorem full_lst {w : World} {S : Nat → Prop} {sz : Nat} {y : Value} (h : RepP w S (.full sz []) y) : RepP w S (.lst sz []) y := by
  cases h; exact .lstNil _ _ _

theorem c_Clone_Int (l : List Int) (hn : l.length ≤ 1000) : PureCall Try.prog 51 [.lst 1 (l.map nCell)] (.lst 1 (l.map nCell)) := by
  by_cases hne : l = []
  · subst hne
    refine PureCall.split Try.func51 rfl (by decide) fun w S y hy => ?_
    obtain ⟨a, cap, rfl⟩ := lst_nil hy
    refine ⟨.v (.slice a 0 cap), .v _, ?_⟩
    cases a with
    | none =>
      refine PureCall.res (res := .v (.slice none 0 0)) ?_ fun w S y => nil_lst
      refine PureCall.of_body Try.func51 rfl (by decide) (by simp [Try.ntmps51]) ?_
      simp only [Try.ntmps51, Try.results51]
      refine awp_sr rfl fun K hK => ?_
      simp -dsimp
      refine hK _ _ ?_; clear hK K
      refine awp_seq_k fun K1 hK1 => ?_
      refine awp_sr rfl fun K hK => ?_
      simp -dsimp
      refine ⟨fun w => eqg_slice _ _ _ _ _ _ _ _ _ _ w, _, fun w => eq_slice_nil _ _ us_int _ _ _ w, ?_⟩
      simp -dsimp
      refine hK _ _ ?_; clear hK K
      refine awp_cond rfl (fun hc0 => ?_) (fun hc0 => ?_)
      · skip
        skip
        refine awp_sr rfl fun K hK => ?_
        simp -dsimp
        refine hK _ _ ?_; clear hK K
        exact awp_ret (by simp)
      · skip
        skip
        simp at hc0
    | some a =>
      refine PureCall.res (res := .full 1 []) ?_ fun w S y => full_lst
      refine PureCall.of_body Try.func51 rfl (by decide) (by simp [Try.ntmps51]) ?_
      simp only [Try.ntmps51, Try.results51]
      refine awp_sr rfl fun K hK => ?_
      simp -dsimp
      refine hK _ _ ?_; clear hK K
      refine awp_seq_k fun K1 hK1 => ?_
      refine awp_sr rfl fun K hK => ?_
      simp -dsimp
      refine ⟨fun w => eqg_slice _ _ _ _ _ _ _ _ _ _ w, _, fun w => eq_slice_nil _ _ us_int _ _ _ w, ?_⟩
      simp -dsimp
      refine hK _ _ ?_; clear hK K
      refine awp_cond rfl (fun hc0 => ?_) (fun hc0 => ?_)
      · skip
        skip
        simp at hc0
      · skip
        skip
        refine awp_skip ?_
        simp only [thenA, inBlockA, reduceIte, Nat.reduceEqDiff, eq_self]
        refine hK1 _ _ ?_
        refine awp_prune [0] ?_
        simp only [prune, List.map_cons, List.map_nil, Go.AM.look, Nat.reduceEqDiff, reduceIte]
        refine awp_sr rfl fun K hK => ?_
        simp -dsimp
        refine hK _ _ ?_; clear hK K
        exact awp_ret (by simp)
  · have f1 : Fits l.length 9 := fits_of (by omega) (by omega)
    refine PureCall.of_body Try.func51 rfl (by decide) (by simp [Try.ntmps51]) ?_
    simp only [Try.ntmps51, Try.results51]
    refine awp_sr rfl fun K hK => ?_
    simp -dsimp
    refine hK _ _ ?_; clear hK K
    refine awp_seq_k fun K1 hK1 => ?_
    refine awp_sr rfl fun K hK => ?_
    simp -dsimp [hne]
    refine hK _ _ ?_; clear hK K
    refine awp_cond rfl (fun hc0 => ?_) (fun hc0 => ?_)
    · skip
      skip
      simp at hc0
    · skip
      skip
      refine awp_skip ?_
      simp only [thenA, inBlockA, reduceIte, Nat.reduceEqDiff, eq_self]
      refine hK1 _ _ ?_
      refine awp_prune [0] ?_
      simp only [prune, List.map_cons, List.map_nil, Go.AM.look, Nat.reduceEqDiff, reduceIte]
      refine awp_sr rfl fun K hK => ?_
      simp -dsimp [hne, f1]
      refine hK _ _ ?_; clear hK K
      exact awp_ret (by simp)
theorem c_Clone_Strm (l : List Strm) (hn : l.length ≤ 1000) : PureCall Try.prog 85 [.lst 2 (l.map Strm.cells)] (.lst 2 (l.map Strm.cells)) := by
  by_cases hne : l = []
  · subst hne
    refine PureCall.split Try.func85 rfl (by decide) fun w S y hy => ?_
    obtain ⟨a, cap, rfl⟩ := lst_nil hy
    refine ⟨.v (.slice a 0 cap), .v _, ?_⟩
    cases a with
    | none =>
      refine PureCall.res (res := .v (.slice none 0 0)) ?_ fun w S y => nil_lst
      refine PureCall.of_body Try.func85 rfl (by decide) (by simp [Try.ntmps85]) ?_
      simp only [Try.ntmps85, Try.results85]
      refine awp_sr rfl fun K hK => ?_
      simp -dsimp
      refine hK _ _ ?_; clear hK K
      refine awp_seq_k fun K1 hK1 => ?_
      refine awp_sr rfl fun K hK => ?_
      simp -dsimp
      refine ⟨fun w => eqg_slice _ _ _ _ _ _ _ _ _ _ w, _, fun w => eq_slice_nil _ _ us_st _ _ _ w, ?_⟩
      simp -dsimp
      refine hK _ _ ?_; clear hK K
      refine awp_cond rfl (fun hc0 => ?_) (fun hc0 => ?_)
      · skip
        skip
        refine awp_sr rfl fun K hK => ?_
        simp -dsimp
        refine hK _ _ ?_; clear hK K
        exact awp_ret (by simp)
      · skip
        skip
        simp at hc0
    | some a =>
      refine PureCall.res (res := .full 2 []) ?_ fun w S y => full_lst
      refine PureCall.of_body Try.func85 rfl (by decide) (by simp [Try.ntmps85]) ?_
      simp only [Try.ntmps85, Try.results85]
      refine awp_sr rfl fun K hK => ?_
      simp -dsimp
      refine hK _ _ ?_; clear hK K
      refine awp_seq_k fun K1 hK1 => ?_
      refine awp_sr rfl fun K hK => ?_
      simp -dsimp
      refine ⟨fun w => eqg_slice _ _ _ _ _ _ _ _ _ _ w, _, fun w => eq_slice_nil _ _ us_st _ _ _ w, ?_⟩
      simp -dsimp
      refine hK _ _ ?_; clear hK K
      refine awp_cond rfl (fun hc0 => ?_) (fun hc0 => ?_)
      · skip
        skip
        simp at hc0
      · skip
        skip
        refine awp_skip ?_
        simp only [thenA, inBlockA, reduceIte, Nat.reduceEqDiff, eq_self]
        refine hK1 _ _ ?_
        refine awp_prune [0] ?_
        simp only [prune, List.map_cons, List.map_nil, Go.AM.look, Nat.reduceEqDiff, reduceIte]
        refine awp_sr rfl fun K hK => ?_
        simp -dsimp
        refine hK _ _ ?_; clear hK K
        exact awp_ret (by simp)
  · have f1 : Fits l.length 17 := fits_of (by omega) (by omega)
    refine PureCall.of_body Try.func85 rfl (by decide) (by simp [Try.ntmps85]) ?_
    simp only [Try.ntmps85, Try.results85]
    refine awp_sr rfl fun K hK => ?_
    simp -dsimp
    refine hK _ _ ?_; clear hK K
    refine awp_seq_k fun K1 hK1 => ?_
    refine awp_sr rfl fun K hK => ?_
    simp -dsimp [hne]
    refine hK _ _ ?_; clear hK K
    refine awp_cond rfl (fun hc0 => ?_) (fun hc0 => ?_)
    · skip
      skip
      simp at hc0
    · skip
      skip
      refine awp_skip ?_
      simp only [thenA, inBlockA, reduceIte, Nat.reduceEqDiff, eq_self]
      refine hK1 _ _ ?_
      refine awp_prune [0] ?_
      simp only [prune, List.map_cons, List.map_nil, Go.AM.look, Nat.reduceEqDiff, reduceIte]
      refine awp_sr rfl fun K hK => ?_
      simp -dsimp [hne, f1]
      refine hK _ _ ?_; clear hK K
      exact awp_ret (by simp)
theorem c_Clone_Gt (l : List Gt) (hn : l.length ≤ 1000) : PureCall Try.prog 86 [.lst 3 (l.map Gt.cells)] (.lst 3 (l.map Gt.cells)) := by
  by_cases hne : l = []
  · subst hne
    refine PureCall.split Try.func86 rfl (by decide) fun w S y hy => ?_
    obtain ⟨a, cap, rfl⟩ := lst_nil hy
    refine ⟨.v (.slice a 0 cap), .v _, ?_⟩
    cases a with
    | none =>
      refine PureCall.res (res := .v (.slice none 0 0)) ?_ fun w S y => nil_lst
      refine PureCall.of_body Try.func86 rfl (by decide) (by simp [Try.ntmps86]) ?_
      simp only [Try.ntmps86, Try.results86]
      refine awp_sr rfl fun K hK => ?_
      simp -dsimp
      refine hK _ _ ?_; clear hK K
      refine awp_seq_k fun K1 hK1 => ?_
      refine awp_sr rfl fun K hK => ?_
      simp -dsimp
      refine ⟨fun w => eqg_slice _ _ _ _ _ _ _ _ _ _ w, _, fun w => eq_slice_nil _ _ us_gt _ _ _ w, ?_⟩
      simp -dsimp
      refine hK _ _ ?_; clear hK K
      refine awp_cond rfl (fun hc0 => ?_) (fun hc0 => ?_)
      · skip
        skip
        refine awp_sr rfl fun K hK => ?_
        simp -dsimp
        refine hK _ _ ?_; clear hK K
        exact awp_ret (by simp)
      · skip
        skip
        simp at hc0
    | some a =>
      refine PureCall.res (res := .full 3 []) ?_ fun w S y => full_lst
      refine PureCall.of_body Try.func86 rfl (by decide) (by simp [Try.ntmps86]) ?_
      simp only [Try.ntmps86, Try.results86]
      refine awp_sr rfl fun K hK => ?_
      simp -dsimp
      refine hK _ _ ?_; clear hK K
      refine awp_seq_k fun K1 hK1 => ?_
      refine awp_sr rfl fun K hK => ?_
      simp -dsimp
      refine ⟨fun w => eqg_slice _ _ _ _ _ _ _ _ _ _ w, _, fun w => eq_slice_nil _ _ us_gt _ _ _ w, ?_⟩
      simp -dsimp
      refine hK _ _ ?_; clear hK K
      refine awp_cond rfl (fun hc0 => ?_) (fun hc0 => ?_)
      · skip
        skip
        simp at hc0
      · skip
        skip
        refine awp_skip ?_
        simp only [thenA, inBlockA, reduceIte, Nat.reduceEqDiff, eq_self]
        refine hK1 _ _ ?_
        refine awp_prune [0] ?_
        simp only [prune, List.map_cons, List.map_nil, Go.AM.look, Nat.reduceEqDiff, reduceIte]
        refine awp_sr rfl fun K hK => ?_
        simp -dsimp
        refine hK _ _ ?_; clear hK K
        exact awp_ret (by simp)
  · have f1 : Fits l.length 25 := fits_of (by omega) (by omega)
    refine PureCall.of_body Try.func86 rfl (by decide) (by simp [Try.ntmps86]) ?_
    simp only [Try.ntmps86, Try.results86]
    refine awp_sr rfl fun K hK => ?_
    simp -dsimp
    refine hK _ _ ?_; clear hK K
    refine awp_seq_k fun K1 hK1 => ?_
    refine awp_sr rfl fun K hK => ?_
    simp -dsimp [hne]
    refine hK _ _ ?_; clear hK K
    refine awp_cond rfl (fun hc0 => ?_) (fun hc0 => ?_)
    · skip
      skip
      simp at hc0
    · skip
      skip
      refine awp_skip ?_
      simp only [thenA, inBlockA, reduceIte, Nat.reduceEqDiff, eq_self]
      refine hK1 _ _ ?_
      refine awp_prune [0] ?_
      simp only [prune, List.map_cons, List.map_nil, Go.AM.look, Nat.reduceEqDiff, reduceIte]
      refine awp_sr rfl fun K hK => ?_
      simp -dsimp [hne, f1]
      refine hK _ _ ?_; clear hK K
      exact awp_ret (by simp)

theorem c_owned1 (l : List (List Int)) (hn : l.length ≤ 1000) (hr : ∀ r ∈ l, r.length ≤ 1000) : PureCall Try.prog 84 [.lst 1 (l.map rCell)] (.lst 1 (l.map rCell)) := by
  refine PureCall.of_body Try.func84 rfl (by decide) (by simp [Try.ntmps84]) ?_
  simp only [Try.ntmps84, Try.results84]
  refine awp_sr rfl fun K hK => ?_
  simp -dsimp
  refine hK _ _ ?_; clear hK K
  refine awp_sr rfl fun K hK => ?_
  simp -dsimp
  refine hK _ _ ?_; clear hK K
  refine awp_seq_k fun K1 hK1 => ?_
  refine awp_sr rfl fun K hK => ?_
  simp -dsimp
  refine hK _ _ ?_; clear hK K
  refine awp_block ?_
  refine awp_prune [3, 6, 7, 8] ?_
  simp only [prune, List.map_cons, List.map_nil, Go.AM.look, Nat.reduceEqDiff, reduceIte]
  refine awp_loop_l [6, 7] (α := Nat) (fun k => [(3, .row 0 0 k), (8, I k)]) (fun k => [some (.els 1 ((l.take k).map rCell))]) (fun k => k ≤ l.length) (fun k => l.length - k) 0 ?_ ?_ ?_
  · exact Nat.zero_le _
  · exact (sub_nil 3 1 (by simp)).trans (sub_same (by simp))
  rintro k k1
  simp only [List.cons_append, List.nil_append, prune, List.map_cons, List.map_nil, Go.AM.look, Nat.reduceEqDiff, reduceIte]
  refine awp_sr rfl fun K hK => ?_
  simp -dsimp
  refine hK _ _ ?_; clear hK K
  refine awp_seq_k fun K2 hK2 => ?_
  refine awp_cond rfl (fun hc0 => ?_) (fun hc0 => ?_)
  · skip
    try simp at hc0
    obtain ⟨r, hk⟩ : ∃ r, l[k]? = some r := ⟨_, List.getElem?_eq_getElem hc0⟩
    have wk : IntKind.i64.wrap ((k : Int) + 1) = (k : Int) + 1 := wrap_in (by omega) (by omega)
    have f1 : Fits (k + 1) 25 := fits_of (by omega) (by omega)
    have hm : min k l.length = k := Nat.min_eq_left (by omega)
    refine awp_skip ?_
    simp only [thenA, inBlockA, reduceIte, Nat.reduceEqDiff, eq_self]
    refine hK2 _ _ ?_
    refine awp_prune [3, 6, 7, 8] ?_
    simp only [prune, List.map_cons, List.map_nil, Go.AM.look, Nat.reduceEqDiff, reduceIte]
    refine awp_seq_k fun K3 hK3 => ?_
    refine awp_block ?_
    refine awp_sr rfl fun K hK => ?_
    simp -dsimp [hk]
    refine hK _ _ ?_; clear hK K
    refine awp_r rfl fun K hK => ?_
    simp -dsimp [hm, f1]
    refine callK_intro _ (c_Clone_Int r (hr r (List.mem_of_getElem? hk))) (by simp) ?_
    simp -dsimp [hm, f1]
    refine hK _ _ ?_; clear hK K
    simp only [thenA, inBlockA, reduceIte, Nat.reduceEqDiff, eq_self]
    refine hK3 _ _ ?_
    refine awp_prune [3, 6, 7, 8] ?_
    simp only [prune, List.map_cons, List.map_nil, Go.AM.look, Nat.reduceEqDiff, reduceIte]
    refine awp_r rfl fun K hK => ?_
    simp -dsimp [wk]
    refine hK _ _ ?_; clear hK K
    simp only [thenA, inBlockA, reduceIte, Nat.reduceEqDiff, eq_self]
    exact ⟨k + 1, by omega, by omega, sub_rb [some 1] rfl (by simp) (by simp [List.take_add_one, hk, hm])⟩
  · skip
    try simp at hc0
    refine awp_exit ?_
    simp only [thenA, inBlockA, reduceIte, Nat.reduceEqDiff, eq_self]
    refine hK1 _ _ ?_
    refine awp_prune [3] ?_
    simp only [prune, List.map_cons, List.map_nil, Go.AM.look, Nat.reduceEqDiff, reduceIte]
    refine awp_sr rfl fun K hK => ?_
    simp -dsimp
    refine hK _ _ ?_; clear hK K
    have hkk : k = l.length := by omega
    subst hkk
    exact awp_ret (by simp)

theorem c_owned (j : Jn) (hf : Fit j) : PureCall Try.prog 58 [.agg j.cells] (.agg j.cells) := by
  have h1 := c_Clone_Strm j.Streams (by have := hf.s; omega)
  have h2 := c_Clone_Int j.Longest (by have := hf.l; omega)
  have h3 := c_Clone_Gt j.Gates (by have := hf.g; omega)
  have h4 := c_owned1 j.Clears (by have := hf.c; omega) (fun r hr => by have := hf.cs r hr; omega)
  have h5 := c_owned1 j.Phases (by have := hf.p; omega) (fun r hr => by have := hf.ps r hr; omega)
  refine PureCall.of_body Try.func58 rfl (by decide) (by simp [Try.ntmps58]) ?_
  simp only [Try.ntmps58, Try.results58]
  refine awp_sr rfl fun K hK => ?_
  simp -dsimp
  refine hK _ _ ?_; clear hK K
  refine awp_sr rfl fun K hK => ?_
  simp -dsimp
  refine hK _ _ ?_; clear hK K
  refine awp_sd mixed rfl fun K hK => ?_
  simp -dsimp
  refine callK_intro _ (h1) (by simp) ?_
  simp -dsimp
  refine callK_intro _ (h2) (by simp) ?_
  simp -dsimp
  refine callK_intro _ (h3) (by simp) ?_
  simp -dsimp
  refine hK _ _ _ (by decide +kernel) ?_; clear hK K
  refine awp_sd mixed rfl fun K hK => ?_
  simp -dsimp
  refine callK_intro _ (h4) (by simp) ?_
  simp -dsimp
  refine callK_intro _ (h5) (by simp) ?_
  simp -dsimp
  refine hK _ _ _ (by decide +kernel) ?_; clear hK K
  refine awp_sr rfl fun K hK => ?_
  simp -dsimp
  refine hK _ _ ?_; clear hK K
  exact awp_ret (by simp)

/-- The greatest number of a list (0 at least ahead of the first: the list is not empty). -/
def maxOf (l : List Int) : Int := l.tail.foldl maxI (l.headD 0)
theorem maxOf_snoc {l : List Int} {k : Nat} {x : Int} (h : l[k]? = some x) (hk : 1 ≤ k) : maxOf (l.take (k + 1)) = maxI (maxOf (l.take k)) x := by
  cases l with
  | nil => simp at h
  | cons y l =>
    obtain ⟨k, rfl⟩ : ∃ m, k = m + 1 := ⟨k - 1, by omega⟩
    simp only [List.getElem?_cons_succ] at h
    simp only [maxOf, List.take_succ_cons, List.tail_cons, List.headD_cons]
    rw [List.take_add_one, h]
    simp only [Option.toList_some, List.foldl_append]
    rfl

theorem c_Max (l : List Int) (h1 : 1 ≤ l.length) (hn : l.length ≤ 1000) : PureCall Try.prog 69 [iL l] (I (maxOf l)) := by
  obtain ⟨x, hx⟩ : ∃ x, l[0]? = some x := ⟨_, List.getElem?_eq_getElem (by omega)⟩
  refine PureCall.of_body Try.func69 rfl (by decide) (by simp [Try.ntmps69]) ?_
  simp only [Try.ntmps69, Try.results69]
  refine awp_sr rfl fun K hK => ?_
  simp -dsimp
  refine hK _ _ ?_; clear hK K
  refine awp_seq_k fun K1 hK1 => ?_
  refine awp_sr rfl fun K hK => ?_
  simp -dsimp
  refine hK _ _ ?_; clear hK K
  refine awp_cond rfl (fun hc0 => ?_) (fun hc0 => ?_)
  · skip
    try simp at hc0
    omega
  · skip
    try simp at hc0
    refine awp_skip ?_
    simp only [thenA, inBlockA, reduceIte, Nat.reduceEqDiff, eq_self]
    refine hK1 _ _ ?_
    refine awp_prune [0] ?_
    simp only [prune, List.map_cons, List.map_nil, Go.AM.look, Nat.reduceEqDiff, reduceIte]
    refine awp_sr rfl fun K hK => ?_
    simp -dsimp [hx]
    refine hK _ _ ?_; clear hK K
    refine awp_seq_k fun K2 hK2 => ?_
    refine awp_sr rfl fun K hK => ?_
    simp -dsimp
    refine hK _ _ ?_; clear hK K
    refine awp_block ?_
    refine awp_prune [0, 3, 4] ?_
    simp only [prune, List.map_cons, List.map_nil, Go.AM.look, Nat.reduceEqDiff, reduceIte]
    refine awp_loop_l [0] (α := Nat) (fun k => [(3, I (maxOf (l.take k))), (4, I k)]) (fun _ => []) (fun k => 1 ≤ k ∧ k ≤ l.length) (fun k => l.length - k) 1 ?_ ?_ ?_
    · exact ⟨by omega, by omega⟩
    · have hx1 : maxOf (l.take 1) = x := by simp [maxOf, List.take_add_one, hx]
      exact sub_same (by simp [hx1])
    rintro k ⟨k1, k2⟩
    simp only [List.cons_append, List.nil_append, prune, List.map_cons, List.map_nil, Go.AM.look, Nat.reduceEqDiff, reduceIte]
    refine awp_seq_k fun K3 hK3 => ?_
    refine awp_sr rfl fun K hK => ?_
    simp -dsimp
    refine hK _ _ ?_; clear hK K
    refine awp_cond rfl (fun hc1 => ?_) (fun hc1 => ?_)
    · skip
      try simp at hc1
      obtain ⟨y, hy⟩ : ∃ y, l[k]? = some y := ⟨_, List.getElem?_eq_getElem hc1⟩
      have wk : IntKind.i64.wrap ((k : Int) + 1) = (k : Int) + 1 := wrap_in (by omega) (by omega)
      refine awp_skip ?_
      simp only [thenA, inBlockA, reduceIte, Nat.reduceEqDiff, eq_self]
      refine hK3 _ _ ?_
      refine awp_prune [0, 3, 4] ?_
      simp only [prune, List.map_cons, List.map_nil, Go.AM.look, Nat.reduceEqDiff, reduceIte]
      refine awp_seq_k fun K4 hK4 => ?_
      refine awp_block ?_
      refine awp_r rfl fun K hK => ?_
      simp -dsimp [hy]
      refine hK _ _ ?_; clear hK K
      simp only [thenA, inBlockA, reduceIte, Nat.reduceEqDiff, eq_self]
      refine hK4 _ _ ?_
      refine awp_prune [0, 3, 4] ?_
      simp only [prune, List.map_cons, List.map_nil, Go.AM.look, Nat.reduceEqDiff, reduceIte]
      refine awp_r rfl fun K hK => ?_
      simp -dsimp [wk]
      refine hK _ _ ?_; clear hK K
      simp only [thenA, inBlockA, reduceIte, Nat.reduceEqDiff, eq_self]
      exact ⟨k + 1, ⟨by omega, by omega⟩, by omega, sub_same (by simp [maxOf_snoc hy k1, maxI])⟩
    · skip
      try simp at hc1
      refine awp_exit ?_
      simp only [thenA, inBlockA, reduceIte, Nat.reduceEqDiff, eq_self]
      refine hK2 _ _ ?_
      refine awp_prune [3] ?_
      simp only [prune, List.map_cons, List.map_nil, Go.AM.look, Nat.reduceEqDiff, reduceIte]
      refine awp_sr rfl fun K hK => ?_
      simp -dsimp
      refine hK _ _ ?_; clear hK K
      have htk : l.take k = l := List.take_of_length_le (by omega)
      exact awp_ret (by simp [htk])

/-- The bound. -/
def mostC (j : Jn) : Int := j.Clears.foldl (fun m r => maxI m (maxOf r)) 0
def boundJ (j : Jn) : Int := ((j.Skips + 1) * j.Phases.length + 1) * (maxOf j.Longest + mostC j)

theorem c_Bound_f (j : Jn) (hf : Fit j) (h : jnB j = false) : PureCall Try.prog 34 [.agg j.cells] (.tup [I 0, I 2]) := by
  have hc := c_Check j hf
  rw [h] at hc
  refine PureCall.of_body Try.func34 rfl (by decide) (by simp [Try.ntmps34]) ?_
  simp only [Try.ntmps34, Try.results34]
  refine awp_sr rfl fun K hK => ?_
  simp -dsimp
  refine hK _ _ ?_; clear hK K
  refine awp_seq_k fun K1 hK1 => ?_
  refine awp_sr rfl fun K hK => ?_
  simp -dsimp
  refine callK_intro _ (hc) (by simp) ?_
  simp -dsimp
  refine hK _ _ ?_; clear hK K
  refine awp_sr rfl fun K hK => ?_
  simp -dsimp
  refine hK _ _ ?_; clear hK K
  refine awp_cond rfl (fun hc0 => ?_) (fun hc0 => ?_)
  · skip
    skip
    refine awp_sr rfl fun K hK => ?_
    simp -dsimp
    refine hK _ _ ?_; clear hK K
    exact awp_ret (by simp)
  · skip
    skip
    simp at hc0

theorem maxI_le {a b B : Int} (h1 : a ≤ B) (h2 : b ≤ B) : maxI a b ≤ B := by unfold maxI; split <;> assumption
theorem le_maxI {a b A : Int} (h1 : A ≤ a) : A ≤ maxI a b := by unfold maxI; split <;> omega
theorem fold_bd {l : List Int} {A B : Int} : ∀ m : Int, A ≤ m → m ≤ B → (∀ x ∈ l, x ≤ B) → A ≤ l.foldl maxI m ∧ l.foldl maxI m ≤ B := by
  induction l with
  | nil => intro m h1 h2 _; exact ⟨h1, h2⟩
  | cons x l ih => intro m h1 h2 hx; exact ih _ (le_maxI h1) (maxI_le h2 (hx x (by simp))) (fun y hy => hx y (by simp [hy]))
theorem maxOf_bd {l : List Int} {A B : Int} (hne : 1 ≤ l.length) (h : ∀ x ∈ l, A ≤ x ∧ x ≤ B) : A ≤ maxOf l ∧ maxOf l ≤ B := by
  cases l with
  | nil => simp at hne
  | cons x l => exact fold_bd x (h x (by simp)).1 (h x (by simp)).2 (fun y hy => (h y (List.mem_cons_of_mem _ hy)).2)

/-- What a junction as defined has. -/
structure JOk (j : Jn) : Prop where
  n1 : 1 ≤ j.n
  n2 : j.n ≤ 20
  strm : ∀ s : Int, 0 ≤ s → s < j.n → 1 ≤ (strm j s).Kind ∧ (strm j s).Kind ≤ 3 ∧ 1 ≤ (strm j s).Least ∧ (strm j s).Least ≤ 120
  sqr : Sqr j
  cl : ∀ a b : Int, 0 ≤ a → a < j.n → 0 ≤ b → b < j.n → -1 ≤ clr j a b ∧ clr j a b ≤ 60 ∧ (a = b → clr j a b = -1) ∧ (clr j a b = -1 ↔ clr j b a = -1)
  p1 : 1 ≤ j.Phases.length
  p2 : j.Phases.length ≤ 12
  ll : j.Longest.length = j.Phases.length
  s1 : 0 ≤ j.Skips
  s2 : j.Skips ≤ 20
  ph : ∀ i : Nat, i < j.Phases.length → phB j (rowAt j.Phases i) (at0 j.Longest i) = true
  all : ∀ a : Nat, a < j.n → (a : Int) ∈ j.Phases.flatten
  gt : gatesB j = true

theorem jnB_ok {j : Jn} (h : jnB j = true) : JOk j := by
  simp only [jnB, Bool.and_eq_true] at h
  obtain ⟨⟨⟨h1, h2⟩, h3⟩, h4⟩ := h
  have hs := h1
  simp only [streamsB, Bool.and_eq_true, inr_iff, List.all_eq_true, strmB] at hs
  have hsq := clears_sqr h2
  have hc := h2
  simp only [clearsB, Bool.and_eq_true, List.all_eq_true, List.mem_range] at hc
  have hp := h3
  simp only [phasesB, Bool.and_eq_true, decide_eq_true_eq, inr_iff, List.all_eq_true, List.mem_range] at hp
  refine ⟨by omega, by omega, fun s a b => ?_, hsq, fun a b a0 a1 b0 b1 => ?_, by omega, by omega, hp.1.1.1.2, hp.1.1.2.1, hp.1.1.2.2, hp.1.2, hp.2, h4⟩
  · have := hs.2 _ (List.mem_of_getElem? (strm_get a b)); omega
  · have := hc.2 a.toNat (by omega) b.toNat (by omega)
    simp only [cellB, Int.toNat_of_nonneg a0, Int.toNat_of_nonneg b0, Bool.and_eq_true, inr_iff, Bool.not_eq_true', Bool.and_eq_false_iff, decide_eq_false_iff_not, beq_iff_eq, decide_eq_decide] at this
    refine ⟨this.1.1.1, this.1.1.2, fun e => ?_, this.2⟩
    have h := this.1.2
    by_cases hh : clr j a b = -1
    · exact hh
    · rcases h with h | h
      · exact absurd (by rw [e]) h
      · exact absurd hh h

theorem JOk.phase {j : Jn} (h : JOk j) {i : Int} (h0 : 0 ≤ i) (h1 : i < j.Phases.length) : j.Phases[i.toNat]? = some (rowAt j.Phases i) ∧ 1 ≤ (rowAt j.Phases i).length ∧
    (∀ s ∈ rowAt j.Phases i, 0 ≤ s ∧ s < j.n) ∧ 1 ≤ at0 j.Longest i ∧ at0 j.Longest i ≤ 600 := by
  have g := rowAt_get h0 h1
  have := h.ph i.toNat (by omega)
  rw [Int.toNat_of_nonneg h0] at this
  simp only [phB, Bool.and_eq_true, List.all_eq_true, List.mem_range, decide_eq_true_eq, inr_iff] at this
  refine ⟨g, by omega, fun s hs => ?_, ?_, this.2.2⟩
  · obtain ⟨k, hk⟩ := List.getElem?_of_mem hs
    have := this.1.1 k (List.getElem?_eq_some_iff.1 hk).1
    simp only [elB, at0_of hk, Bool.and_eq_true, inr_iff] at this
    omega
  · have h2 := this.2.1
    have : (1 : Int) ≤ maxI 1 (maxL j (rowAt j.Phases i)) := le_maxI (Int.le_refl _)
    omega

theorem JOk.rowBd {j : Jn} (h : JOk j) {r : List Int} (hr : r ∈ j.Clears) : 1 ≤ r.length ∧ -1 ≤ maxOf r ∧ maxOf r ≤ 60 := by
  have hl := h.sqr.rows r hr
  have hn := h.n1
  refine ⟨by omega, maxOf_bd (by omega) fun x hx => ?_⟩
  obtain ⟨a, ha⟩ := List.getElem?_of_mem hr
  obtain ⟨b, hb⟩ := List.getElem?_of_mem hx
  have ha' := (List.getElem?_eq_some_iff.1 ha).1
  have hb' := (List.getElem?_eq_some_iff.1 hb).1
  have := h.cl a b (by omega) (by have := h.sqr.len; omega) (by omega) (by omega)
  simp only [clr, rowAt_of ha, at0_of hb] at this
  omega

def mostTo (j : Jn) (k : Nat) : Int := (j.Clears.take k).foldl (fun m r => maxI m (maxOf r)) 0
theorem mostTo_snoc {j : Jn} {k : Nat} {r : List Int} (h : j.Clears[k]? = some r) : mostTo j (k + 1) = maxI (mostTo j k) (maxOf r) := by
  unfold mostTo
  rw [List.take_add_one, h]; simp
theorem most_bd {j : Jn} (h : JOk j) : 0 ≤ mostC j ∧ mostC j ≤ 60 := by
  unfold mostC
  have gen : ∀ (l : List (List Int)) (m : Int), (∀ r ∈ l, maxOf r ≤ 60) → 0 ≤ m → m ≤ 60 → 0 ≤ l.foldl (fun m r => maxI m (maxOf r)) m ∧ l.foldl (fun m r => maxI m (maxOf r)) m ≤ 60 := by
    intro l
    induction l with
    | nil => intro m _ h1 h2; exact ⟨h1, h2⟩
    | cons r l ih => intro m hr h1 h2; exact ih _ (fun x hx => hr x (by simp [hx])) (le_maxI h1) (maxI_le h2 (hr r (by simp)))
  exact gen _ 0 (fun r hr => (h.rowBd hr).2.2) (by omega) (by omega)
theorem long_bd {j : Jn} (h : JOk j) : 1 ≤ maxOf j.Longest ∧ maxOf j.Longest ≤ 600 := by
  refine maxOf_bd (by have := h.ll; have := h.p1; omega) fun x hx => ?_
  obtain ⟨i, hi⟩ := List.getElem?_of_mem hx
  have hil := (List.getElem?_eq_some_iff.1 hi).1
  have := (h.phase (i := i) (by omega) (by have := h.ll; omega)).2.2.2
  rw [at0_of hi] at this
  exact this

theorem c_Bound_t (j : Jn) (hf : Fit j) (h : jnB j = true) : PureCall Try.prog 34 [.agg j.cells] (.tup [I (boundJ j), I 0]) := by
  have hc := c_Check j hf
  rw [h] at hc
  have ho := jnB_ok h
  have hm := most_bd ho
  have hl := long_bd ho
  have hs1 := ho.s1; have hs2 := ho.s2; have hp1 := ho.p1; have hp2 := ho.p2
  have w1 : IntKind.i64.wrap (j.Skips + 1) = j.Skips + 1 := wrap_in (by omega) (by omega)
  have b1 : 0 ≤ (j.Skips + 1) * (j.Phases.length : Int) ∧ (j.Skips + 1) * (j.Phases.length : Int) ≤ 21 * 12 := ⟨Int.mul_nonneg (by omega) (by omega), Int.mul_le_mul (by omega) (by omega) (by omega) (by omega)⟩
  have w2 : IntKind.i64.wrap ((j.Skips + 1) * (j.Phases.length : Int)) = (j.Skips + 1) * (j.Phases.length : Int) := wrap_in (by omega) (by omega)
  have w3 : IntKind.i64.wrap ((j.Skips + 1) * (j.Phases.length : Int) + 1) = (j.Skips + 1) * (j.Phases.length : Int) + 1 := wrap_in (by omega) (by omega)
  have w4 : IntKind.i64.wrap (maxOf j.Longest + mostC j) = maxOf j.Longest + mostC j := wrap_in (by omega) (by omega)
  have b2 : 0 ≤ ((j.Skips + 1) * (j.Phases.length : Int) + 1) * (maxOf j.Longest + mostC j) ∧ ((j.Skips + 1) * (j.Phases.length : Int) + 1) * (maxOf j.Longest + mostC j) ≤ 253 * 660 := ⟨Int.mul_nonneg (by omega) (by omega), Int.mul_le_mul (by omega) (by omega) (by omega) (by omega)⟩
  have w5 : IntKind.i64.wrap (((j.Skips + 1) * (j.Phases.length : Int) + 1) * (maxOf j.Longest + mostC j)) = boundJ j := wrap_in (by omega) (by omega)
  have hfc := hf.c
  have hll := ho.ll
  have hml : mostTo j j.Clears.length = mostC j := by simp [mostTo, mostC]
  refine PureCall.of_body Try.func34 rfl (by decide) (by simp [Try.ntmps34]) ?_
  simp only [Try.ntmps34, Try.results34]
  refine awp_sr rfl fun K hK => ?_
  simp -dsimp
  refine hK _ _ ?_; clear hK K
  refine awp_seq_k fun K1 hK1 => ?_
  refine awp_sr rfl fun K hK => ?_
  simp -dsimp
  refine callK_intro _ (hc) (by simp) ?_
  simp -dsimp
  refine hK _ _ ?_; clear hK K
  refine awp_sr rfl fun K hK => ?_
  simp -dsimp
  refine hK _ _ ?_; clear hK K
  refine awp_cond rfl (fun hc0 => ?_) (fun hc0 => ?_)
  · skip
    skip
    simp at hc0
  · skip
    skip
    refine awp_skip ?_
    simp only [thenA, inBlockA, reduceIte, Nat.reduceEqDiff, eq_self]
    refine hK1 _ _ ?_
    refine awp_prune [1] ?_
    simp only [prune, List.map_cons, List.map_nil, Go.AM.look, Nat.reduceEqDiff, reduceIte]
    refine awp_sr rfl fun K hK => ?_
    simp -dsimp
    refine hK _ _ ?_; clear hK K
    refine awp_seq_k fun K2 hK2 => ?_
    refine awp_sr rfl fun K hK => ?_
    simp -dsimp
    refine hK _ _ ?_; clear hK K
    refine awp_block ?_
    refine awp_prune [1, 5, 14, 15, 16] ?_
    simp only [prune, List.map_cons, List.map_nil, Go.AM.look, Nat.reduceEqDiff, reduceIte]
    refine awp_loop_l [1, 14, 15] (α := Nat) (fun k => [(5, I (mostTo j k)), (16, I k)]) (fun k => [some (.els 6 [j.cells])]) (fun k => k ≤ j.Clears.length) (fun k => j.Clears.length - k) 0 ?_ ?_ ?_
    · exact Nat.zero_le _
    · have hm0 : mostTo j 0 = 0 := rfl
      exact sub_same (by simp [hm0])
    rintro k k1
    simp only [List.cons_append, List.nil_append, prune, List.map_cons, List.map_nil, Go.AM.look, Nat.reduceEqDiff, reduceIte]
    refine awp_sr rfl fun K hK => ?_
    simp -dsimp
    refine hK _ _ ?_; clear hK K
    refine awp_seq_k fun K3 hK3 => ?_
    refine awp_cond rfl (fun hc1 => ?_) (fun hc1 => ?_)
    · skip
      try simp at hc1
      obtain ⟨r, hr⟩ : ∃ r, j.Clears[k]? = some r := ⟨_, List.getElem?_eq_getElem hc1⟩
      have wk : IntKind.i64.wrap ((k : Int) + 1) = (k : Int) + 1 := wrap_in (by omega) (by omega)
      refine awp_skip ?_
      simp only [thenA, inBlockA, reduceIte, Nat.reduceEqDiff, eq_self]
      refine hK3 _ _ ?_
      refine awp_prune [1, 5, 14, 15, 16] ?_
      simp only [prune, List.map_cons, List.map_nil, Go.AM.look, Nat.reduceEqDiff, reduceIte]
      refine awp_seq_k fun K4 hK4 => ?_
      refine awp_block ?_
      refine awp_sr rfl fun K hK => ?_
      simp -dsimp [hr]
      refine hK _ _ ?_; clear hK K
      refine awp_r rfl fun K hK => ?_
      simp -dsimp
      refine callK_intro _ (c_Max r (ho.rowBd (List.mem_of_getElem? hr)).1 (by have := hf.cs r (List.mem_of_getElem? hr); omega)) (by simp) ?_
      simp -dsimp
      refine hK _ _ ?_; clear hK K
      simp only [thenA, inBlockA, reduceIte, Nat.reduceEqDiff, eq_self]
      refine hK4 _ _ ?_
      refine awp_prune [1, 5, 14, 15, 16] ?_
      simp only [prune, List.map_cons, List.map_nil, Go.AM.look, Nat.reduceEqDiff, reduceIte]
      refine awp_r rfl fun K hK => ?_
      simp -dsimp [wk]
      refine hK _ _ ?_; clear hK K
      simp only [thenA, inBlockA, reduceIte, Nat.reduceEqDiff, eq_self]
      exact ⟨k + 1, by omega, by omega, sub_rb [some 0] rfl (by simp [mostTo_snoc hr, maxI]) (by simp)⟩
    · skip
      try simp at hc1
      have hkk : k = j.Clears.length := by omega
      subst hkk
      refine awp_exit ?_
      simp only [thenA, inBlockA, reduceIte, Nat.reduceEqDiff, eq_self]
      refine hK2 _ _ ?_
      refine awp_prune [1, 5] ?_
      simp only [prune, List.map_cons, List.map_nil, Go.AM.look, Nat.reduceEqDiff, reduceIte]
      refine awp_sd mixed rfl fun K hK => ?_
      simp -dsimp [w1, w2, w3, w4, w5, hml]
      refine callK_intro _ (c_Max j.Longest (by omega) (by omega)) (by simp) ?_
      simp -dsimp [w1, w2, w3, w4, w5, hml]
      refine hK _ _ _ (by decide +kernel) ?_; clear hK K
      exact awp_ret (by simp)
end Go.Street
