/- Walks: the laws StreetChecks, StreetRight, StreetQuiet. -/
import Derived.Test.YtmenlmioccciiaaZW
import Derived.Test.YtmenlmioccciiaaZT
import Derived.Test.YtmenlmioccciiaaZO
namespace Go.Street
open Go.AM Go.Proofs
set_option maxRecDepth 100000
set_option maxHeartbeats 8000000
set_option linter.unusedVariables false
set_option linter.unusedSimpArgs false

theorem PureCall.argR {P : Program} {f : FuncId} {args args' : List AV} {res : AV} (h : PureCall P f args' res) (hl : args.length = args'.length)
    (hr : ∀ (i : Nat) c c', args[i]? = some c → args'[i]? = some c' → ∀ (w : World) (S : Nat → Prop) (y : Value), RepP w S c y → RepP w S c' y) : PureCall P f args res := by
  have key : ∀ {w : World} {S : Nat → Prop} {vs : List Value}, (∀ (i : Nat) c x, args[i]? = some c → vs[i]? = some x → RepP w S c x) → ∀ (i : Nat) c x, args'[i]? = some c → vs[i]? = some x → RepP w S c x := by
    intro w S vs h i c x h1 h2
    have hil : i < args.length := by rw [hl]; exact (List.getElem?_eq_some_iff.1 h1).1
    exact hr i _ c (List.getElem?_eq_getElem hil) h1 w S x (h i _ x (List.getElem?_eq_getElem hil) h2)
  rcases h with ⟨h1, h2⟩ | h2
  · exact Or.inl ⟨h1, fun S0 w vs a b c => h2 S0 w vs a (by rw [← hl]; exact b) (key c)⟩
  · exact Or.inr fun S0 w vs a b => h2 S0 w vs (by rw [← hl]; exact a) (key b)

theorem nilPg_arg {j : Jn} {res : AV} {f : FuncId} (h : PureCall Try.prog f [j.av, (⟨0, [], []⟩ : Pg).av] res) : PureCall Try.prog f [j.av, nilPg] res := by
  refine PureCall.argR h rfl fun i c c' h1 h2 w S y hy => ?_
  match i, h1, h2 with
  | 0, h1, h2 => simp only [List.getElem?_cons_zero, Option.some.injEq] at h1 h2; subst h1 h2; exact hy
  | 1, h1, h2 =>
    simp only [List.getElem?_cons_succ, List.getElem?_cons_zero, Option.some.injEq] at h1 h2
    subst h1 h2
    exact wkN_rep 1 3 _ _ hy

theorem c_StreetRight (j : Jn) (p : Pg) (hi : JnIn j) (hp : PgIn p) : PureCall Try.prog 8 [j.av, p.av] (Bo true) := by
  obtain ⟨b, hcf, hfit⟩ := c_fit j hi.s hi.c hi.p hi.l hi.g
  have hk := c_known
  cases b with
  | false =>
    refine PureCall.of_body Try.func8 rfl (by decide) (by simp [Try.ntmps8]) ?_
    simp only [Try.ntmps8, Try.results8]
    refine awp_sr rfl fun K hK => ?_
    simp -dsimp
    refine hK _ _ ?_; clear hK K
    refine awp_seq_k fun K1 hK1 => ?_
    refine awp_sr rfl fun K hK => ?_
    simp -dsimp
    refine callK_intro _ (hcf) (by simp) ?_
    simp -dsimp
    refine hK _ _ ?_; clear hK K
    refine awp_cond rfl (fun hc0 => ?_) (fun hc0 => ?_)
    · skip
      skip
      refine awp_sr rfl fun K hK => ?_
      simp -dsimp
      refine callK_intro _ (hk) (by simp) ?_
      simp -dsimp
      refine hK _ _ ?_; clear hK K
      exact awp_ret (by simp)
    · skip
      skip
      simp at hc0
  | true =>
    have hf := hfit rfl
    have hv := c_rValid j hf
    have hr := c_Right j p hf
    cases hj : jnB j with
    | false =>
      rw [hj] at hv hr
      refine PureCall.of_body Try.func8 rfl (by decide) (by simp [Try.ntmps8]) ?_
      simp only [Try.ntmps8, Try.results8]
      refine awp_sr rfl fun K hK => ?_
      simp -dsimp
      refine hK _ _ ?_; clear hK K
      refine awp_seq_k fun K1 hK1 => ?_
      refine awp_sr rfl fun K hK => ?_
      simp -dsimp
      refine callK_intro _ (hcf) (by simp) ?_
      simp -dsimp
      refine hK _ _ ?_; clear hK K
      refine awp_cond rfl (fun hc0 => ?_) (fun hc0 => ?_)
      · skip
        skip
        refine awp_sr rfl fun K hK => ?_
        simp -dsimp
        refine callK_intro _ (hk) (by simp) ?_
        simp -dsimp
        refine hK _ _ ?_; clear hK K
        exact awp_ret (by simp)
      · skip
        skip
        refine awp_skip ?_
        simp only [thenA, inBlockA, reduceIte, Nat.reduceEqDiff, eq_self]
        refine hK1 _ _ ?_
        refine awp_prune [2, 3] ?_
        simp only [prune, List.map_cons, List.map_nil, Go.AM.look, Nat.reduceEqDiff, reduceIte]
        refine awp_sd mixed rfl fun K hK => ?_
        simp -dsimp
        refine callK_intro _ (hr) (by simp) ?_
        simp -dsimp
        refine callK_intro _ (hv) (by simp) ?_
        simp -dsimp
        refine callK_may _ (fun hm => (absurd hm (by simp) : PureCall _ _ _ (Bo true))) (by simp) ?_
        simp -dsimp
        refine ⟨fun w => (eq_bool _ _ _ _ _ w und_bool kt_bool).1, _, fun w => (eq_bool _ (.tmp 0) (.tmp 0) _ _ w und_bool kt_bool).2, ?_⟩
        simp -dsimp
        refine callK_may _ (fun hm => hk) (by simp) ?_
        simp -dsimp
        refine hK _ _ _ (by decide +kernel) ?_; clear hK K
        exact awp_ret (by simp)
    | true =>
      rw [hj] at hv hr
      have hr2 := c_rRight j p hf (jnB_ok hj)
      refine PureCall.of_body Try.func8 rfl (by decide) (by simp [Try.ntmps8]) ?_
      simp only [Try.ntmps8, Try.results8]
      refine awp_sr rfl fun K hK => ?_
      simp -dsimp
      refine hK _ _ ?_; clear hK K
      refine awp_seq_k fun K1 hK1 => ?_
      refine awp_sr rfl fun K hK => ?_
      simp -dsimp
      refine callK_intro _ (hcf) (by simp) ?_
      simp -dsimp
      refine hK _ _ ?_; clear hK K
      refine awp_cond rfl (fun hc0 => ?_) (fun hc0 => ?_)
      · skip
        skip
        refine awp_sr rfl fun K hK => ?_
        simp -dsimp
        refine callK_intro _ (hk) (by simp) ?_
        simp -dsimp
        refine hK _ _ ?_; clear hK K
        exact awp_ret (by simp)
      · skip
        skip
        refine awp_skip ?_
        simp only [thenA, inBlockA, reduceIte, Nat.reduceEqDiff, eq_self]
        refine hK1 _ _ ?_
        refine awp_prune [2, 3] ?_
        simp only [prune, List.map_cons, List.map_nil, Go.AM.look, Nat.reduceEqDiff, reduceIte]
        refine awp_sd mixed rfl fun K hK => ?_
        simp -dsimp
        refine callK_intro _ (hr) (by simp) ?_
        simp -dsimp
        refine callK_intro _ (hv) (by simp) ?_
        simp -dsimp
        refine callK_may _ (fun hm => hr2) (by simp) ?_
        simp -dsimp
        refine ⟨fun w => (eq_bool _ _ _ _ _ w und_bool kt_bool).1, _, fun w => (eq_bool _ (.tmp 0) (.tmp 0) _ _ w und_bool kt_bool).2, ?_⟩
        simp -dsimp
        refine callK_may _ (fun hm => hk) (by simp) ?_
        simp -dsimp
        refine hK _ _ _ (by decide +kernel) ?_; clear hK K
        exact awp_ret (by simp)

theorem eqg_ptr (op : BinOp) (t : TypeId) (x y : Operand) (w : World) : (eqGuard op t x y (.pointer none) (.pointer none)).run Try.prog w = .ok () w := by
  cases op <;> simp [eqGuard]
theorem eq_ptr (w : World) : (binOp .eql 46 (.pointer none) (.pointer none)).run Try.prog w = .ok (.bool true) w := by kernel_rfl

theorem c_StreetChecks (j : Jn) (hi : JnIn j) : PureCall Try.prog 11 [j.av] (Bo true) := by
  obtain ⟨b, hcf, hfit⟩ := c_fit j hi.s hi.c hi.p hi.l hi.g
  have hk := c_known
  cases b with
  | false =>
    refine PureCall.of_body Try.func11 rfl (by decide) (by simp [Try.ntmps11]) ?_
    simp only [Try.ntmps11, Try.results11]
    refine awp_sr rfl fun K hK => ?_
    simp -dsimp
    refine hK _ _ ?_; clear hK K
    refine awp_seq_k fun K1 hK1 => ?_
    refine awp_sr rfl fun K hK => ?_
    simp -dsimp
    refine callK_intro _ (hcf) (by simp) ?_
    simp -dsimp
    refine hK _ _ ?_; clear hK K
    refine awp_cond rfl (fun hc0 => ?_) (fun hc0 => ?_)
    · skip
      skip
      refine awp_sr rfl fun K hK => ?_
      simp -dsimp
      refine callK_intro _ (hk) (by simp) ?_
      simp -dsimp
      refine hK _ _ ?_; clear hK K
      exact awp_ret (by simp)
    · skip
      skip
      simp at hc0
  | true =>
    have hf := hfit rfl
    have hv := c_rValid j hf
    have hck := c_Check j hf
    have hr := nilPg_arg (c_Right j ⟨0, [], []⟩ hf)
    cases hj : jnB j with
    | false =>
      rw [hj] at hv hr hck
      have hb := c_Bound_f j hf hj
      have ho := c_Open_f j hf hj
      refine PureCall.of_body Try.func11 rfl (by decide) (by simp [Try.ntmps11]) ?_
      simp only [Try.ntmps11, Try.results11]
      refine awp_sr rfl fun K hK => ?_
      simp -dsimp
      refine hK _ _ ?_; clear hK K
      refine awp_seq_k fun K1 hK1 => ?_
      refine awp_sr rfl fun K hK => ?_
      simp -dsimp
      refine callK_intro _ (hcf) (by simp) ?_
      simp -dsimp
      refine hK _ _ ?_; clear hK K
      refine awp_cond rfl (fun hc0 => ?_) (fun hc0 => ?_)
      · skip
        skip
        simp at hc0
      · skip
        skip
        refine awp_skip ?_
        simp only [thenA, inBlockA, reduceIte, Nat.reduceEqDiff, eq_self]
        refine hK1 _ _ ?_
        refine awp_prune [1] ?_
        simp only [prune, List.map_cons, List.map_nil, Go.AM.look, Nat.reduceEqDiff, reduceIte]
        refine awp_sr rfl fun K hK => ?_
        simp -dsimp
        refine callK_intro _ (hb) (by simp) ?_
        simp -dsimp
        refine hK _ _ ?_; clear hK K
        refine awp_sr rfl fun K hK => ?_
        simp -dsimp
        refine callK_intro _ (ho) (by simp) ?_
        simp -dsimp
        refine hK _ _ ?_; clear hK K
        refine awp_seq_k fun K2 hK2 => ?_
        refine awp_sr rfl fun K hK => ?_
        simp -dsimp
        refine callK_intro _ (hv) (by simp) ?_
        simp -dsimp
        refine hK _ _ ?_; clear hK K
        refine awp_cond rfl (fun hc1 => ?_) (fun hc1 => ?_)
        · skip
          skip
          refine awp_sr rfl fun K hK => ?_
          simp -dsimp
          refine callK_intro _ (hck) (by simp) ?_
          simp -dsimp
          refine ⟨fun w => eqg_ptr _ _ _ _ w, _, fun w => eq_ptr w, ?_⟩
          simp -dsimp
          refine callK_may _ (fun hm => hr) (by simp) ?_
          simp -dsimp
          refine callK_may _ (fun hm => hk) (by simp) ?_
          simp -dsimp
          refine hK _ _ ?_; clear hK K
          exact awp_ret (by simp)
        · skip
          skip
          simp at hc1
    | true =>
      rw [hj] at hv hr hck
      have ho := jnB_ok hj
      have hb := c_Bound_t j hf hj
      have hop := m_Open j hf hj
      have hrb := c_rBound j hf ho
      have hse := fun (ph on si R Sk Dm Pr : AV) => c_Second j ph on si R Sk Dm Pr (-1)
      have e1 : (openS j).se = -1 := rfl
      have wm1 : IntKind.i64.wrap (-1) = -1 := wrap_in (by omega) (by omega)
      refine PureCall.of_bodyG Try.func11 rfl (by decide) (by simp [Try.ntmps11]) ?_
      intro J hJ
      simp only [Try.ntmps11, Try.results11]
      refine gwp_sr rfl (by decide) rfl rfl fun K hK => ?_
      simp -dsimp
      refine hK _ _ ?_; clear hK K
      refine gwp_seq_k fun K1 hK1 => ?_
      refine gwp_sr rfl (by decide) rfl rfl fun K hK => ?_
      simp -dsimp
      refine callK_intro _ (hcf) (by simp) ?_
      simp -dsimp
      refine hK _ _ ?_; clear hK K
      refine gwp_cond rfl (fun hc0 => ?_) (fun hc0 => ?_)
      · skip
        skip
        simp at hc0
      · skip
        skip
        refine gwp_skip ?_
        simp only [thenA, inBlockA, reduceIte, Nat.reduceEqDiff, eq_self]
        refine hK1 _ _ ?_
        refine gwp_prune [1] (Or.inr (by simp)) ?_
        simp only [prune, List.map_cons, List.map_nil, Go.AM.look, Nat.reduceEqDiff, reduceIte]
        refine gwp_sr rfl (by decide) rfl rfl fun K hK => ?_
        simp -dsimp
        refine callK_intro _ (hb) (by simp) ?_
        simp -dsimp
        refine hK _ _ ?_; clear hK K
        refine gwp_sr rfl (by decide) rfl rfl fun K hK => ?_
        simp -dsimp [e1]
        refine callK_mut [] [] [none, some 0, some 1, some 2] (hop) (by decide) rfl (by simp) (by simp) rfl (by simp) ?_
        simp -dsimp [e1]
        refine hK _ _ ?_; clear hK K
        refine gwp_seq_k fun K2 hK2 => ?_
        refine gwp_sr rfl (by decide) rfl rfl fun K hK => ?_
        simp -dsimp
        refine callK_intro _ (hv) (by simp) ?_
        simp -dsimp
        refine hK _ _ ?_; clear hK K
        refine gwp_cond rfl (fun hc1 => ?_) (fun hc1 => ?_)
        · skip
          skip
          simp at hc1
        · skip
          skip
          refine gwp_skip ?_
          simp only [thenA, inBlockA, reduceIte, Nat.reduceEqDiff, eq_self]
          refine hK2 _ _ ?_
          refine gwp_prune [1, 3, 4, 5, 6] (Or.inr (by simp)) ?_
          simp only [prune, List.map_cons, List.map_nil, Go.AM.look, Nat.reduceEqDiff, reduceIte]
          refine gwp_sr rfl (by decide) rfl rfl fun K hK => ?_
          simp -dsimp [wm1]
          refine callK_intro _ (hck) (by simp) ?_
          simp -dsimp [wm1]
          refine callK_may _ (fun hm => hrb) (by simp) ?_
          simp -dsimp [wm1]
          refine callK_may _ (fun hm => hse _ _ _ _ _ _ _) (by simp) ?_
          simp -dsimp [wm1]
          refine callK_may _ (fun hm => hk) (by simp) ?_
          simp -dsimp [wm1]
          refine hK _ _ ?_; clear hK K
          exact gwp_ret (by simp)
end Go.Street
