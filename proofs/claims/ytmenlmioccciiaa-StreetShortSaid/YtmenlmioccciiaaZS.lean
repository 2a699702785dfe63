/- Walks: the shortest tour. -/
import Derived.Test.YtmenlmioccciiaaZG
namespace Go.Street
open Go.AM Go.Proofs
set_option maxRecDepth 10000
set_option maxHeartbeats 8000000
set_option linter.unusedVariables false
set_option linter.unusedSimpArgs false

theorem c_Tour_f (j : Jn) (l : List Int) (hf : Fit j) (hn : l.length ≤ 1000) (h : jnB j = false ∨ touredB j l = false ∨ sortedB l = false) : PureCall Try.prog 14 [j.av, iL l] (.tup [.v (.slice none 0 0), I 0, I 2]) := by
  have hc := c_Check j hf
  have ht := fun hj : jnB j = true => c_toured j l hf (jnB_ok hj).sqr hn
  have hs := c_IsSorted l hn
  cases hj : jnB j with
  | false =>
    rw [hj] at hc
    refine PureCall.of_body Try.func14 rfl (by decide) (by simp [Try.ntmps14]) ?_
    simp only [Try.ntmps14, Try.results14]
    refine awp_sr rfl fun K hK => ?_
    simp -dsimp
    refine hK _ _ ?_; clear hK K
    refine awp_sr rfl fun K hK => ?_
    simp -dsimp
    refine hK _ _ ?_; clear hK K
    refine awp_seq_k fun K1 hK1 => ?_
    refine awp_sr rfl fun K hK => ?_
    simp -dsimp
    refine callK_intro _ (hc) (by simp) ?_
    simp -dsimp
    refine callK_may _ (fun hm => (absurd hm (by simp) : PureCall _ _ _ (Bo true))) (by simp) ?_
    simp -dsimp
    refine callK_may _ (fun hm => (absurd hm (by simp) : PureCall _ _ _ (Bo true))) (by simp) ?_
    simp -dsimp
    refine hK _ _ ?_; clear hK K
    refine awp_cond rfl (fun hc0 => ?_) (fun hc0 => ?_)
    · skip
      skip
      refine awp_sr rfl fun K hK => ?_
      simp -dsimp
      refine hK _ _ ?_; clear hK K
      exact awp_ret (by simp)
    · skip
      skip
      simp at hc0
  | true =>
    rw [hj] at hc
    have ht' := ht hj
    refine PureCall.of_body Try.func14 rfl (by decide) (by simp [Try.ntmps14]) ?_
    simp only [Try.ntmps14, Try.results14]
    refine awp_sr rfl fun K hK => ?_
    simp -dsimp
    refine hK _ _ ?_; clear hK K
    refine awp_sr rfl fun K hK => ?_
    simp -dsimp
    refine hK _ _ ?_; clear hK K
    refine awp_seq_k fun K1 hK1 => ?_
    refine awp_sr rfl fun K hK => ?_
    simp -dsimp
    refine callK_intro _ (hc) (by simp) ?_
    simp -dsimp
    refine callK_may _ (fun hm => ht') (by simp) ?_
    simp -dsimp
    refine callK_may _ (fun hm => hs) (by simp) ?_
    simp -dsimp
    refine hK _ _ ?_; clear hK K
    refine awp_cond rfl (fun hc0 => ?_) (fun hc0 => ?_)
    · skip
      skip
      refine awp_sr rfl fun K hK => ?_
      simp -dsimp
      refine hK _ _ ?_; clear hK K
      exact awp_ret (by simp)
    · skip
      skip
      exfalso; rcases h with h | h | h; (rw [hj] at h; cases h); (simp [h] at hc0); (simp [h] at hc0)

theorem c_Tour_t (j : Jn) (l : List Int) (hf : Fit j) (hj : jnB j = true) (ht : touredB j l = true) (hs : sortedB l = true) (s' : Bs) (t : List Int)
    (h : orG ⟨none, 0⟩ (strm j (at0 l 0)).Least (srF j l 9 ⟨none, 0⟩ [at0 l 0] (strm j (at0 l 0)).Least) = some s') (hb : s'.best = some t) : PureCall Try.prog 14 [j.av, iL l] (.tup [iL t, I s'.least, I 0]) := by
  have ho := jnB_ok hj
  have hc := c_Check j hf
  rw [hj] at hc
  have htb : 2 ≤ l.length ∧ l.length ≤ 9 ∧ ∀ x ∈ l, 0 ≤ x ∧ x < j.n := by
    simp only [touredB, Bool.and_eq_true, List.all_eq_true, List.mem_range, inr_iff] at ht
    refine ⟨by omega, by omega, fun x hx => ?_⟩
    obtain ⟨k, hk⟩ := List.getElem?_of_mem hx
    have := ht.1 k (List.getElem?_eq_some_iff.1 hk).1
    simp only [tourEl, at0_of hk, Bool.and_eq_true, inr_iff] at this
    omega
  have hto := c_toured j l hf ho.sqr (by omega)
  have hso := c_IsSorted l (by omega)
  rw [ht] at hto
  rw [hs] at hso
  have g0 : l[0]? = some (at0 l 0) := at0_nat (l := l) (k := 0) (by omega)
  have hx := htb.2.2 _ (List.mem_of_getElem? g0)
  generalize hxe : at0 l 0 = x at g0 hx h
  have gs := strm_get hx.1 hx.2
  have hst := ho.strm x hx.1 hx.2
  have hbr := br_eat0 j l x (strm j x).Least ⟨none, 0⟩ s' (m_branch j l hf ho htb.2.2 (by omega) 9 ⟨none, 0⟩ [x] (strm j x).Least s' h ⟨by simp, by simp, by simp⟩ ⟨by simp, by simp, by simpa using hx, by omega, by simp; omega⟩ (by simp))
  refine PureCall.of_bodyG Try.func14 rfl (by decide) (by simp [Try.ntmps14]) ?_
  intro J hJ
  simp only [Try.ntmps14, Try.results14]
  refine gwp_sr rfl (by decide) rfl rfl fun K hK => ?_
  simp -dsimp
  refine hK _ _ ?_; clear hK K
  refine gwp_sr rfl (by decide) rfl rfl fun K hK => ?_
  simp -dsimp
  refine hK _ _ ?_; clear hK K
  refine gwp_seq_k fun K1 hK1 => ?_
  refine gwp_sr rfl (by decide) rfl rfl fun K hK => ?_
  simp -dsimp
  refine callK_intro _ (hc) (by simp) ?_
  simp -dsimp
  refine callK_may _ (fun hm => hto) (by simp) ?_
  simp -dsimp
  refine callK_may _ (fun hm => hso) (by simp) ?_
  simp -dsimp
  refine hK _ _ ?_; clear hK K
  refine gwp_cond rfl (fun hc0 => ?_) (fun hc0 => ?_)
  · skip
    skip
    simp at hc0
  · skip
    skip
    refine gwp_skip ?_
    simp only [thenA, inBlockA, reduceIte, Nat.reduceEqDiff, eq_self]
    refine hK1 _ _ ?_
    refine gwp_prune [3, 7] (Or.inr (by simp)) ?_
    simp only [prune, List.map_cons, List.map_nil, Go.AM.look, Nat.reduceEqDiff, reduceIte]
    refine gwp_sr rfl (by decide) rfl rfl fun K hK => ?_
    simp -dsimp
    refine hK _ _ ?_; clear hK K
    refine gwp_sr rfl (by decide) rfl rfl fun K hK => ?_
    simp -dsimp
    refine hK _ _ ?_; clear hK K
    refine gwp_sr rfl (by decide) rfl rfl fun K hK => ?_
    simp -dsimp
    refine hK _ _ ?_; clear hK K
    refine gwp_sr rfl (by decide) rfl rfl fun K hK => ?_
    simp -dsimp
    refine hK _ _ ?_; clear hK K
    refine gwp_sr rfl (by decide) rfl rfl fun K hK => ?_
    simp -dsimp
    refine hK _ _ ?_; clear hK K
    refine gwp_weak (gsub (sub_rf (T' := [(3, .iptr [iL l]), (7, .iptr j.cells), (8, .ptr 0 0 0), (9, .ptr 1 0 0), (11, .ptr 3 0 0)]) (H' := [bRow ⟨none, 0⟩, lRow ⟨none, 0⟩, srRow l j.cells, vbRow]) [some 3, some 4, some 5, some 6] rfl (by simp) (by simp)) (by simp)) ?_
    · skip
      refine gwp_flag (by decide) ?_
      refine gwp_sd mixed rfl (by decide) rfl rfl fun K hK => ?_
      simp -dsimp [g0, gs, hx.1]
      refine callK_mut [0,1] [2,3,4] [some 0, some 1, none, none, none] (hbr) (by decide) rfl (by simp) (by simp) rfl (by simp) ?_
      simp -dsimp [g0, gs, hx.1]
      refine hK _ _ _ (by decide +kernel) ?_; clear hK K
      refine gwp_sd mixed rfl (by decide) rfl rfl fun K hK => ?_
      simp -dsimp [hb]
      refine hK _ _ _ (by decide +kernel) ?_; clear hK K
      exact gwp_ret (by simp [hb, resP, tupOf])
end Go.Street
