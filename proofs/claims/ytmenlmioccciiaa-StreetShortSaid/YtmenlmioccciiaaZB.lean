/- Walks: a signal is opened. -/
import Derived.Test.YtmenlmioccciiaaZA
namespace Go.Street
open Go.AM Go.Proofs
set_option maxRecDepth 10000
set_option maxHeartbeats 8000000
set_option linter.unusedVariables false
set_option linter.unusedSimpArgs false

theorem c_Open_f (j : Jn) (hf : Fit j) (h : jnB j = false) : PureCall Try.prog 24 [.agg j.cells] (.tup [.v (.pointer none), I 2]) := by
  have hc := c_Check j hf
  rw [h] at hc
  refine PureCall.of_body Try.func24 rfl (by decide) (by simp [Try.ntmps24]) ?_
  simp only [Try.ntmps24, Try.results24]
  refine awp_sr rfl fun K hK => ?_
  simp -dsimp
  refine hK _ _ ?_; clear hK K
  refine awp_seq_k fun K1 hK1 => ?_
  refine awp_sr rfl fun K hK => ?_
  simp -dsimp
  refine callK_intro _ (hc) (by simp) ?_
  simp -dsimp
  refine hK _ _ ?_; clear hK K
  refine awp_sr rfl fun K hK => ?_
  simp -dsimp
  refine hK _ _ ?_; clear hK K
  refine awp_cond rfl (fun hc0 => ?_) (fun hc0 => ?_)
  · skip
    skip
    refine awp_sr rfl fun K hK => ?_
    simp -dsimp
    refine hK _ _ ?_; clear hK K
    exact awp_ret (by simp)
  · skip
    skip
    simp at hc0

def grStep (ls : List Lt) (x : Int) : List Lt := ls.set x.toNat ⟨true, (ltAt ls x).Since⟩
def grF (l : List Int) (ls : List Lt) : List Lt := l.foldl grStep ls
theorem grF_len (l : List Int) (ls : List Lt) : (grF l ls).length = ls.length := by
  unfold grF
  induction l generalizing ls with
  | nil => rfl
  | cons x l ih => rw [List.foldl_cons, ih]; simp [grStep]
theorem grF_snoc {l : List Int} {ls : List Lt} {k : Nat} {x : Int} (h : l[k]? = some x) : grF (l.take (k + 1)) ls = grStep (grF (l.take k) ls) x := by
  unfold grF
  rw [List.take_add_one, h]; simp
def openS (j : Jn) : Sg := ⟨-1, 0, 0, true, grF (rowAt j.Phases 0) (List.replicate j.n ⟨false, 0⟩), List.replicate j.Phases.length 0⟩

theorem m_Open (j : Jn) (hf : Fit j) (h : jnB j = true) : MutCall Try.prog 24 [.agg j.cells] [] [] (.tup [.ptr 0 0 0, I 0]) [] [sgRow j (openS j) j.n j.Phases.length .any .any, rRow (openS j).ls, kRow (openS j).sk] := by
  have hc := c_Check j hf
  rw [h] at hc
  have ho := jnB_ok h
  have hw := c_owned j hf
  have hph := ho.phase (i := 0) (by omega) (by have := ho.p1; omega)
  have hpl := hf.ps _ (List.mem_of_getElem? hph.1)
  have hn := hf.s; have hp := hf.p
  have hnl : j.n = j.Streams.length := rfl
  have f1 : Fits j.Streams.length 17 := fits_of (by omega) (by omega)
  have f2 : Fits j.Phases.length 9 := fits_of (by omega) (by omega)
  have wm1 : IntKind.i64.wrap (-1) = -1 := wrap_in (by omega) (by omega)
  have gp : j.Phases[0]? = some (rowAt j.Phases 0) := hph.1
  refine MutCall.of_bodyG [] Try.func24 rfl (by decide) (by simp [Try.ntmps24]) rfl rfl ?_
  intro J hJ
  simp only [Try.ntmps24, Try.results24]
  refine gwp_sr rfl (by decide) rfl rfl fun K hK => ?_
  simp -dsimp
  refine hK _ _ ?_; clear hK K
  refine gwp_seq_k fun K1 hK1 => ?_
  refine gwp_sr rfl (by decide) rfl rfl fun K hK => ?_
  simp -dsimp
  refine callK_intro _ (hc) (by simp) ?_
  simp -dsimp
  refine hK _ _ ?_; clear hK K
  refine gwp_sr rfl (by decide) rfl rfl fun K hK => ?_
  simp -dsimp
  refine hK _ _ ?_; clear hK K
  refine gwp_cond rfl (fun hc0 => ?_) (fun hc0 => ?_)
  · skip
    skip
    simp at hc0
  · skip
    skip
    refine gwp_skip ?_
    simp only [thenA, inBlockA, reduceIte, Nat.reduceEqDiff, eq_self]
    refine hK1 _ _ ?_
    refine gwp_prune [1] (Or.inr (by simp)) ?_
    simp only [prune, List.map_cons, List.map_nil, Go.AM.look, Nat.reduceEqDiff, reduceIte]
    refine gwp_sd mixed rfl (by decide) rfl rfl fun K hK => ?_
    simp -dsimp [f1, f2]
    refine callK_intro _ (hw) (by simp) ?_
    simp -dsimp [f1, f2]
    refine hK _ _ _ (by decide +kernel) ?_; clear hK K
    refine gwp_seq_k fun K2 hK2 => ?_
    refine gwp_sr rfl (by decide) rfl rfl fun K hK => ?_
    simp -dsimp [gp]
    refine hK _ _ ?_; clear hK K
    refine gwp_block ?_
    refine gwp_prune [5, 29, 30, 31] (Or.inr (by simp)) ?_
    simp only [prune, List.map_cons, List.map_nil, Go.AM.look, Nat.reduceEqDiff, reduceIte]
    refine gwp_loop_l [5, 29, 30] (α := Nat) (fun k => [(31, I k)]) (fun k => [none, rRow (grF ((rowAt j.Phases 0).take k) (List.replicate j.n ⟨false, 0⟩)), kRow (List.replicate j.Phases.length 0), some (.els 15 [sC j (Bo true) (I (-1)) (I 0) (Bo true) (I 0) (.row 1 0 j.n) (.row 2 0 j.Phases.length) (.v (.map none)) (.v (.map none))])]) (fun k => k ≤ (rowAt j.Phases 0).length) (fun k => (rowAt j.Phases 0).length - k) 0 ?_ ?_ ?_
    · exact Nat.zero_le _
    · exact gsub (sub_rb [none, some 1, some 2, some 3] rfl (by simp) (by simp [grF, hnl])) (by simp)
    rintro k k1
    simp only [List.cons_append, List.nil_append, prune, List.map_cons, List.map_nil, Go.AM.look, Nat.reduceEqDiff, reduceIte]
    refine gwp_sr rfl (by decide) rfl rfl fun K hK => ?_
    simp -dsimp
    refine hK _ _ ?_; clear hK K
    refine gwp_seq_k fun K3 hK3 => ?_
    refine gwp_cond rfl (fun hc1 => ?_) (fun hc1 => ?_)
    · skip
      skip
      have hkl : k < (rowAt j.Phases 0).length := by simpa using hc1
      have gx := at0_nat hkl
      have hxb := hph.2.2.1 _ (List.mem_of_getElem? gx)
      have wk : IntKind.i64.wrap ((k : Int) + 1) = (k : Int) + 1 := wrap_in (by omega) (by omega)
      generalize at0 (rowAt j.Phases 0) k = x at gx hxb
      have hsn := grF_snoc (ls := List.replicate j.n ⟨false, 0⟩) gx
      have hln := grF_len ((rowAt j.Phases 0).take k) (List.replicate j.n ⟨false, 0⟩)
      rw [List.length_replicate] at hln
      generalize grF ((rowAt j.Phases 0).take k) (List.replicate j.n ⟨false, 0⟩) = L at hsn hln ⊢
      have gl := ltAt_get (l := L) (i := x) hxb.1 (by omega)
      refine gwp_skip ?_
      simp only [thenA, inBlockA, reduceIte, Nat.reduceEqDiff, eq_self]
      refine hK3 _ _ ?_
      refine gwp_prune [5, 29, 30, 31] (Or.inr (by simp)) ?_
      simp only [prune, List.map_cons, List.map_nil, Go.AM.look, Nat.reduceEqDiff, reduceIte]
      refine gwp_seq_k fun K4 hK4 => ?_
      refine gwp_block ?_
      refine gwp_sr rfl (by decide) rfl rfl fun K hK => ?_
      simp -dsimp [gx]
      refine hK _ _ ?_; clear hK K
      refine gwp_r rfl (by decide) rfl rfl fun K hK => ?_
      simp -dsimp [hxb.1, hxb.2, gl]
      refine hK _ _ ?_; clear hK K
      simp only [thenA, inBlockA, reduceIte, Nat.reduceEqDiff, eq_self]
      refine hK4 _ _ ?_
      refine gwp_prune [5, 29, 30, 31] (Or.inr (by simp)) ?_
      simp only [prune, List.map_cons, List.map_nil, Go.AM.look, Nat.reduceEqDiff, reduceIte]
      refine gwp_r rfl (by decide) rfl rfl fun K hK => ?_
      simp -dsimp [wk]
      refine hK _ _ ?_; clear hK K
      simp only [thenA, inBlockA, reduceIte, Nat.reduceEqDiff, eq_self]
      exact ⟨k + 1, by omega, by omega, gsub (sub_rb [none, some 1, some 2, some 3] rfl (by simp) (by simp [hsn, grStep, List.map_set])) (by simp)⟩
    · skip
      skip
      have hkk : ¬ k < (rowAt j.Phases 0).length := by simpa using hc1
      have htk : (rowAt j.Phases 0).take k = rowAt j.Phases 0 := List.take_of_length_le (by omega)
      rw [htk]
      refine gwp_exit ?_
      simp only [thenA, inBlockA, reduceIte, Nat.reduceEqDiff, eq_self]
      refine hK2 _ _ ?_
      refine gwp_prune [5] (Or.inr (by simp)) ?_
      simp only [prune, List.map_cons, List.map_nil, Go.AM.look, Nat.reduceEqDiff, reduceIte]
      refine gwp_sr rfl (by decide) rfl rfl fun K hK => ?_
      simp -dsimp
      refine hK _ _ ?_; clear hK K
      refine gwp_weak (gsub (sub_anyR 3 [sC j (Bo true) (I (-1)) (I 0) (Bo true) (I 0) (.row 1 0 j.n) (.row 2 0 j.Phases.length) .any .any] rfl (by simp)) (by simp)) ?_
      exact gwp_ret ⟨[some 3, some 1, some 2], rfl, by simp, by simp [openS], by simp, by simp [resP, tupOf]⟩

theorem grF_bd : ∀ (l : List Int) (ls : List Lt), (∀ x ∈ ls, x.Since = 0) → ∀ x ∈ grF l ls, x.Since = 0
  | [], ls, h => h
  | y :: l, ls, h => grF_bd l (grStep ls y) (by
    intro x hx
    rcases List.mem_or_eq_of_mem_set hx with h1 | rfl
    · exact h x h1
    · show (ltAt ls y).Since = 0
      unfold ltAt
      cases hy : ls[y.toNat]? with
      | none => rfl
      | some z => exact h z (List.mem_of_getElem? hy))
theorem openS_ok {j : Jn} (ho : JOk j) : SgOk j (openS j) := by
  have h1 := ho.p1
  refine ⟨by simp [openS, grF_len], by simp [openS], ?_, by simp [openS], by simp [openS], by simp [openS, smallT], ?_, by simp [openS], by simp [openS]; omega⟩
  · intro x hx
    simp only [openS, List.mem_replicate] at hx
    omega
  · intro l hl
    have := grF_bd (rowAt j.Phases 0) (List.replicate j.n ⟨false, 0⟩) (by intro x hx; simp only [List.mem_replicate] at hx; rw [hx.2]) l hl
    unfold smallT; omega

/-- One second more keeps the numbers within bounds. -/
structure SgIn (j : Jn) (N : Int) (s : Sg) : Prop where
  l : s.ls.length = j.n
  k : s.sk.length = j.Phases.length
  kb : ∀ x ∈ s.sk, 0 ≤ x ∧ x ≤ 20 * (N + 1)
  se : s.se = N
  si : -1 ≤ s.si ∧ s.si ≤ N + 1
  lb : ∀ l ∈ s.ls, -1 ≤ l.Since ∧ l.Since ≤ N + 1
  p0 : 0 ≤ s.ph
  p1 : s.ph < j.Phases.length
theorem SgIn.ok {j : Jn} {N : Int} {s : Sg} (h : SgIn j N s) (h0 : -1 ≤ N) (h1 : N ≤ 40000) : SgOk j s :=
  ⟨h.l, h.k, fun x hx => by have := h.kb x hx; omega, by have := h.se; omega, by have := h.se; omega, by have := h.si; unfold smallT; omega, fun l hl => by have := h.lb l hl; unfold smallT; omega, h.p0, h.p1⟩
end Go.Street
