/- Walks: what a signal shows, and what it is told. -/
import Derived.Test.YtmenlmioccciiaaZ8
namespace Go.Street
open Go.AM Go.Proofs
set_option maxRecDepth 10000
set_option maxHeartbeats 4000000
set_option linter.unusedVariables false
set_option linter.unusedSimpArgs false

theorem sub_rfM {nt : Nat} {T : Tm} {H : Hp} (g : List (Option Nat)) (hn : nodupB g = true) : Go.AM.Sub nt T H (T.map fun p => (p.1, renF (hget H) g 3 (Go.AM.look T p.1))) (renHF H g) := by
  refine sub_rf g hn ?_ rfl
  have gen : ∀ l : Tm, subTF H g T (l.map fun p => (p.1, renF (hget H) g 3 (Go.AM.look T p.1))) := by
    intro l
    induction l with
    | nil => trivial
    | cons x l ih => exact ⟨Or.inr rfl, ih⟩
  exact gen T

section
variable (j : Jn) (op se ph on si R Sk Dm Pr : AV)
theorem c_Phase (p : Int) (b : Bool) : PureCall Try.prog 29 [.iptr (sC j (Bo true) se (I p) (Bo b) si R Sk Dm Pr)] (.tup [I p, Bo b]) := by
  have hr := c_ready j se (I p) (Bo b) si R Sk Dm Pr true
  refine PureCall.of_body Try.func29 rfl (by decide) (by simp [Try.ntmps29]) ?_
  simp only [Try.ntmps29, Try.results29]
  refine awp_sr rfl fun K hK => ?_
  simp -dsimp
  refine hK _ _ ?_; clear hK K
  refine awp_seq_k fun K1 hK1 => ?_
  refine awp_sr rfl fun K hK => ?_
  simp -dsimp
  refine callK_intro _ (hr) (by simp) ?_
  simp -dsimp
  refine hK _ _ ?_; clear hK K
  refine awp_cond rfl (fun hc0 => ?_) (fun hc0 => ?_)
  · skip
    skip
    simp at hc0
  · skip
    skip
    refine awp_skip ?_
    simp only [thenA, inBlockA, reduceIte, Nat.reduceEqDiff, eq_self]
    refine hK1 _ _ ?_
    refine awp_prune [0] ?_
    simp only [prune, List.map_cons, List.map_nil, Go.AM.look, Nat.reduceEqDiff, reduceIte]
    refine awp_sd mixed rfl fun K hK => ?_
    simp -dsimp
    refine hK _ _ _ (by decide +kernel) ?_; clear hK K
    exact awp_ret (by simp)
theorem c_Second (n : Int) : PureCall Try.prog 30 [.iptr (sC j (Bo true) (I n) ph on si R Sk Dm Pr)] (I n) := by
  have hr := c_ready j (I n) ph on si R Sk Dm Pr true
  refine PureCall.of_body Try.func30 rfl (by decide) (by simp [Try.ntmps30]) ?_
  simp only [Try.ntmps30, Try.results30]
  refine awp_sr rfl fun K hK => ?_
  simp -dsimp
  refine hK _ _ ?_; clear hK K
  refine awp_seq_k fun K1 hK1 => ?_
  refine awp_sr rfl fun K hK => ?_
  simp -dsimp
  refine callK_intro _ (hr) (by simp) ?_
  simp -dsimp
  refine hK _ _ ?_; clear hK K
  refine awp_cond rfl (fun hc0 => ?_) (fun hc0 => ?_)
  · skip
    skip
    simp at hc0
  · skip
    skip
    refine awp_skip ?_
    simp only [thenA, inBlockA, reduceIte, Nat.reduceEqDiff, eq_self]
    refine hK1 _ _ ?_
    refine awp_prune [0] ?_
    simp only [prune, List.map_cons, List.map_nil, Go.AM.look, Nat.reduceEqDiff, reduceIte]
    refine awp_sr rfl fun K hK => ?_
    simp -dsimp
    refine hK _ _ ?_; clear hK K
    exact awp_ret (by simp)
theorem c_Lights (ls : List Lt) (hl : ls.length ≤ 1000) : PureCall Try.prog 32 [.iptr (sC j (Bo true) se ph on si (lL ls) Sk Dm Pr)] (lL ls) := by
  have hr := c_ready j se ph on si (lL ls) Sk Dm Pr true
  refine PureCall.of_body Try.func32 rfl (by decide) (by simp [Try.ntmps32]) ?_
  simp only [Try.ntmps32, Try.results32]
  refine awp_sr rfl fun K hK => ?_
  simp -dsimp
  refine hK _ _ ?_; clear hK K
  refine awp_seq_k fun K1 hK1 => ?_
  refine awp_sr rfl fun K hK => ?_
  simp -dsimp
  refine callK_intro _ (hr) (by simp) ?_
  simp -dsimp
  refine hK _ _ ?_; clear hK K
  refine awp_cond rfl (fun hc0 => ?_) (fun hc0 => ?_)
  · skip
    skip
    simp at hc0
  · skip
    skip
    refine awp_skip ?_
    simp only [thenA, inBlockA, reduceIte, Nat.reduceEqDiff, eq_self]
    refine hK1 _ _ ?_
    refine awp_prune [0] ?_
    simp only [prune, List.map_cons, List.map_nil, Go.AM.look, Nat.reduceEqDiff, reduceIte]
    refine awp_sr rfl fun K hK => ?_
    simp -dsimp
    refine hK _ _ ?_; clear hK K
    refine awp_seq_k fun K2 hK2 => ?_
    refine awp_sr rfl fun K hK => ?_
    simp -dsimp
    refine hK _ _ ?_; clear hK K
    refine awp_block ?_
    refine awp_prune [3, 12, 13, 14] ?_
    simp only [prune, List.map_cons, List.map_nil, Go.AM.look, Nat.reduceEqDiff, reduceIte]
    refine awp_loop_l [12, 13] (α := Nat) (fun k => [(3, .row 0 0 k), (14, I k)]) (fun k => [some (.els 2 ((ls.take k).map Lt.cells))]) (fun k => k ≤ ls.length) (fun k => ls.length - k) 0 ?_ ?_ ?_
    · exact Nat.zero_le _
    · exact (sub_nil 3 2 (by simp)).trans (sub_same (by simp))
    rintro k k1
    simp only [List.cons_append, List.nil_append, prune, List.map_cons, List.map_nil, Go.AM.look, Nat.reduceEqDiff, reduceIte]
    refine awp_sr rfl fun K hK => ?_
    simp -dsimp
    refine hK _ _ ?_; clear hK K
    refine awp_seq_k fun K3 hK3 => ?_
    refine awp_cond rfl (fun hc1 => ?_) (fun hc1 => ?_)
    · skip
      try simp at hc1
      obtain ⟨r, hk⟩ : ∃ r, ls[k]? = some r := ⟨_, List.getElem?_eq_getElem hc1⟩
      have wk : IntKind.i64.wrap ((k : Int) + 1) = (k : Int) + 1 := wrap_in (by omega) (by omega)
      have f1 : Fits (k + 1) 17 := fits_of (by omega) (by omega)
      have hm : min k ls.length = k := Nat.min_eq_left (by omega)
      refine awp_skip ?_
      simp only [thenA, inBlockA, reduceIte, Nat.reduceEqDiff, eq_self]
      refine hK3 _ _ ?_
      refine awp_prune [3, 12, 13, 14] ?_
      simp only [prune, List.map_cons, List.map_nil, Go.AM.look, Nat.reduceEqDiff, reduceIte]
      refine awp_seq_k fun K4 hK4 => ?_
      refine awp_block ?_
      refine awp_sr rfl fun K hK => ?_
      simp -dsimp [hk]
      refine hK _ _ ?_; clear hK K
      refine awp_r rfl fun K hK => ?_
      simp -dsimp [hm, f1]
      refine hK _ _ ?_; clear hK K
      simp only [thenA, inBlockA, reduceIte, Nat.reduceEqDiff, eq_self]
      refine hK4 _ _ ?_
      refine awp_prune [3, 12, 13, 14] ?_
      simp only [prune, List.map_cons, List.map_nil, Go.AM.look, Nat.reduceEqDiff, reduceIte]
      refine awp_r rfl fun K hK => ?_
      simp -dsimp [wk]
      refine hK _ _ ?_; clear hK K
      simp only [thenA, inBlockA, reduceIte, Nat.reduceEqDiff, eq_self]
      exact ⟨k + 1, by omega, by omega, sub_rb [some 2] rfl (by simp) (by simp [List.take_add_one, hk, hm])⟩
    · skip
      try simp at hc1
      refine awp_exit ?_
      simp only [thenA, inBlockA, reduceIte, Nat.reduceEqDiff, eq_self]
      refine hK2 _ _ ?_
      refine awp_prune [3] ?_
      simp only [prune, List.map_cons, List.map_nil, Go.AM.look, Nat.reduceEqDiff, reduceIte]
      refine awp_sr rfl fun K hK => ?_
      simp -dsimp
      refine hK _ _ ?_; clear hK K
      have hkk : k = ls.length := by omega
      subst hkk
      exact awp_ret (by simp)
end

def tEl (n : Nat) (l : List Int) (k : Nat) : Bool := inr (at0 l k) 0 ((n : Int) - 1) && !(decide (0 < k) && decide (at0 l k ≤ at0 l (k - 1 : Nat)))
def toldB (n : Nat) (l : List Int) : Bool := (List.range l.length).all (tEl n l)
theorem toldB_bd {n : Nat} {l : List Int} (h : toldB n l = true) : ∀ x ∈ l, 0 ≤ x ∧ x < n := by
  intro x hx
  obtain ⟨k, hk⟩ := List.getElem?_of_mem hx
  simp only [toldB, List.all_eq_true, List.mem_range] at h
  have := h k (List.getElem?_eq_some_iff.1 hk).1
  simp only [tEl, at0_of hk, Bool.and_eq_true, inr_iff] at this
  omega

section
variable (j : Jn) (op se ph on si Sk Dm Pr : AV)
theorem c_told (ls : List Lt) (l : List Int) (hl : 1 ≤ ls.length ∧ ls.length ≤ 1000) (hn : l.length ≤ 1000) : PureCall Try.prog 63 [.iptr (sC j op se ph on si (lL ls) Sk Dm Pr), iL l] (Bo (toldB ls.length l)) := by
  have wn : IntKind.i64.wrap ((ls.length : Int) - 1) = (ls.length : Int) - 1 := wrap_in (by omega) (by omega)
  refine PureCall.of_body Try.func63 rfl (by decide) (by simp [Try.ntmps63]) ?_
  simp only [Try.ntmps63, Try.results63]
  refine awp_sr rfl fun K hK => ?_
  simp -dsimp
  refine hK _ _ ?_; clear hK K
  refine awp_seq_k fun K1 hK1 => ?_
  refine awp_sr rfl fun K hK => ?_
  simp -dsimp
  refine hK _ _ ?_; clear hK K
  refine awp_block ?_
  refine awp_prune [0, 1, 7, 8, 9] ?_
  simp only [prune, List.map_cons, List.map_nil, Go.AM.look, Nat.reduceEqDiff, reduceIte]
  refine awp_loop_l [0, 1, 7, 8] (α := Nat) (fun k => [(9, I k)]) (fun k => []) (fun k => k ≤ l.length ∧ ∀ k', k' < k → tEl ls.length l k' = true) (fun k => l.length - k) 0 ?_ ?_ ?_
  · exact ⟨Nat.zero_le _, fun k' h => by omega⟩
  · exact sub_same (by simp)
  rintro k ⟨k1, k2⟩
  simp only [List.cons_append, List.nil_append, prune, List.map_cons, List.map_nil, Go.AM.look, Nat.reduceEqDiff, reduceIte]
  refine awp_sr rfl fun K hK => ?_
  simp -dsimp
  refine hK _ _ ?_; clear hK K
  refine awp_seq_k fun K2 hK2 => ?_
  refine awp_cond rfl (fun hc0 => ?_) (fun hc0 => ?_)
  · skip
    try simp at hc0
    have gs := at0_nat hc0
    have wk : IntKind.i64.wrap ((k : Int) + 1) = (k : Int) + 1 := wrap_in (by omega) (by omega)
    have wm : 0 < k → IntKind.i64.wrap ((k : Int) - 1) = ((k - 1 : Nat) : Int) := fun h => by rw [wrap_in (by omega) (by omega)]; omega
    have gm : 0 < k → l[k - 1]? = some (at0 l (k - 1 : Nat)) := fun h => at0_nat (by omega)
    have hte : tEl ls.length l k = (inr (at0 l k) 0 ((ls.length : Int) - 1) && !(decide (0 < k) && decide (at0 l k ≤ at0 l (k - 1 : Nat)))) := rfl
    generalize at0 l k = s at gs hte
    refine awp_skip ?_
    simp only [thenA, inBlockA, reduceIte, Nat.reduceEqDiff, eq_self]
    refine hK2 _ _ ?_
    refine awp_prune [0, 1, 7, 8, 9] ?_
    simp only [prune, List.map_cons, List.map_nil, Go.AM.look, Nat.reduceEqDiff, reduceIte]
    refine awp_seq_k fun K3 hK3 => ?_
    refine awp_block ?_
    refine awp_sr rfl fun K hK => ?_
    simp -dsimp [gs]
    refine hK _ _ ?_; clear hK K
    refine awp_sr rfl fun K hK => ?_
    simp -dsimp [wn]
    refine callK_intro _ (c_within _ _ _) (by simp) ?_
    simp -dsimp [wn]
    refine ⟨fun _ h => by rw [wm h]; omega, idxK_intro (nCell (at0 l (k - 1 : Nat))) (fun hm => by simp at hm; rw [wm hm.2]; simp [gm hm.2]) ?_⟩
    simp -dsimp [wn]
    refine hK _ _ ?_; clear hK K
    refine awp_cond rfl (fun hc1 => ?_) (fun hc1 => ?_)
    · skip
      have hte' : tEl ls.length l k = !(!inr s 0 (↑ls.length - 1) || decide (0 < k) && decide (s ≤ at0 l (k - 1 : Nat))) := by rw [hte]; cases inr s 0 (↑ls.length - 1) <;> simp
      refine awp_sr rfl fun K hK => ?_
      simp -dsimp
      refine hK _ _ ?_; clear hK K
      have hb : toldB ls.length l = false := by
        unfold toldB
        rw [List.all_eq_false]
        exact ⟨k, List.mem_range.2 hc0, by rw [hte', hc1]; simp⟩
      exact awp_ret (by simp [hb])
    · skip
      have hte' : tEl ls.length l k = !(!inr s 0 (↑ls.length - 1) || decide (0 < k) && decide (s ≤ at0 l (k - 1 : Nat))) := by rw [hte]; cases inr s 0 (↑ls.length - 1) <;> simp
      refine awp_skip ?_
      simp only [thenA, inBlockA, reduceIte, Nat.reduceEqDiff, eq_self]
      refine hK3 _ _ ?_
      refine awp_prune [0, 1, 7, 8, 9] ?_
      simp only [prune, List.map_cons, List.map_nil, Go.AM.look, Nat.reduceEqDiff, reduceIte]
      refine awp_r rfl fun K hK => ?_
      simp -dsimp [wk]
      refine hK _ _ ?_; clear hK K
      simp only [thenA, inBlockA, reduceIte, Nat.reduceEqDiff, eq_self]
      refine ⟨k + 1, ⟨by omega, fun k' h => ?_⟩, by omega, sub_rb [] rfl (by simp) (by simp)⟩
      rcases Nat.lt_succ_iff_lt_or_eq.1 h with h | rfl
      · exact k2 k' h
      · rw [hte', hc1]; rfl
  · skip
    try simp at hc0
    refine awp_exit ?_
    simp only [thenA, inBlockA, reduceIte, Nat.reduceEqDiff, eq_self]
    refine hK1 _ _ ?_
    refine awp_prune [] ?_
    simp only [prune, List.map_cons, List.map_nil, Go.AM.look, Nat.reduceEqDiff, reduceIte]
    refine awp_sr rfl fun K hK => ?_
    simp -dsimp
    refine hK _ _ ?_; clear hK K
    have hb : toldB ls.length l = true := by
      simp only [toldB, List.all_eq_true, List.mem_range]
      exact fun k' h => k2 k' (by omega)
    exact awp_ret (by simp [hb])

def notPr (j : Jn) (d : List Int) (x : Int) : Bool := decide ((strm j x).Kind ≠ 1) || !decide (x ∈ d)
theorem c_Tick1 (R : AV) (d : List Int) (x : Int) (hd : d.length ≤ 1000) (x0 : 0 ≤ x) (x1 : x < j.n) : PureCall Try.prog 65 (I x :: ipts [[.iptr (sC j op se ph on si R Sk Dm Pr)], [iL d]]) (Bo (notPr j d x)) := by
  show PureCall Try.prog 65 [I x, .iptr [.iptr (sC j op se ph on si R Sk Dm Pr)], .iptr [iL d]] (Bo (notPr j d x))
  have gs := strm_get x0 x1
  refine PureCall.of_body Try.func65 rfl (by decide) (by simp [Try.ntmps65]) ?_
  simp only [Try.ntmps65, Try.results65]
  refine awp_sr rfl fun K hK => ?_
  simp -dsimp
  refine hK _ _ ?_; clear hK K
  refine awp_sr rfl fun K hK => ?_
  simp -dsimp [gs, x0]
  refine callK_may _ (fun hm => c_Contains d x (by omega)) (by simp) ?_
  simp -dsimp [gs, x0]
  refine hK _ _ ?_; clear hK K
  exact awp_ret (by simp [notPr, bne, beq_d])
end
end Go.Street
