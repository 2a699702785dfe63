/- Walks: the phases and gates of a junction, and its check. -/
import Derived.Test.YtmenlmioccciiaaZ1
namespace Go.Street
open Go.AM Go.Proofs
set_option maxRecDepth 10000
set_option maxHeartbeats 4000000
set_option linter.unusedVariables false
set_option linter.unusedSimpArgs false

def strm (j : Jn) (s : Int) : Strm := (j.Streams[s.toNat]?).getD ⟨0, 0⟩
theorem strm_get {j : Jn} {s : Int} (h0 : 0 ≤ s) (h1 : s < j.n) : j.Streams[s.toNat]? = some (strm j s) := by
  unfold strm
  rw [List.getElem?_eq_getElem (by simp only [Jn.n] at h1; omega)]; rfl
def maxL (j : Jn) (p : List Int) : Int := p.foldl (fun m s => maxI m (strm j s).Least) 0
def elB (j : Jn) (p : List Int) (k : Nat) : Bool := inr (at0 p k) 0 ((j.n : Int) - 1) && !(decide (0 < k) && decide (at0 p k ≤ at0 p (k - 1 : Nat))) && !(p.take k).any fun x => conf j x (at0 p k)
def phB (j : Jn) (p : List Int) (lim : Int) : Bool := (List.range p.length).all (elB j p) && decide (p.length ≠ 0) && inr lim (maxI 1 (maxL j p)) 600
def phasesB (j : Jn) : Bool := inr j.Phases.length 1 12 && decide (j.Longest.length = j.Phases.length) && inr j.Skips 0 20 && ((List.range j.Phases.length).all fun i => phB j (rowAt j.Phases i) (at0 j.Longest i)) && (List.range j.n).all fun (a : Nat) => decide ((a : Int) ∈ j.Phases.flatten)

theorem maxL_snoc {j : Jn} {p : List Int} {k : Nat} {s : Int} (h : p[k]? = some s) : maxL j (p.take (k + 1)) = maxI (maxL j (p.take k)) (strm j s).Least := by
  rw [List.take_add_one, h]; simp [maxL]
theorem flat_snoc {m : List (List Int)} {i : Nat} {r : List Int} (h : m[i]? = some r) : (m.take (i + 1)).flatten = (m.take i).flatten ++ r := by
  rw [List.take_add_one, h]; simp

theorem c_phases1 (j : Jn) (x s : Int) (h : Sqr j) (h0 : 0 ≤ x) (h1 : x < j.n) (k0 : 0 ≤ s) (k1 : s < j.n) : PureCall Try.prog 97 (I x :: ipts [j.cells, [I s]]) (Bo (conf j x s)) := by
  show PureCall Try.prog 97 [I x, .iptr j.cells, .iptr [I s]] (Bo (conf j x s))
  refine PureCall.of_body Try.func97 rfl (by decide) (by simp [Try.ntmps97]) ?_
  simp only [Try.ntmps97, Try.results97]
  refine awp_sr rfl fun K hK => ?_
  simp -dsimp
  refine hK _ _ ?_; clear hK K
  refine awp_sr rfl fun K hK => ?_
  simp -dsimp
  refine callK_intro _ (c_conflict j x s h h0 h1 k0 k1) (by simp) ?_
  simp -dsimp
  refine hK _ _ ?_; clear hK K
  exact awp_ret (by simp)

theorem c_phases (j : Jn) (hf : Fit j) (hs : Sqr j) (hst : streamsB j = true) : PureCall Try.prog 76 [j.av] (Bo (phasesB j)) := by
  have f1 := hf.s; have f2 := hf.p; have f3 := hf.l
  have hn : 1 ≤ j.n ∧ j.n ≤ 20 := by simp only [streamsB, Bool.and_eq_true, inr_iff] at hst; omega
  have hnl : j.n = j.Streams.length := rfl
  have wn : IntKind.i64.wrap ((j.Streams.length : Int) - 1) = (j.n : Int) - 1 := by rw [← hnl]; exact wrap_in (by omega) (by omega)
  have hbad : ∀ {i k : Nat}, i < j.Phases.length → k < (rowAt j.Phases i).length → elB j (rowAt j.Phases i) k = false → phasesB j = false := by
    intro i k hi hk he
    cases hh : phasesB j with
    | false => rfl
    | true =>
      simp only [phasesB, phB, Bool.and_eq_true, List.all_eq_true, List.mem_range] at hh
      rw [(hh.1.2 i hi).1.1 k hk] at he; cases he
  refine PureCall.of_body Try.func76 rfl (by decide) (by simp [Try.ntmps76]) ?_
  simp only [Try.ntmps76, Try.results76]
  refine awp_sr rfl fun K hK => ?_
  simp -dsimp
  refine hK _ _ ?_; clear hK K
  refine awp_seq_k fun K1 hK1 => ?_
  refine awp_sr rfl fun K hK => ?_
  simp -dsimp
  refine callK_intro _ (c_within _ _ _) (by simp) ?_
  simp -dsimp
  refine callK_may _ (fun hm => c_within j.Skips 0 20) (by simp) ?_
  simp -dsimp
  refine hK _ _ ?_; clear hK K
  refine awp_cond rfl (fun hc0 => ?_) (fun hc0 => ?_)
  · skip
    try simp at hc0
    refine awp_sr rfl fun K hK => ?_
    simp -dsimp
    refine hK _ _ ?_; clear hK K
    have hfin : phasesB j = false := by
      cases hh : phasesB j with
      | false => rfl
      | true =>
        simp only [phasesB, Bool.and_eq_true, decide_eq_true_eq] at hh
        simp [hh.1.1.1.1, hh.1.1.2, hh.1.1.1.2] at hc0
    exact awp_ret (by simp [hfin])
  · skip
    try simp at hc0
    have hP := inr_iff.1 hc0.1.1
    have hL : j.Longest.length = j.Phases.length := by have := hc0.1.2; omega
    refine awp_skip ?_
    simp only [thenA, inBlockA, reduceIte, Nat.reduceEqDiff, eq_self]
    refine hK1 _ _ ?_
    refine awp_prune [1] ?_
    simp only [prune, List.map_cons, List.map_nil, Go.AM.look, Nat.reduceEqDiff, reduceIte]
    refine awp_sr rfl fun K hK => ?_
    simp -dsimp
    refine hK _ _ ?_; clear hK K
    refine awp_seq_k fun K2 hK2 => ?_
    refine awp_sr rfl fun K hK => ?_
    simp -dsimp
    refine hK _ _ ?_; clear hK K
    refine awp_block ?_
    refine awp_prune [1, 3, 36, 37, 38] ?_
    simp only [prune, List.map_cons, List.map_nil, Go.AM.look, Nat.reduceEqDiff, reduceIte]
    refine awp_loop_l [1, 3, 36, 37] (α := Nat) (fun i => [(38, I i)]) (fun i => [some (.els 6 [j.cells]), some (.map false [.i .i64] (metK (j.Phases.take i).flatten))]) (fun i => i ≤ j.Phases.length ∧ ∀ i', i' < i → phB j (rowAt j.Phases i') (at0 j.Longest i') = true) (fun i => j.Phases.length - i) 0 ?_ ?_ ?_
    · exact ⟨Nat.zero_le _, fun i' h => by omega⟩
    · exact sub_same (by simp)
    rintro i ⟨i1, i2⟩
    simp only [List.cons_append, List.nil_append, prune, List.map_cons, List.map_nil, Go.AM.look, Nat.reduceEqDiff, reduceIte]
    refine awp_sr rfl fun K hK => ?_
    simp -dsimp
    refine hK _ _ ?_; clear hK K
    refine awp_seq_k fun K3 hK3 => ?_
    refine awp_cond rfl (fun hc1 => ?_) (fun hc1 => ?_)
    · skip
      try simp at hc1
      have gp := rowAt_nat hc1
      have hpl := hf.ps _ (List.mem_of_getElem? gp)
      have wi : IntKind.i64.wrap ((i : Int) + 1) = (i : Int) + 1 := wrap_in (by omega) (by omega)
      generalize hp : rowAt j.Phases i = p at gp hpl
      refine awp_skip ?_
      simp only [thenA, inBlockA, reduceIte, Nat.reduceEqDiff, eq_self]
      refine hK3 _ _ ?_
      refine awp_prune [1, 3, 36, 37, 38] ?_
      simp only [prune, List.map_cons, List.map_nil, Go.AM.look, Nat.reduceEqDiff, reduceIte]
      refine awp_seq_k fun K4 hK4 => ?_
      refine awp_block ?_
      refine awp_sr rfl fun K hK => ?_
      simp -dsimp [gp]
      refine hK _ _ ?_; clear hK K
      refine awp_sr rfl fun K hK => ?_
      simp -dsimp
      refine hK _ _ ?_; clear hK K
      refine awp_seq_k fun K5 hK5 => ?_
      refine awp_sr rfl fun K hK => ?_
      simp -dsimp
      refine hK _ _ ?_; clear hK K
      refine awp_block ?_
      refine awp_prune [1, 3, 4, 5, 6, 36, 37, 38, 43, 44, 45] ?_
      simp only [prune, List.map_cons, List.map_nil, Go.AM.look, Nat.reduceEqDiff, reduceIte]
      refine awp_loop_l [1, 3, 4, 5, 36, 37, 38, 43, 44] (α := Nat) (fun k => [(6, I (maxL j (p.take k))), (45, I k)]) (fun k => [some (.els 6 [j.cells]), some (.map false [.i .i64] (metK ((j.Phases.take i).flatten ++ p.take k)))]) (fun k => k ≤ p.length ∧ ∀ k', k' < k → elB j p k' = true) (fun k => p.length - k) 0 ?_ ?_ ?_
      · exact ⟨Nat.zero_le _, fun k' h => by omega⟩
      · exact sub_rb [some 0, some 1] rfl (by simp [maxL]) (by simp)
      rintro k ⟨k1, k2⟩
      simp only [List.cons_append, List.nil_append, prune, List.map_cons, List.map_nil, Go.AM.look, Nat.reduceEqDiff, reduceIte]
      refine awp_sr rfl fun K hK => ?_
      simp -dsimp
      refine hK _ _ ?_; clear hK K
      refine awp_seq_k fun K6 hK6 => ?_
      refine awp_cond rfl (fun hc2 => ?_) (fun hc2 => ?_)
      · skip
        try simp at hc2
        have gs := at0_nat hc2
        have wk : IntKind.i64.wrap ((k : Int) + 1) = (k : Int) + 1 := wrap_in (by omega) (by omega)
        have wm : 0 < k → IntKind.i64.wrap ((k : Int) - 1) = ((k - 1 : Nat) : Int) := fun h => by rw [wrap_in (by omega) (by omega)]; omega
        have gm : 0 < k → p[k - 1]? = some (at0 p (k - 1 : Nat)) := fun h => at0_nat (by omega)
        have hkl : k ≤ p.length := by omega
        have hin : ∀ x ∈ p.take k, 0 ≤ x ∧ x < j.n := by
          intro x hx
          obtain ⟨k', hk'⟩ := List.getElem?_of_mem hx
          have hlt := (List.getElem?_eq_some_iff.1 hk').1
          rw [List.length_take] at hlt
          have he := k2 k' (by omega)
          rw [List.getElem?_take, if_pos (by omega)] at hk'
          simp only [elB, at0_of hk', Bool.and_eq_true, inr_iff] at he
          omega
        generalize hsv : at0 p k = s at gs
        refine awp_skip ?_
        simp only [thenA, inBlockA, reduceIte, Nat.reduceEqDiff, eq_self]
        refine hK6 _ _ ?_
        refine awp_prune [1, 3, 4, 5, 6, 36, 37, 38, 43, 44, 45] ?_
        simp only [prune, List.map_cons, List.map_nil, Go.AM.look, Nat.reduceEqDiff, reduceIte]
        refine awp_seq_k fun K7 hK7 => ?_
        refine awp_block ?_
        refine awp_sr rfl fun K hK => ?_
        simp -dsimp [gs]
        refine hK _ _ ?_; clear hK K
        refine awp_seq_k fun K8 hK8 => ?_
        refine awp_sd mixed rfl fun K hK => ?_
        simp -dsimp [wn, hkl]
        refine callK_intro _ (c_within _ _ _) (by simp) ?_
        simp -dsimp [wn, hkl]
        refine ⟨fun _ h => by rw [wm h]; omega, idxK_intro (nCell (at0 p (k - 1 : Nat))) (fun hm => by simp at hm; rw [wm hm.2]; simp [gm hm.2]) ?_⟩
        simp -dsimp [wn, hkl]
        refine callK_may _ (fun hm => c_ContT p k 97 [j.cells, [I s]] (fun x => conf j x s) (fun x hx => by simp at hm; have hsn := inr_iff.1 hm.1; exact c_phases1 j x s hs (hin x hx).1 (hin x hx).2 hsn.1 (by omega)) (by omega)) (by simp) ?_
        simp -dsimp [wn, hkl]
        refine hK _ _ _ (by decide +kernel) ?_; clear hK K
        refine awp_cond rfl (fun hc3 => ?_) (fun hc3 => ?_)
        · skip
          have helB : elB j p k = !(!inr s 0 (↑j.n - 1) || decide (0 < k) && decide (s ≤ at0 p (k - 1 : Nat)) || (p.take k).any fun x => conf j x s) := by
            simp only [elB, hsv]
            cases inr s 0 (↑j.n - 1) <;> cases decide (0 < k) <;> cases decide (s ≤ at0 p (k - 1 : Nat)) <;> cases ((p.take k).any fun x => conf j x s) <;> rfl
          refine awp_sr rfl fun K hK => ?_
          simp -dsimp
          refine hK _ _ ?_; clear hK K
          exact awp_ret (by simp [hbad hc1 (by rw [hp]; exact hc2) (by rw [hp, helB, hc3]; rfl)])
        · skip
          have helB : elB j p k = !(!inr s 0 (↑j.n - 1) || decide (0 < k) && decide (s ≤ at0 p (k - 1 : Nat)) || (p.take k).any fun x => conf j x s) := by
            simp only [elB, hsv]
            cases inr s 0 (↑j.n - 1) <;> cases decide (0 < k) <;> cases decide (s ≤ at0 p (k - 1 : Nat)) <;> cases ((p.take k).any fun x => conf j x s) <;> rfl
          have hel : elB j p k = true := by rw [helB, hc3]; rfl
          have hsr : 0 ≤ s ∧ s < j.n := by have := hel; simp only [elB, hsv, Bool.and_eq_true, inr_iff] at this; omega
          have gst := strm_get hsr.1 hsr.2
          refine awp_skip ?_
          simp only [thenA, inBlockA, reduceIte, Nat.reduceEqDiff, eq_self]
          refine hK8 _ _ ?_
          refine awp_prune [1, 3, 4, 5, 6, 8, 36, 37, 38, 43, 44, 45] ?_
          simp only [prune, List.map_cons, List.map_nil, Go.AM.look, Nat.reduceEqDiff, reduceIte]
          refine awp_sr rfl fun K hK => ?_
          simp -dsimp [metK_snoc]
          refine hK _ _ ?_; clear hK K
          refine awp_r rfl fun K hK => ?_
          simp -dsimp [gst, hsr.1]
          refine hK _ _ ?_; clear hK K
          simp only [thenA, inBlockA, reduceIte, Nat.reduceEqDiff, eq_self]
          refine hK7 _ _ ?_
          refine awp_prune [1, 3, 4, 5, 6, 36, 37, 38, 43, 44, 45] ?_
          simp only [prune, List.map_cons, List.map_nil, Go.AM.look, Nat.reduceEqDiff, reduceIte]
          refine awp_r rfl fun K hK => ?_
          simp -dsimp [wk]
          refine hK _ _ ?_; clear hK K
          simp only [thenA, inBlockA, reduceIte, Nat.reduceEqDiff, eq_self]
          have hps : p[k]? = some s := gs
          exact ⟨k + 1, ⟨by omega, fun k' h => by rcases Nat.lt_succ_iff_lt_or_eq.1 h with h | rfl; exact k2 k' h; exact hel⟩, by omega, sub_rb [some 0, some 1] rfl (by simp [maxL_snoc hps]) (by simp [List.take_add_one, hps])⟩
      · skip
        try simp at hc2
        have gL := at0_nat (l := j.Longest) (k := i) (by omega)
        refine awp_exit ?_
        simp only [thenA, inBlockA, reduceIte, Nat.reduceEqDiff, eq_self]
        refine hK5 _ _ ?_
        refine awp_prune [1, 3, 4, 5, 6, 36, 37, 38] ?_
        simp only [prune, List.map_cons, List.map_nil, Go.AM.look, Nat.reduceEqDiff, reduceIte]
        refine awp_sr rfl fun K hK => ?_
        simp -dsimp
        refine idxK_intro (nCell (at0 j.Longest i)) (fun _ => by simp [gL]) ?_
        simp -dsimp
        refine callK_may _ (fun hm => c_within _ _ _) (by simp) ?_
        simp -dsimp
        refine hK _ _ ?_; clear hK K
        refine awp_cond rfl (fun hc4 => ?_) (fun hc4 => ?_)
        · skip
          have htk : p.take k = p := List.take_of_length_le (by omega)
          have hph : phB j p (at0 j.Longest i) = !(p.length == 0 || !inr (at0 j.Longest i) (maxI 1 (maxL j p)) 600) := by
            have hall : (List.range p.length).all (elB j p) = true := by
              simp only [List.all_eq_true, List.mem_range]
              exact fun k' h => k2 k' (by omega)
            simp only [phB, hall, Bool.true_and]
            cases inr (at0 j.Longest i) (maxI 1 (maxL j p)) 600 <;> by_cases h : p.length = 0 <;> simp [h]
          rw [htk] at hc4
          refine awp_sr rfl fun K hK => ?_
          simp -dsimp
          refine hK _ _ ?_; clear hK K
          have hfin : phasesB j = false := by
            cases hh : phasesB j with
            | false => rfl
            | true =>
              simp only [phasesB, Bool.and_eq_true, List.all_eq_true, List.mem_range] at hh
              have := hh.1.2 i hc1
              rw [hp, hph] at this
              simp only [maxI] at this
              have hc4b : (((p.length : Int) == 0) || !inr (at0 j.Longest ↑i) (if 1 < maxL j p then maxL j p else 1) 600) = true := hc4
              rw [len_beq0] at hc4b
              rw [hc4b] at this; cases this
          exact awp_ret (by simp [hfin])
        · skip
          have htk : p.take k = p := List.take_of_length_le (by omega)
          have hph : phB j p (at0 j.Longest i) = !(p.length == 0 || !inr (at0 j.Longest i) (maxI 1 (maxL j p)) 600) := by
            have hall : (List.range p.length).all (elB j p) = true := by
              simp only [List.all_eq_true, List.mem_range]
              exact fun k' h => k2 k' (by omega)
            simp only [phB, hall, Bool.true_and]
            cases inr (at0 j.Longest i) (maxI 1 (maxL j p)) 600 <;> by_cases h : p.length = 0 <;> simp [h]
          rw [htk] at hc4
          have hpt : phB j p (at0 j.Longest i) = true := by
            rw [hph]
            simp only [maxI]
            have hc4b : (((p.length : Int) == 0) || !inr (at0 j.Longest ↑i) (if 1 < maxL j p then maxL j p else 1) 600) = false := hc4
            rw [len_beq0] at hc4b
            rw [hc4b]; rfl
          refine awp_skip ?_
          simp only [thenA, inBlockA, reduceIte, Nat.reduceEqDiff, eq_self]
          refine hK4 _ _ ?_
          refine awp_prune [1, 3, 36, 37, 38] ?_
          simp only [prune, List.map_cons, List.map_nil, Go.AM.look, Nat.reduceEqDiff, reduceIte]
          refine awp_r rfl fun K hK => ?_
          simp -dsimp [wi]
          refine hK _ _ ?_; clear hK K
          simp only [thenA, inBlockA, reduceIte, Nat.reduceEqDiff, eq_self]
          refine ⟨i + 1, ⟨by omega, fun i' h => ?_⟩, by omega, sub_rb [some 0, some 1] rfl (by simp) (by simp [flat_snoc gp, htk])⟩
          rcases Nat.lt_succ_iff_lt_or_eq.1 h with h | rfl
          · exact i2 i' h
          · rw [hp]; exact hpt
    · skip
      try simp at hc1
      have htP : j.Phases.take i = j.Phases := List.take_of_length_le (by omega)
      refine awp_exit ?_
      simp only [thenA, inBlockA, reduceIte, Nat.reduceEqDiff, eq_self]
      refine hK2 _ _ ?_
      refine awp_prune [1, 3] ?_
      simp only [prune, List.map_cons, List.map_nil, Go.AM.look, Nat.reduceEqDiff, reduceIte]
      refine awp_sr rfl fun K hK => ?_
      simp -dsimp [metK_len, htP]
      refine hK _ _ ?_; clear hK K
      have hphall : (List.range j.Phases.length).all (fun i => phB j (rowAt j.Phases i) (at0 j.Longest i)) = true := by
        simp only [List.all_eq_true, List.mem_range]
        exact fun i' h => i2 i' (by omega)
      have hb : ∀ x ∈ dd j.Phases.flatten, 0 ≤ x ∧ x < j.n := by
        intro x hx
        rw [dd_mem] at hx
        obtain ⟨p, hp, hxp⟩ := List.mem_flatten.1 hx
        obtain ⟨i', hi'⟩ := List.getElem?_of_mem hp
        obtain ⟨k', hk'⟩ := List.getElem?_of_mem hxp
        have := i2 i' (by have := (List.getElem?_eq_some_iff.1 hi').1; omega)
        simp only [phB, rowAt_of hi', Bool.and_eq_true, List.all_eq_true, List.mem_range] at this
        have := this.1.1 k' (List.getElem?_eq_some_iff.1 hk').1
        simp only [elB, at0_of hk', Bool.and_eq_true, inr_iff] at this
        omega
      have hfull := full_iff (dd_nodup j.Phases.flatten) hb
      have hfin : phasesB j = ((((dd j.Phases.flatten).length : Nat) : Int) == (j.Streams.length : Int)) := by
        have e1 : phasesB j = ((List.range j.n).all fun (a : Nat) => decide ((a : Int) ∈ j.Phases.flatten)) := by
          simp only [phasesB, hphall, Bool.and_true, inr_iff.2 hP, decide_eq_true hL, hc0.2, Bool.true_and]
        rw [e1, Bool.eq_iff_iff, beq_d, decide_eq_true_iff]
        simp only [List.all_eq_true, List.mem_range, decide_eq_true_eq]
        rw [show ((((dd j.Phases.flatten).length : Nat) : Int) = (j.Streams.length : Int)) ↔ (dd j.Phases.flatten).length = j.n by rw [hnl]; omega, hfull]
        simp only [dd_mem]
      exact awp_ret (by simp [hfin])
end Go.Street
