/- Walks: what a tour goes over. -/
import Derived.Test.YtmenlmioccciiaaZB
namespace Go.Street
open Go.AM Go.Proofs
set_option maxRecDepth 10000
set_option maxHeartbeats 8000000
set_option linter.unusedVariables false
set_option linter.unusedSimpArgs false

def badP (j : Jn) (a b : Int) : Bool := decide (a = b) || !conf j a b
def tourEl (j : Jn) (l : List Int) (i : Nat) : Bool := inr (at0 l i) 0 ((j.n : Int) - 1) && !(l.take i).any (badP j (at0 l i))
def touredB (j : Jn) (l : List Int) : Bool := (List.range l.length).all (tourEl j l) && inr l.length 2 9

theorem touredB_ff {j : Jn} {l : List Int} {i : Nat} (hi : i < l.length) (h : tourEl j l i = false) : touredB j l = false := by
  unfold touredB
  have : (List.range l.length).all (tourEl j l) = false := by
    rw [List.all_eq_false]
    exact ⟨i, List.mem_range.2 hi, by simp [h]⟩
  simp [this]

theorem c_toured (j : Jn) (l : List Int) (hf : Fit j) (hs : Sqr j) (hn : l.length ≤ 1000) : PureCall Try.prog 45 [j.av, iL l] (Bo (touredB j l)) := by
  have f1 := hf.s
  have hnl : j.n = j.Streams.length := rfl
  have wn : IntKind.i64.wrap ((j.Streams.length : Int) - 1) = (j.n : Int) - 1 := by rw [← hnl]; exact wrap_in (by omega) (by omega)
  refine PureCall.of_body Try.func45 rfl (by decide) (by simp [Try.ntmps45]) ?_
  simp only [Try.ntmps45, Try.results45]
  refine awp_sr rfl fun K hK => ?_
  simp -dsimp
  refine hK _ _ ?_; clear hK K
  refine awp_seq_k fun K1 hK1 => ?_
  refine awp_sr rfl fun K hK => ?_
  simp -dsimp
  refine hK _ _ ?_; clear hK K
  refine awp_block ?_
  refine awp_prune [1, 2, 9, 10, 11] ?_
  simp only [prune, List.map_cons, List.map_nil, Go.AM.look, Nat.reduceEqDiff, reduceIte]
  refine awp_loop_l [1, 2, 9, 10] (α := Nat) (fun i => [(11, I i)]) (fun i => [some (.els 6 [j.cells])]) (fun i => i ≤ l.length ∧ ∀ i', i' < i → tourEl j l i' = true) (fun i => l.length - i) 0 ?_ ?_ ?_
  · exact ⟨Nat.zero_le _, fun i' h => by omega⟩
  · exact sub_same (by simp)
  rintro i ⟨i1, i2⟩
  simp only [List.cons_append, List.nil_append, prune, List.map_cons, List.map_nil, Go.AM.look, Nat.reduceEqDiff, reduceIte]
  refine awp_sr rfl fun K hK => ?_
  simp -dsimp
  refine hK _ _ ?_; clear hK K
  refine awp_seq_k fun K2 hK2 => ?_
  refine awp_cond rfl (fun hc0 => ?_) (fun hc0 => ?_)
  · skip
    try simp at hc0
    have ga := at0_nat hc0
    have wi : IntKind.i64.wrap ((i : Int) + 1) = (i : Int) + 1 := wrap_in (by omega) (by omega)
    have hte : tourEl j l i = (inr (at0 l i) 0 ((j.n : Int) - 1) && !(l.take i).any (badP j (at0 l i))) := rfl
    generalize at0 l i = a at ga hte
    have hin : ∀ b ∈ l.take i, 0 ≤ b ∧ b < j.n := by
      intro b hb
      obtain ⟨k, hk⟩ := List.getElem?_of_mem hb
      have hlt := (List.getElem?_eq_some_iff.1 hk).1
      rw [List.length_take] at hlt
      have he := i2 k (by omega)
      rw [List.getElem?_take, if_pos (by omega)] at hk
      simp only [tourEl, at0_of hk, Bool.and_eq_true, inr_iff] at he
      omega
    refine awp_skip ?_
    simp only [thenA, inBlockA, reduceIte, Nat.reduceEqDiff, eq_self]
    refine hK2 _ _ ?_
    refine awp_prune [1, 2, 9, 10, 11] ?_
    simp only [prune, List.map_cons, List.map_nil, Go.AM.look, Nat.reduceEqDiff, reduceIte]
    refine awp_seq_k fun K3 hK3 => ?_
    refine awp_block ?_
    refine awp_sr rfl fun K hK => ?_
    simp -dsimp [ga]
    refine hK _ _ ?_; clear hK K
    refine awp_seq_k fun K4 hK4 => ?_
    refine awp_sr rfl fun K hK => ?_
    simp -dsimp [wn]
    refine callK_intro _ (c_within _ _ _) (by simp) ?_
    simp -dsimp [wn]
    refine hK _ _ ?_; clear hK K
    refine awp_cond rfl (fun hc1 => ?_) (fun hc1 => ?_)
    · skip
      skip
      have hr : inr a 0 ((j.n : Int) - 1) = false := by simpa using hc1
      refine awp_sr rfl fun K hK => ?_
      simp -dsimp
      refine hK _ _ ?_; clear hK K
      exact awp_ret (by simp [touredB_ff hc0 (by rw [hte, hr]; rfl)])
    · skip
      skip
      have hr : inr a 0 ((j.n : Int) - 1) = true := by simpa using hc1
      have hra := inr_iff.1 hr
      have hil : i ≤ l.length := by omega
      refine awp_skip ?_
      simp only [thenA, inBlockA, reduceIte, Nat.reduceEqDiff, eq_self]
      refine hK4 _ _ ?_
      refine awp_prune [1, 2, 5, 6, 9, 10, 11] ?_
      simp only [prune, List.map_cons, List.map_nil, Go.AM.look, Nat.reduceEqDiff, reduceIte]
      refine awp_sr rfl fun K hK => ?_
      simp -dsimp [hil]
      refine hK _ _ ?_; clear hK K
      refine awp_block ?_
      refine awp_prune [1, 2, 6, 9, 10, 11, 26, 27, 28] ?_
      simp only [prune, List.map_cons, List.map_nil, Go.AM.look, Nat.reduceEqDiff, reduceIte]
      refine awp_loop_l [1, 2, 6, 9, 10, 11, 26, 27] (α := Nat) (fun k => [(28, I k)]) (fun k => [some (.els 6 [j.cells])]) (fun k => k ≤ i ∧ ((l.take i).take k).any (badP j a) = false) (fun k => i - k) 0 ?_ ?_ ?_
      · exact ⟨Nat.zero_le _, rfl⟩
      · exact sub_same (by simp)
      rintro k ⟨k1, k2⟩
      simp only [List.cons_append, List.nil_append, prune, List.map_cons, List.map_nil, Go.AM.look, Nat.reduceEqDiff, reduceIte]
      refine awp_sr rfl fun K hK => ?_
      simp -dsimp
      refine hK _ _ ?_; clear hK K
      refine awp_seq_k fun K5 hK5 => ?_
      refine awp_cond rfl (fun hc2 => ?_) (fun hc2 => ?_)
      · skip
        skip
        have hki : k < i := by simpa [hil] using hc2
        obtain ⟨b, hb⟩ : ∃ b, (l.take i)[k]? = some b := ⟨_, List.getElem?_eq_getElem (by rw [List.length_take]; omega)⟩
        have hbb := hin b (List.mem_of_getElem? hb)
        have hb' : l[k]? = some b := by rw [List.getElem?_take, if_pos hki] at hb; exact hb
        have wk : IntKind.i64.wrap ((k : Int) + 1) = (k : Int) + 1 := wrap_in (by omega) (by omega)
        have hcf := c_conflict j a b hs hra.1 (by omega) hbb.1 hbb.2
        refine awp_skip ?_
        simp only [thenA, inBlockA, reduceIte, Nat.reduceEqDiff, eq_self]
        refine hK5 _ _ ?_
        refine awp_prune [1, 2, 6, 9, 10, 11, 26, 27, 28] ?_
        simp only [prune, List.map_cons, List.map_nil, Go.AM.look, Nat.reduceEqDiff, reduceIte]
        refine awp_seq_k fun K6 hK6 => ?_
        refine awp_block ?_
        refine awp_sr rfl fun K hK => ?_
        simp -dsimp [hb', hki]
        refine hK _ _ ?_; clear hK K
        refine awp_sr rfl fun K hK => ?_
        simp -dsimp
        refine callK_may _ (fun hm => hcf) (by simp) ?_
        simp -dsimp
        refine hK _ _ ?_; clear hK K
        refine awp_cond rfl (fun hc3 => ?_) (fun hc3 => ?_)
        · skip
          have hbp : badP j a b = (a == b || !conf j a b) := by unfold badP; rw [beq_d]
          have hany : (l.take i).any (badP j a) = true := by
            rw [List.any_eq_true]
            exact ⟨b, List.mem_of_getElem? hb, by rw [hbp]; simpa using hc3⟩
          refine awp_sr rfl fun K hK => ?_
          simp -dsimp
          refine hK _ _ ?_; clear hK K
          exact awp_ret (by simp [touredB_ff hc0 (by rw [hte, hany]; simp)])
        · skip
          have hbp : badP j a b = (a == b || !conf j a b) := by unfold badP; rw [beq_d]
          refine awp_skip ?_
          simp only [thenA, inBlockA, reduceIte, Nat.reduceEqDiff, eq_self]
          refine hK6 _ _ ?_
          refine awp_prune [1, 2, 6, 9, 10, 11, 26, 27, 28] ?_
          simp only [prune, List.map_cons, List.map_nil, Go.AM.look, Nat.reduceEqDiff, reduceIte]
          refine awp_r rfl fun K hK => ?_
          simp -dsimp [wk]
          refine hK _ _ ?_; clear hK K
          simp only [thenA, inBlockA, reduceIte, Nat.reduceEqDiff, eq_self]
          have hbf : badP j a b = false := by rw [hbp]; simpa using hc3
          exact ⟨k + 1, ⟨by omega, by rw [any_take hb, k2, hbf]; rfl⟩, by omega, sub_rb [some 0] rfl (by simp) (by simp)⟩
      · skip
        skip
        have hki : ¬ k < i := by simpa [hil] using hc2
        have hany := any_of_take (l := l.take i) (k := k) (by rw [List.length_take]; omega) k2
        refine awp_exit ?_
        simp only [thenA, inBlockA, reduceIte, Nat.reduceEqDiff, eq_self]
        refine hK3 _ _ ?_
        refine awp_prune [1, 2, 9, 10, 11] ?_
        simp only [prune, List.map_cons, List.map_nil, Go.AM.look, Nat.reduceEqDiff, reduceIte]
        refine awp_r rfl fun K hK => ?_
        simp -dsimp [wi]
        refine hK _ _ ?_; clear hK K
        simp only [thenA, inBlockA, reduceIte, Nat.reduceEqDiff, eq_self]
        refine ⟨i + 1, ⟨by omega, fun i' h => ?_⟩, by omega, sub_rb [some 0] rfl (by simp) (by simp)⟩
        rcases Nat.lt_succ_iff_lt_or_eq.1 h with h | rfl
        · exact i2 i' h
        · rw [hte, hr, hany]; rfl
  · skip
    try simp at hc0
    have hall : (List.range l.length).all (tourEl j l) = true := by
      simp only [List.all_eq_true, List.mem_range]
      exact fun i' h => i2 i' (by omega)
    refine awp_exit ?_
    simp only [thenA, inBlockA, reduceIte, Nat.reduceEqDiff, eq_self]
    refine hK1 _ _ ?_
    refine awp_prune [1] ?_
    simp only [prune, List.map_cons, List.map_nil, Go.AM.look, Nat.reduceEqDiff, reduceIte]
    refine awp_sr rfl fun K hK => ?_
    simp -dsimp
    refine callK_intro _ (c_within _ _ _) (by simp) ?_
    simp -dsimp
    refine hK _ _ ?_; clear hK K
    exact awp_ret (by simp [touredB, hall])

theorem c_isNaN (a : Int) : PureCall Try.prog 98 [I a] (Bo false) := by
  refine PureCall.of_body Try.func98 rfl (by decide) (by simp [Try.ntmps98]) ?_
  simp only [Try.ntmps98, Try.results98]
  refine awp_sr rfl fun K hK => ?_
  simp -dsimp
  refine hK _ _ ?_; clear hK K
  refine awp_sr rfl fun K hK => ?_
  simp -dsimp
  refine hK _ _ ?_; clear hK K
  exact awp_ret (by simp)
theorem c_Less (a b : Int) : PureCall Try.prog 78 [I a, I b] (Bo (decide (a < b))) := by
  refine PureCall.of_body Try.func78 rfl (by decide) (by simp [Try.ntmps78]) ?_
  simp only [Try.ntmps78, Try.results78]
  refine awp_sr rfl fun K hK => ?_
  simp -dsimp
  refine hK _ _ ?_; clear hK K
  refine awp_sr rfl fun K hK => ?_
  simp -dsimp
  refine callK_intro _ (c_isNaN a) (by simp) ?_
  simp -dsimp
  refine callK_may _ (fun hm => c_isNaN b) (by simp) ?_
  simp -dsimp
  refine hK _ _ ?_; clear hK K
  exact awp_ret (by simp)

def fallsAt (l : List Int) (i : Nat) : Bool := decide (at0 l i < at0 l (i - 1 : Nat))
def sortedB (l : List Int) : Bool := (List.range l.length).all fun i => !(decide (0 < i) && fallsAt l i)
theorem c_IsSorted (l : List Int) (hn : l.length ≤ 1000) : PureCall Try.prog 46 [iL l] (Bo (sortedB l)) := by
  have w0 : IntKind.i64.wrap ((l.length : Int) - 1) = (l.length : Int) - 1 := wrap_in (by omega) (by omega)
  refine PureCall.of_body Try.func46 rfl (by decide) (by simp [Try.ntmps46]) ?_
  simp only [Try.ntmps46, Try.results46]
  refine awp_sr rfl fun K hK => ?_
  simp -dsimp
  refine hK _ _ ?_; clear hK K
  refine awp_seq_k fun K1 hK1 => ?_
  refine awp_sr rfl fun K hK => ?_
  simp -dsimp [w0]
  refine hK _ _ ?_; clear hK K
  refine awp_block ?_
  refine awp_prune [0, 3] ?_
  simp only [prune, List.map_cons, List.map_nil, Go.AM.look, Nat.reduceEqDiff, reduceIte]
  refine awp_loop_l [0] (α := Nat) (fun k => [(3, I ((k : Int) - 1))]) (fun k => []) (fun k => k ≤ l.length ∧ ∀ i, k ≤ i → i < l.length → 0 < i → fallsAt l i = false) (fun k => k) l.length ?_ ?_ ?_
  · exact ⟨Nat.le_refl _, fun i h1 h2 => by omega⟩
  · exact sub_same (by simp)
  rintro k ⟨k1, k2⟩
  simp only [List.cons_append, List.nil_append, prune, List.map_cons, List.map_nil, Go.AM.look, Nat.reduceEqDiff, reduceIte]
  refine awp_seq_k fun K2 hK2 => ?_
  refine awp_sr rfl fun K hK => ?_
  simp -dsimp
  refine hK _ _ ?_; clear hK K
  refine awp_cond rfl (fun hc0 => ?_) (fun hc0 => ?_)
  · skip
    skip
    have hk : 1 < k := by have : (0 : Int) < (k : Int) - 1 := by simpa using hc0
                          omega
    have ga := at0_nat (l := l) (k := k - 1) (by omega)
    have gb := at0_nat (l := l) (k := k - 1 - 1) (by omega)
    have wk : IntKind.i64.wrap ((k : Int) - 1 - 1) = ((k - 1 : Nat) : Int) - 1 := by rw [wrap_in (by omega) (by omega)]; omega
    have t1 : ((k : Int) - 1).toNat = k - 1 := by omega
    have t2 : (((k - 1 : Nat) : Int) - 1).toNat = k - 1 - 1 := by omega
    have p1 : (1 : Int) ≤ (k : Int) := by omega
    have p2 : (1 : Int) ≤ ((k - 1 : Nat) : Int) := by omega
    refine awp_skip ?_
    simp only [thenA, inBlockA, reduceIte, Nat.reduceEqDiff, eq_self]
    refine hK2 _ _ ?_
    refine awp_prune [0, 3] ?_
    simp only [prune, List.map_cons, List.map_nil, Go.AM.look, Nat.reduceEqDiff, reduceIte]
    refine awp_seq_k fun K3 hK3 => ?_
    refine awp_block ?_
    refine awp_sd mixed rfl fun K hK => ?_
    simp -dsimp [wk, t1, t2, ga, gb, p1, p2]
    refine callK_intro _ (c_Less _ _) (by simp) ?_
    simp -dsimp [wk, t1, t2, ga, gb, p1, p2]
    refine hK _ _ _ (by decide +kernel) ?_; clear hK K
    refine awp_cond rfl (fun hc1 => ?_) (fun hc1 => ?_)
    · skip
      have hfa : fallsAt l (k - 1) = decide (at0 l (k - 1 : Nat) < at0 l (k - 1 - 1 : Nat)) := rfl
      refine awp_sr rfl fun K hK => ?_
      simp -dsimp
      refine hK _ _ ?_; clear hK K
      have hb : sortedB l = false := by
        unfold sortedB
        rw [List.all_eq_false]
        exact ⟨k - 1, List.mem_range.2 (by omega), by rw [hfa]; simp [hc1]; omega⟩
      exact awp_ret (by simp [hb])
    · skip
      have hfa : fallsAt l (k - 1) = decide (at0 l (k - 1 : Nat) < at0 l (k - 1 - 1 : Nat)) := rfl
      refine awp_skip ?_
      simp only [thenA, inBlockA, reduceIte, Nat.reduceEqDiff, eq_self]
      refine hK3 _ _ ?_
      refine awp_prune [0, 3] ?_
      simp only [prune, List.map_cons, List.map_nil, Go.AM.look, Nat.reduceEqDiff, reduceIte]
      refine awp_r rfl fun K hK => ?_
      simp -dsimp [wk]
      refine hK _ _ ?_; clear hK K
      simp only [thenA, inBlockA, reduceIte, Nat.reduceEqDiff, eq_self]
      refine ⟨k - 1, ⟨by omega, fun i h1 h2 h3 => ?_⟩, by omega, sub_rb [] rfl (by simp) (by simp)⟩
      by_cases hik : i = k - 1
      · rw [hik, hfa]; simpa using hc1
      · exact k2 i (by omega) h2 h3
  · skip
    skip
    have hk : ¬ 1 < k := by
      have h9 : decide ((1 : Int) < (k : Int)) = false := hc0
      have := of_decide_eq_false h9
      omega
    refine awp_exit ?_
    simp only [thenA, inBlockA, reduceIte, Nat.reduceEqDiff, eq_self]
    refine hK1 _ _ ?_
    refine awp_prune [] ?_
    simp only [prune, List.map_cons, List.map_nil, Go.AM.look, Nat.reduceEqDiff, reduceIte]
    refine awp_sr rfl fun K hK => ?_
    simp -dsimp
    refine hK _ _ ?_; clear hK K
    have hb : sortedB l = true := by
      unfold sortedB
      simp only [List.all_eq_true, List.mem_range]
      intro i hi
      by_cases h0 : 0 < i
      · rw [k2 i (by omega) hi h0]; simp
      · simp [h0]
    exact awp_ret (by simp [hb])
end Go.Street
