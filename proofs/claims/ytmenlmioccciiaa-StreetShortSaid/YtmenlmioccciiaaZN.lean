/- Walks: the specification's bound, tours' streams and lengths, programs. -/
import Derived.Test.YtmenlmioccciiaaZM
import Derived.Test.YtmenlmioccciiaaZK
namespace Go.Street
open Go.AM Go.Proofs
set_option maxRecDepth 10000
set_option maxHeartbeats 8000000
set_option linter.unusedVariables false
set_option linter.unusedSimpArgs false

theorem maxI_assoc (a b c : Int) : maxI (maxI a b) c = maxI a (maxI b c) := by
  by_cases h1 : a < b <;> by_cases h2 : b < c <;> by_cases h3 : a < c <;> simp only [maxI, h1, h2, h3, if_true, if_false] <;> omega
theorem maxI_0 {a : Int} (h : 0 ≤ a) : maxI 0 a = a := by unfold maxI; split <;> omega
theorem fold_max (l : List Int) : ∀ m x : Int, l.foldl maxI (maxI m x) = maxI m (l.foldl maxI x) := by
  induction l with
  | nil => intro m x; rfl
  | cons y l ih => intro m x; rw [List.foldl_cons, List.foldl_cons, maxI_assoc, ih]
theorem fold_maxOf {l : List Int} (h : 1 ≤ l.length) (m : Int) : l.foldl maxI m = maxI m (maxOf l) := by
  cases l with
  | nil => simp at h
  | cons x l => rw [List.foldl_cons, fold_max]; rfl
theorem fold_snoc {l : List Int} {k : Nat} {x m : Int} (h : l[k]? = some x) : (l.take (k + 1)).foldl maxI m = maxI ((l.take k).foldl maxI m) x := by
  rw [List.take_add_one, h]; simp

theorem c_rBound (j : Jn) (hf : Fit j) (ho : JOk j) : PureCall Try.prog 43 [j.av] (I (boundJ j)) := by
  have hm := most_bd ho
  have hl := long_bd ho
  have hs1 := ho.s1; have hs2 := ho.s2; have hp1 := ho.p1; have hp2 := ho.p2
  have w1 : IntKind.i64.wrap (j.Skips + 1) = j.Skips + 1 := wrap_in (by omega) (by omega)
  have b1 : 0 ≤ (j.Skips + 1) * (j.Phases.length : Int) ∧ (j.Skips + 1) * (j.Phases.length : Int) ≤ 21 * 12 := ⟨Int.mul_nonneg (by omega) (by omega), Int.mul_le_mul (by omega) (by omega) (by omega) (by omega)⟩
  have w2 : IntKind.i64.wrap ((j.Skips + 1) * (j.Phases.length : Int)) = (j.Skips + 1) * (j.Phases.length : Int) := wrap_in (by omega) (by omega)
  have w3 : IntKind.i64.wrap ((j.Skips + 1) * (j.Phases.length : Int) + 1) = (j.Skips + 1) * (j.Phases.length : Int) + 1 := wrap_in (by omega) (by omega)
  have w4 : IntKind.i64.wrap (maxOf j.Longest + mostC j) = maxOf j.Longest + mostC j := wrap_in (by omega) (by omega)
  have b2 : 0 ≤ ((j.Skips + 1) * (j.Phases.length : Int) + 1) * (maxOf j.Longest + mostC j) ∧ ((j.Skips + 1) * (j.Phases.length : Int) + 1) * (maxOf j.Longest + mostC j) ≤ 253 * 660 := ⟨Int.mul_nonneg (by omega) (by omega), Int.mul_le_mul (by omega) (by omega) (by omega) (by omega)⟩
  have w5 : IntKind.i64.wrap (((j.Skips + 1) * (j.Phases.length : Int) + 1) * (maxOf j.Longest + mostC j)) = boundJ j := wrap_in (by omega) (by omega)
  have hfc := hf.c; have hfl := hf.l
  have hll := ho.ll; have hsl := ho.sqr.len; have hn1 := ho.n1; have hn2 := ho.n2
  have hml : mostTo j j.Clears.length = mostC j := by simp [mostTo, mostC]
  have hmx : j.Longest.foldl maxI 0 = maxOf j.Longest := by rw [fold_maxOf (by omega), maxI_0 (by omega)]
  refine PureCall.of_body Try.func43 rfl (by decide) (by simp [Try.ntmps43]) ?_
  simp only [Try.ntmps43, Try.results43]
  refine awp_sr rfl fun K hK => ?_
  simp -dsimp
  refine hK _ _ ?_; clear hK K
  refine awp_sr rfl fun K hK => ?_
  simp -dsimp
  refine hK _ _ ?_; clear hK K
  refine awp_seq_k fun K1 hK1 => ?_
  refine awp_sr rfl fun K hK => ?_
  simp -dsimp
  refine hK _ _ ?_; clear hK K
  refine awp_block ?_
  refine awp_prune [1, 3, 4, 5] ?_
  simp only [prune, List.map_cons, List.map_nil, Go.AM.look, Nat.reduceEqDiff, reduceIte]
  refine awp_loop_l [1, 4] (α := Nat) (fun k => [(3, I ((j.Longest.take k).foldl maxI 0)), (5, I k)]) (fun k => [some (.els 6 [j.cells])]) (fun k => k ≤ j.Longest.length) (fun k => j.Longest.length - k) 0 ?_ ?_ ?_
  · exact Nat.zero_le _
  · exact sub_same (by simp)
  rintro k k1
  simp only [List.cons_append, List.nil_append, prune, List.map_cons, List.map_nil, Go.AM.look, Nat.reduceEqDiff, reduceIte]
  refine awp_seq_k fun K2 hK2 => ?_
  refine awp_sr rfl fun K hK => ?_
  simp -dsimp
  refine hK _ _ ?_; clear hK K
  refine awp_cond rfl (fun hc0 => ?_) (fun hc0 => ?_)
  · skip
    try simp at hc0
    obtain ⟨x, hx⟩ : ∃ x, j.Longest[k]? = some x := ⟨_, List.getElem?_eq_getElem hc0⟩
    have wk : IntKind.i64.wrap ((k : Int) + 1) = (k : Int) + 1 := wrap_in (by omega) (by omega)
    refine awp_skip ?_
    simp only [thenA, inBlockA, reduceIte, Nat.reduceEqDiff, eq_self]
    refine hK2 _ _ ?_
    refine awp_prune [1, 3, 4, 5] ?_
    simp only [prune, List.map_cons, List.map_nil, Go.AM.look, Nat.reduceEqDiff, reduceIte]
    refine awp_seq_k fun K3 hK3 => ?_
    refine awp_block ?_
    refine awp_r rfl fun K hK => ?_
    simp -dsimp [hx]
    refine hK _ _ ?_; clear hK K
    simp only [thenA, inBlockA, reduceIte, Nat.reduceEqDiff, eq_self]
    refine hK3 _ _ ?_
    refine awp_prune [1, 3, 4, 5] ?_
    simp only [prune, List.map_cons, List.map_nil, Go.AM.look, Nat.reduceEqDiff, reduceIte]
    refine awp_r rfl fun K hK => ?_
    simp -dsimp [wk]
    refine hK _ _ ?_; clear hK K
    simp only [thenA, inBlockA, reduceIte, Nat.reduceEqDiff, eq_self]
    exact ⟨k + 1, by omega, by omega, sub_rb [some 0] rfl (by simp [fold_snoc hx, maxI]) (by simp)⟩
  · skip
    try simp at hc0
    have hkk : k = j.Longest.length := by omega
    subst hkk
    rw [List.take_of_length_le (Nat.le_refl _), hmx]
    refine awp_exit ?_
    simp only [thenA, inBlockA, reduceIte, Nat.reduceEqDiff, eq_self]
    refine hK1 _ _ ?_
    refine awp_prune [1, 3, 4] ?_
    simp only [prune, List.map_cons, List.map_nil, Go.AM.look, Nat.reduceEqDiff, reduceIte]
    refine awp_seq_k fun K4 hK4 => ?_
    refine awp_sr rfl fun K hK => ?_
    simp -dsimp
    refine hK _ _ ?_; clear hK K
    refine awp_block ?_
    refine awp_prune [1, 3, 4, 6] ?_
    simp only [prune, List.map_cons, List.map_nil, Go.AM.look, Nat.reduceEqDiff, reduceIte]
    refine awp_loop_l [1, 3] (α := Nat) (fun a => [(4, I (mostTo j a)), (6, I a)]) (fun a => [some (.els 6 [j.cells])]) (fun a => a ≤ j.Clears.length) (fun a => j.Clears.length - a) 0 ?_ ?_ ?_
    · exact Nat.zero_le _
    · have hm0 : mostTo j 0 = 0 := rfl
      exact sub_same (by simp [hm0])
    rintro a a1
    simp only [List.cons_append, List.nil_append, prune, List.map_cons, List.map_nil, Go.AM.look, Nat.reduceEqDiff, reduceIte]
    refine awp_seq_k fun K5 hK5 => ?_
    refine awp_sr rfl fun K hK => ?_
    simp -dsimp
    refine hK _ _ ?_; clear hK K
    refine awp_cond rfl (fun hc1 => ?_) (fun hc1 => ?_)
    · skip
      try simp at hc1
      obtain ⟨r, hr⟩ : ∃ r, j.Clears[a]? = some r := ⟨_, List.getElem?_eq_getElem hc1⟩
      have hrl := ho.sqr.rows r (List.mem_of_getElem? hr)
      have wa : IntKind.i64.wrap ((a : Int) + 1) = (a : Int) + 1 := wrap_in (by omega) (by omega)
      refine awp_skip ?_
      simp only [thenA, inBlockA, reduceIte, Nat.reduceEqDiff, eq_self]
      refine hK5 _ _ ?_
      refine awp_prune [1, 3, 4, 6] ?_
      simp only [prune, List.map_cons, List.map_nil, Go.AM.look, Nat.reduceEqDiff, reduceIte]
      refine awp_seq_k fun K6 hK6 => ?_
      refine awp_block ?_
      refine awp_sr rfl fun K hK => ?_
      simp -dsimp
      refine hK _ _ ?_; clear hK K
      refine awp_block ?_
      refine awp_prune [1, 3, 4, 6, 7] ?_
      simp only [prune, List.map_cons, List.map_nil, Go.AM.look, Nat.reduceEqDiff, reduceIte]
      refine awp_loop_l [1, 3, 6] (α := Nat) (fun b => [(4, I ((r.take b).foldl maxI (mostTo j a))), (7, I b)]) (fun b => [some (.els 6 [j.cells])]) (fun b => b ≤ j.Clears.length) (fun b => j.Clears.length - b) 0 ?_ ?_ ?_
      · exact Nat.zero_le _
      · exact sub_same (by simp)
      rintro b b1
      simp only [List.cons_append, List.nil_append, prune, List.map_cons, List.map_nil, Go.AM.look, Nat.reduceEqDiff, reduceIte]
      refine awp_seq_k fun K7 hK7 => ?_
      refine awp_sr rfl fun K hK => ?_
      simp -dsimp
      refine hK _ _ ?_; clear hK K
      refine awp_cond rfl (fun hc2 => ?_) (fun hc2 => ?_)
      · skip
        try simp at hc2
        obtain ⟨x, hx⟩ : ∃ x, r[b]? = some x := ⟨_, List.getElem?_eq_getElem (by omega)⟩
        have wb : IntKind.i64.wrap ((b : Int) + 1) = (b : Int) + 1 := wrap_in (by omega) (by omega)
        refine awp_skip ?_
        simp only [thenA, inBlockA, reduceIte, Nat.reduceEqDiff, eq_self]
        refine hK7 _ _ ?_
        refine awp_prune [1, 3, 4, 6, 7] ?_
        simp only [prune, List.map_cons, List.map_nil, Go.AM.look, Nat.reduceEqDiff, reduceIte]
        refine awp_seq_k fun K8 hK8 => ?_
        refine awp_block ?_
        refine awp_r rfl fun K hK => ?_
        simp -dsimp [hr, hx]
        refine hK _ _ ?_; clear hK K
        simp only [thenA, inBlockA, reduceIte, Nat.reduceEqDiff, eq_self]
        refine hK8 _ _ ?_
        refine awp_prune [1, 3, 4, 6, 7] ?_
        simp only [prune, List.map_cons, List.map_nil, Go.AM.look, Nat.reduceEqDiff, reduceIte]
        refine awp_r rfl fun K hK => ?_
        simp -dsimp [wb]
        refine hK _ _ ?_; clear hK K
        simp only [thenA, inBlockA, reduceIte, Nat.reduceEqDiff, eq_self]
        exact ⟨b + 1, by omega, by omega, sub_rb [some 0] rfl (by simp [fold_snoc hx, maxI]) (by simp)⟩
      · skip
        try simp at hc2
        have htk : r.take b = r := List.take_of_length_le (by omega)
        have hfr : r.foldl maxI (mostTo j a) = mostTo j (a + 1) := by rw [fold_maxOf (by omega), mostTo_snoc hr]
        rw [htk, hfr]
        refine awp_exit ?_
        simp only [thenA, inBlockA, reduceIte, Nat.reduceEqDiff, eq_self]
        refine hK6 _ _ ?_
        refine awp_prune [1, 3, 4, 6] ?_
        simp only [prune, List.map_cons, List.map_nil, Go.AM.look, Nat.reduceEqDiff, reduceIte]
        refine awp_r rfl fun K hK => ?_
        simp -dsimp [wa]
        refine hK _ _ ?_; clear hK K
        simp only [thenA, inBlockA, reduceIte, Nat.reduceEqDiff, eq_self]
        exact ⟨a + 1, by omega, by omega, sub_rb [some 0] rfl (by simp) (by simp)⟩
    · skip
      try simp at hc1
      have hkk : a = j.Clears.length := by omega
      subst hkk
      refine awp_exit ?_
      simp only [thenA, inBlockA, reduceIte, Nat.reduceEqDiff, eq_self]
      refine hK4 _ _ ?_
      refine awp_prune [1, 3, 4] ?_
      simp only [prune, List.map_cons, List.map_nil, Go.AM.look, Nat.reduceEqDiff, reduceIte]
      refine awp_sr rfl fun K hK => ?_
      simp -dsimp [w1, w2, w3, w4, w5, hml]
      refine hK _ _ ?_; clear hK K
      exact awp_ret (by simp)

theorem c_rSet (j : Jn) (l : List Int) (hf : Fit j) (ho : JOk j) (hn : l.length ≤ 1000) : PureCall Try.prog 17 [j.av, iL l] (Bo (touredB j l)) := by
  have f1 := hf.s
  have hnl : j.n = j.Streams.length := rfl
  have wn : IntKind.i64.wrap ((j.Streams.length : Int) - 1) = (j.n : Int) - 1 := by rw [← hnl]; exact wrap_in (by omega) (by omega)
  refine PureCall.of_body Try.func17 rfl (by decide) (by simp [Try.ntmps17]) ?_
  simp only [Try.ntmps17, Try.results17]
  refine awp_sr rfl fun K hK => ?_
  simp -dsimp
  refine hK _ _ ?_; clear hK K
  refine awp_seq_k fun K1 hK1 => ?_
  refine awp_sr rfl fun K hK => ?_
  simp -dsimp
  refine callK_intro _ (c_rin _ _ _) (by simp) ?_
  simp -dsimp
  refine hK _ _ ?_; clear hK K
  refine awp_cond rfl (fun hc0 => ?_) (fun hc0 => ?_)
  · skip
    try simp at hc0
    refine awp_sr rfl fun K hK => ?_
    simp -dsimp
    refine hK _ _ ?_; clear hK K
    exact awp_ret (by simp [touredB, hc0])
  · skip
    try simp at hc0
    refine awp_skip ?_
    simp only [thenA, inBlockA, reduceIte, Nat.reduceEqDiff, eq_self]
    refine hK1 _ _ ?_
    refine awp_prune [1, 2] ?_
    simp only [prune, List.map_cons, List.map_nil, Go.AM.look, Nat.reduceEqDiff, reduceIte]
    refine awp_seq_k fun K2 hK2 => ?_
    refine awp_sr rfl fun K hK => ?_
    simp -dsimp
    refine hK _ _ ?_; clear hK K
    refine awp_block ?_
    refine awp_prune [1, 2, 5] ?_
    simp only [prune, List.map_cons, List.map_nil, Go.AM.look, Nat.reduceEqDiff, reduceIte]
    refine awp_loop_l [1, 2] (α := Nat) (fun i => [(5, I i)]) (fun i => [some (.els 6 [j.cells])]) (fun i => i ≤ l.length ∧ ∀ i', i' < i → tourEl j l i' = true) (fun i => l.length - i) 0 ?_ ?_ ?_
    · exact ⟨Nat.zero_le _, fun i' h => by omega⟩
    · exact sub_same (by simp)
    rintro i ⟨i1, i2⟩
    simp only [List.cons_append, List.nil_append, prune, List.map_cons, List.map_nil, Go.AM.look, Nat.reduceEqDiff, reduceIte]
    refine awp_seq_k fun K3 hK3 => ?_
    refine awp_sr rfl fun K hK => ?_
    simp -dsimp
    refine hK _ _ ?_; clear hK K
    refine awp_cond rfl (fun hc1 => ?_) (fun hc1 => ?_)
    · skip
      try simp at hc1
      have ga := at0_nat hc1
      have wi : IntKind.i64.wrap ((i : Int) + 1) = (i : Int) + 1 := wrap_in (by omega) (by omega)
      have hte : tourEl j l i = (inr (at0 l i) 0 ((j.n : Int) - 1) && !(l.take i).any (badP j (at0 l i))) := rfl
      generalize at0 l i = a at ga hte
      have hin : ∀ b ∈ l.take i, 0 ≤ b ∧ b < j.n := by
        intro b hb
        obtain ⟨k, hk⟩ := List.getElem?_of_mem hb
        have hlt := (List.getElem?_eq_some_iff.1 hk).1
        rw [List.length_take] at hlt
        have he := i2 k (by omega)
        rw [List.getElem?_take, if_pos (by omega)] at hk
        simp only [tourEl, at0_of hk, Bool.and_eq_true, inr_iff] at he
        omega
      refine awp_skip ?_
      simp only [thenA, inBlockA, reduceIte, Nat.reduceEqDiff, eq_self]
      refine hK3 _ _ ?_
      refine awp_prune [1, 2, 5] ?_
      simp only [prune, List.map_cons, List.map_nil, Go.AM.look, Nat.reduceEqDiff, reduceIte]
      refine awp_seq_k fun K4 hK4 => ?_
      refine awp_block ?_
      refine awp_seq_k fun K5 hK5 => ?_
      refine awp_sd mixed rfl fun K hK => ?_
      simp -dsimp [ga, wn]
      refine callK_intro _ (c_rin _ _ _) (by simp) ?_
      simp -dsimp [ga, wn]
      refine hK _ _ _ (by decide +kernel) ?_; clear hK K
      refine awp_cond rfl (fun hc2 => ?_) (fun hc2 => ?_)
      · skip
        skip
        have hr : inr a 0 ((j.n : Int) - 1) = false := by simpa using hc2
        refine awp_sr rfl fun K hK => ?_
        simp -dsimp
        refine hK _ _ ?_; clear hK K
        exact awp_ret (by simp [touredB_ff hc1 (by rw [hte, hr]; rfl)])
      · skip
        skip
        have hr : inr a 0 ((j.n : Int) - 1) = true := by simpa using hc2
        have hra := inr_iff.1 hr
        refine awp_skip ?_
        simp only [thenA, inBlockA, reduceIte, Nat.reduceEqDiff, eq_self]
        refine hK5 _ _ ?_
        refine awp_prune [1, 2, 5] ?_
        simp only [prune, List.map_cons, List.map_nil, Go.AM.look, Nat.reduceEqDiff, reduceIte]
        refine awp_sr rfl fun K hK => ?_
        simp -dsimp
        refine hK _ _ ?_; clear hK K
        refine awp_block ?_
        refine awp_prune [1, 2, 5, 6] ?_
        simp only [prune, List.map_cons, List.map_nil, Go.AM.look, Nat.reduceEqDiff, reduceIte]
        refine awp_loop_l [1, 2, 5] (α := Nat) (fun k => [(6, I k)]) (fun k => [some (.els 6 [j.cells])]) (fun k => k ≤ i ∧ ((l.take i).take k).any (badP j a) = false) (fun k => i - k) 0 ?_ ?_ ?_
        · exact ⟨Nat.zero_le _, rfl⟩
        · exact sub_same (by simp)
        rintro k ⟨k1, k2⟩
        simp only [List.cons_append, List.nil_append, prune, List.map_cons, List.map_nil, Go.AM.look, Nat.reduceEqDiff, reduceIte]
        refine awp_seq_k fun K6 hK6 => ?_
        refine awp_sr rfl fun K hK => ?_
        simp -dsimp
        refine hK _ _ ?_; clear hK K
        refine awp_cond rfl (fun hc3 => ?_) (fun hc3 => ?_)
        · skip
          try simp at hc3
          obtain ⟨b, hb⟩ : ∃ b, (l.take i)[k]? = some b := ⟨_, List.getElem?_eq_getElem (by rw [List.length_take]; omega)⟩
          have hbb := hin b (List.mem_of_getElem? hb)
          have hb' : l[k]? = some b := by rw [List.getElem?_take, if_pos hc3] at hb; exact hb
          have wk : IntKind.i64.wrap ((k : Int) + 1) = (k : Int) + 1 := wrap_in (by omega) (by omega)
          have hcf := c_rConf j b a ho.sqr hbb.1 hbb.2 hra.1 (by omega)
          have hsy := conf_symm ho hbb.1 hbb.2 hra.1 (by omega)
          refine awp_skip ?_
          simp only [thenA, inBlockA, reduceIte, Nat.reduceEqDiff, eq_self]
          refine hK6 _ _ ?_
          refine awp_prune [1, 2, 5, 6] ?_
          simp only [prune, List.map_cons, List.map_nil, Go.AM.look, Nat.reduceEqDiff, reduceIte]
          refine awp_seq_k fun K7 hK7 => ?_
          refine awp_block ?_
          refine awp_sd mixed rfl fun K hK => ?_
          simp -dsimp [hb', ga]
          refine idxK_intro (nCell b) (fun _ => by simp [hb']) ?_
          simp -dsimp [hb', ga]
          refine idxK_intro (nCell a) (fun _ => by simp [ga]) ?_
          simp -dsimp [hb', ga]
          refine callK_may _ (fun hm => hcf) (by simp) ?_
          simp -dsimp [hb', ga]
          refine hK _ _ _ (by decide +kernel) ?_; clear hK K
          refine awp_cond rfl (fun hc4 => ?_) (fun hc4 => ?_)
          · skip
            have hbp : badP j a b = (b == a || !conf j b a) := by unfold badP; rw [beq_d, hsy, decide_eq_decide.2 (show a = b ↔ b = a from eq_comm)]
            have hany : (l.take i).any (badP j a) = true := by
              rw [List.any_eq_true]
              exact ⟨b, List.mem_of_getElem? hb, by rw [hbp]; simpa using hc4⟩
            refine awp_sr rfl fun K hK => ?_
            simp -dsimp
            refine hK _ _ ?_; clear hK K
            exact awp_ret (by simp [touredB_ff hc1 (by rw [hte, hany]; simp)])
          · skip
            have hbp : badP j a b = (b == a || !conf j b a) := by unfold badP; rw [beq_d, hsy, decide_eq_decide.2 (show a = b ↔ b = a from eq_comm)]
            refine awp_skip ?_
            simp only [thenA, inBlockA, reduceIte, Nat.reduceEqDiff, eq_self]
            refine hK7 _ _ ?_
            refine awp_prune [1, 2, 5, 6] ?_
            simp only [prune, List.map_cons, List.map_nil, Go.AM.look, Nat.reduceEqDiff, reduceIte]
            refine awp_r rfl fun K hK => ?_
            simp -dsimp [wk]
            refine hK _ _ ?_; clear hK K
            simp only [thenA, inBlockA, reduceIte, Nat.reduceEqDiff, eq_self]
            have hbf : badP j a b = false := by rw [hbp]; simpa using hc4
            exact ⟨k + 1, ⟨by omega, by rw [any_take hb, k2, hbf]; rfl⟩, by omega, sub_rb [some 0] rfl (by simp) (by simp)⟩
        · skip
          try simp at hc3
          have hany := any_of_take (l := l.take i) (k := k) (by rw [List.length_take]; omega) k2
          refine awp_exit ?_
          simp only [thenA, inBlockA, reduceIte, Nat.reduceEqDiff, eq_self]
          refine hK4 _ _ ?_
          refine awp_prune [1, 2, 5] ?_
          simp only [prune, List.map_cons, List.map_nil, Go.AM.look, Nat.reduceEqDiff, reduceIte]
          refine awp_r rfl fun K hK => ?_
          simp -dsimp [wi]
          refine hK _ _ ?_; clear hK K
          simp only [thenA, inBlockA, reduceIte, Nat.reduceEqDiff, eq_self]
          refine ⟨i + 1, ⟨by omega, fun i' h => ?_⟩, by omega, sub_rb [some 0] rfl (by simp) (by simp)⟩
          rcases Nat.lt_succ_iff_lt_or_eq.1 h with h | rfl
          · exact i2 i' h
          · rw [hte, hr, hany]; rfl
    · skip
      try simp at hc1
      refine awp_exit ?_
      simp only [thenA, inBlockA, reduceIte, Nat.reduceEqDiff, eq_self]
      refine hK2 _ _ ?_
      refine awp_prune [] ?_
      simp only [prune, List.map_cons, List.map_nil, Go.AM.look, Nat.reduceEqDiff, reduceIte]
      refine awp_sr rfl fun K hK => ?_
      simp -dsimp
      refine hK _ _ ?_; clear hK K
      have hall : (List.range l.length).all (tourEl j l) = true := by
        simp only [List.all_eq_true, List.mem_range]
        exact fun i' h => i2 i' (by omega)
      exact awp_ret (by simp [touredB, hall, hc0])

theorem toured_bd {j : Jn} {l : List Int} (h : touredB j l = true) : 2 ≤ l.length ∧ l.length ≤ 9 ∧ ∀ x ∈ l, 0 ≤ x ∧ x < j.n := by
  simp only [touredB, Bool.and_eq_true, List.all_eq_true, List.mem_range, inr_iff] at h
  refine ⟨by omega, by omega, fun x hx => ?_⟩
  obtain ⟨k, hk⟩ := List.getElem?_of_mem hx
  have := h.1 k (List.getElem?_eq_some_iff.1 hk).1
  simp only [tourEl, at0_of hk, Bool.and_eq_true, inr_iff] at this
  omega

/-- What a tour's stream takes: its green and the clearing time to the next one. -/
def nxtI (l : List Int) (k : Nat) : Int := at0 l ((k + 1) % l.length : Nat)
def partI (j : Jn) (l : List Int) (k : Nat) : Int := (strm j (at0 l k)).Least + clr j (at0 l k) (nxtI l k)
def lenTo (j : Jn) (l : List Int) : Nat → Int
  | 0 => 0
  | k + 1 => lenTo j l k + partI j l k
def lenF (j : Jn) (l : List Int) : Int := lenTo j l l.length
theorem part_bd {j : Jn} (ho : JOk j) {l : List Int} (hl : ∀ x ∈ l, 0 ≤ x ∧ x < j.n) {k : Nat} (hk : k < l.length) : 0 ≤ partI j l k ∧ partI j l k ≤ 180 := by
  have h1 := hl _ (List.mem_of_getElem? (at0_nat hk))
  have h2 := hl _ (List.mem_of_getElem? (at0_nat (l := l) (k := (k + 1) % l.length) (Nat.mod_lt _ (by omega))))
  have h3 := ho.strm _ h1.1 h1.2
  have h4 := ho.cl _ (nxtI l k) h1.1 h1.2 h2.1 h2.2
  unfold partI
  omega
theorem lenTo_bd {j : Jn} (ho : JOk j) {l : List Int} (hl : ∀ x ∈ l, 0 ≤ x ∧ x < j.n) : ∀ k, k ≤ l.length → 0 ≤ lenTo j l k ∧ lenTo j l k ≤ 180 * k
  | 0, _ => by simp [lenTo]
  | k + 1, h => by
    have := lenTo_bd ho hl k (by omega)
    have := part_bd ho hl (k := k) (by omega)
    simp only [lenTo]; omega

theorem c_rLength (j : Jn) (l : List Int) (ho : JOk j) (hl : ∀ x ∈ l, 0 ≤ x ∧ x < j.n) (hn : l.length ≤ 1000) : PureCall Try.prog 21 [j.av, iL l] (I (lenF j l)) := by
  refine PureCall.of_body Try.func21 rfl (by decide) (by simp [Try.ntmps21]) ?_
  simp only [Try.ntmps21, Try.results21]
  refine awp_sr rfl fun K hK => ?_
  simp -dsimp
  refine hK _ _ ?_; clear hK K
  refine awp_sr rfl fun K hK => ?_
  simp -dsimp
  refine hK _ _ ?_; clear hK K
  refine awp_seq_k fun K1 hK1 => ?_
  refine awp_sr rfl fun K hK => ?_
  simp -dsimp
  refine hK _ _ ?_; clear hK K
  refine awp_block ?_
  refine awp_prune [1, 2, 5, 6] ?_
  simp only [prune, List.map_cons, List.map_nil, Go.AM.look, Nat.reduceEqDiff, reduceIte]
  refine awp_loop_l [1, 2] (α := Nat) (fun k => [(5, I (lenTo j l k)), (6, I k)]) (fun k => [some (.els 6 [j.cells])]) (fun k => k ≤ l.length) (fun k => l.length - k) 0 ?_ ?_ ?_
  · exact Nat.zero_le _
  · exact sub_same (by simp [lenTo])
  rintro k k1
  simp only [List.cons_append, List.nil_append, prune, List.map_cons, List.map_nil, Go.AM.look, Nat.reduceEqDiff, reduceIte]
  refine awp_seq_k fun K2 hK2 => ?_
  refine awp_sr rfl fun K hK => ?_
  simp -dsimp
  refine hK _ _ ?_; clear hK K
  refine awp_cond rfl (fun hc0 => ?_) (fun hc0 => ?_)
  · skip
    try simp at hc0
    have ga := at0_nat hc0
    have ha := hl _ (List.mem_of_getElem? ga)
    have hmlt : (k + 1) % l.length < l.length := Nat.mod_lt _ (by omega)
    have gb := at0_nat (l := l) (k := (k + 1) % l.length) hmlt
    have hb := hl _ (List.mem_of_getElem? gb)
    have wk : IntKind.i64.wrap ((k : Int) + 1) = (k : Int) + 1 := wrap_in (by omega) (by omega)
    have hmm : ((k : Int) + 1).tmod (l.length : Int) = (((k + 1) % l.length : Nat) : Int) := by rw [Int.tmod_eq_emod_of_nonneg (by omega)]; rfl
    have hpt : partI j l k = (strm j (at0 l k)).Least + clr j (at0 l k) (at0 l ((k + 1) % l.length : Nat)) := rfl
    have hlb := lenTo_bd ho hl k k1
    have hlne : ¬ l = [] := by intro e; rw [e] at hc0; simp at hc0
    generalize (k + 1) % l.length = m at hmlt gb hb hmm hpt
    have hla : lenTo j l (k + 1) = lenTo j l k + partI j l k := rfl
    generalize at0 l k = a at ga ha hpt
    generalize at0 l m = b at gb hb hpt
    have gs := strm_get ha.1 ha.2
    have hs := ho.strm a ha.1 ha.2
    have gr := ho.sqr.row ha.1 ha.2
    have gc := ho.sqr.get ha.1 ha.2 hb.1 hb.2
    have hc := ho.cl a b ha.1 ha.2 hb.1 hb.2
    have w1 : IntKind.i64.wrap (lenTo j l k + (strm j a).Least) = lenTo j l k + (strm j a).Least := wrap_in (by omega) (by omega)
    have w2 : IntKind.i64.wrap (lenTo j l k + (strm j a).Least + clr j a b) = lenTo j l (k + 1) := by rw [wrap_in (by omega) (by omega)]; omega
    refine awp_skip ?_
    simp only [thenA, inBlockA, reduceIte, Nat.reduceEqDiff, eq_self]
    refine hK2 _ _ ?_
    refine awp_prune [1, 2, 5, 6] ?_
    simp only [prune, List.map_cons, List.map_nil, Go.AM.look, Nat.reduceEqDiff, reduceIte]
    refine awp_seq_k fun K3 hK3 => ?_
    refine awp_block ?_
    refine awp_draw mixed rfl fun K hK => ?_
    simp -dsimp [ga, gb, gs, gr.1, gc, w1, w2, wk, hmm, hlne, ha.1, hb.1]
    refine hK _ _ _ (by decide +kernel) ?_; clear hK K
    simp only [thenA, inBlockA, reduceIte, Nat.reduceEqDiff, eq_self]
    refine hK3 _ _ ?_
    refine awp_prune [1, 2, 5, 6] ?_
    simp only [prune, List.map_cons, List.map_nil, Go.AM.look, Nat.reduceEqDiff, reduceIte]
    refine awp_r rfl fun K hK => ?_
    simp -dsimp [wk]
    refine hK _ _ ?_; clear hK K
    simp only [thenA, inBlockA, reduceIte, Nat.reduceEqDiff, eq_self]
    exact ⟨k + 1, by omega, by omega, sub_rb [some 0] rfl (by simp) (by simp)⟩
  · skip
    try simp at hc0
    refine awp_exit ?_
    simp only [thenA, inBlockA, reduceIte, Nat.reduceEqDiff, eq_self]
    refine hK1 _ _ ?_
    refine awp_prune [5] ?_
    simp only [prune, List.map_cons, List.map_nil, Go.AM.look, Nat.reduceEqDiff, reduceIte]
    refine awp_sr rfl fun K hK => ?_
    simp -dsimp
    refine hK _ _ ?_; clear hK K
    have hkk : k = l.length := by omega
    exact awp_ret (by rw [hkk]; simp [lenF])
end Go.Street
