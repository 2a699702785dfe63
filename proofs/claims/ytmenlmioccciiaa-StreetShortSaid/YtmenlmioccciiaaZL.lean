/- Walks: the small functions of the specification of the street. -/
import Derived.Test.YtmenlmioccciiaaZC
import Derived.Test.YtmenlmioccciiaaZJ
namespace Go.Street
open Go.AM Go.Proofs
set_option maxRecDepth 10000
set_option maxHeartbeats 4000000
set_option linter.unusedVariables false
set_option linter.unusedSimpArgs false

theorem c_rin (x lo hi : Int) : PureCall Try.prog 56 [I x, I lo, I hi] (Bo (inr x lo hi)) := by
  refine PureCall.of_body Try.func56 rfl (by decide) (by simp [Try.ntmps56]) ?_
  simp only [Try.ntmps56, Try.results56]
  refine awp_sr rfl fun K hK => ?_
  simp -dsimp
  refine hK _ _ ?_; clear hK K
  refine awp_sr rfl fun K hK => ?_
  simp -dsimp
  refine hK _ _ ?_; clear hK K
  exact awp_ret (by simp [inr])

theorem mem_take_succ {l : List Int} {k : Nat} {x y : Int} (h : l[k]? = some y) : x ∈ l.take (k + 1) ↔ x ∈ l.take k ∨ x = y := by
  rw [List.take_add_one, h]; simp
theorem c_rHas (l : List Int) (x : Int) (hn : l.length ≤ 100000) : PureCall Try.prog 35 [iL l, I x] (Bo (decide (x ∈ l))) := by
  refine PureCall.of_body Try.func35 rfl (by decide) (by simp [Try.ntmps35]) ?_
  simp only [Try.ntmps35, Try.results35]
  refine awp_sr rfl fun K hK => ?_
  simp -dsimp
  refine hK _ _ ?_; clear hK K
  refine awp_seq_k fun K1 hK1 => ?_
  refine awp_sr rfl fun K hK => ?_
  simp -dsimp
  refine hK _ _ ?_; clear hK K
  refine awp_block ?_
  refine awp_prune [0, 1, 5] ?_
  simp only [prune, List.map_cons, List.map_nil, Go.AM.look, Nat.reduceEqDiff, reduceIte]
  refine awp_loop_l [0, 1] (α := Nat) (fun k => [(5, I k)]) (fun _ => []) (fun k => k ≤ l.length ∧ x ∉ l.take k) (fun k => l.length - k) 0 ?_ ?_ ?_
  · exact ⟨Nat.zero_le _, by simp⟩
  · exact sub_same (by simp)
  rintro k ⟨k1, k2⟩
  simp only [List.cons_append, List.nil_append, prune, List.map_cons, List.map_nil, Go.AM.look, Nat.reduceEqDiff, reduceIte]
  refine awp_seq_k fun K2 hK2 => ?_
  refine awp_sr rfl fun K hK => ?_
  simp -dsimp
  refine hK _ _ ?_; clear hK K
  refine awp_cond rfl (fun hc0 => ?_) (fun hc0 => ?_)
  · skip
    try simp at hc0
    obtain ⟨y, hy⟩ : ∃ y, l[k]? = some y := ⟨_, List.getElem?_eq_getElem hc0⟩
    have wk : IntKind.i64.wrap ((k : Int) + 1) = (k : Int) + 1 := wrap_in (by omega) (by omega)
    refine awp_skip ?_
    simp only [thenA, inBlockA, reduceIte, Nat.reduceEqDiff, eq_self]
    refine hK2 _ _ ?_
    refine awp_prune [0, 1, 5] ?_
    simp only [prune, List.map_cons, List.map_nil, Go.AM.look, Nat.reduceEqDiff, reduceIte]
    refine awp_seq_k fun K3 hK3 => ?_
    refine awp_block ?_
    refine awp_sr rfl fun K hK => ?_
    simp -dsimp [hy]
    refine hK _ _ ?_; clear hK K
    refine awp_cond rfl (fun hc1 => ?_) (fun hc1 => ?_)
    · skip
      try simp at hc1
      have hx : x ∈ l := by have := List.mem_of_getElem? hy; rwa [← hc1]
      refine awp_sr rfl fun K hK => ?_
      simp -dsimp
      refine hK _ _ ?_; clear hK K
      exact awp_ret (by simp [hx])
    · skip
      try simp at hc1
      refine awp_skip ?_
      simp only [thenA, inBlockA, reduceIte, Nat.reduceEqDiff, eq_self]
      refine hK3 _ _ ?_
      refine awp_prune [0, 1, 5] ?_
      simp only [prune, List.map_cons, List.map_nil, Go.AM.look, Nat.reduceEqDiff, reduceIte]
      refine awp_r rfl fun K hK => ?_
      simp -dsimp [wk]
      refine hK _ _ ?_; clear hK K
      simp only [thenA, inBlockA, reduceIte, Nat.reduceEqDiff, eq_self]
      exact ⟨k + 1, ⟨by omega, by rw [mem_take_succ hy]; rintro (h | h); exact k2 h; exact hc1 h.symm⟩, by omega, sub_rb [] rfl (by simp) (by simp)⟩
  · skip
    try simp at hc0
    have htk : l.take k = l := List.take_of_length_le (by omega)
    refine awp_exit ?_
    simp only [thenA, inBlockA, reduceIte, Nat.reduceEqDiff, eq_self]
    refine hK1 _ _ ?_
    refine awp_prune [] ?_
    simp only [prune, List.map_cons, List.map_nil, Go.AM.look, Nat.reduceEqDiff, reduceIte]
    refine awp_sr rfl fun K hK => ?_
    simp -dsimp
    refine hK _ _ ?_; clear hK K
    exact awp_ret (by rw [htk] at k2; simp [k2])

theorem c_rRising (l : List Int) (n : Int) (hn : l.length ≤ 1000) (n0 : -1000000 ≤ n) (n1 : n ≤ 1000000) : PureCall Try.prog 18 [iL l, I n] (Bo (risB l n)) := by
  have wn : IntKind.i64.wrap (n - 1) = n - 1 := wrap_in (by omega) (by omega)
  refine PureCall.of_body Try.func18 rfl (by decide) (by simp [Try.ntmps18]) ?_
  simp only [Try.ntmps18, Try.results18]
  refine awp_sr rfl fun K hK => ?_
  simp -dsimp
  refine hK _ _ ?_; clear hK K
  refine awp_seq_k fun K1 hK1 => ?_
  refine awp_sr rfl fun K hK => ?_
  simp -dsimp
  refine hK _ _ ?_; clear hK K
  refine awp_block ?_
  refine awp_prune [0, 1, 5] ?_
  simp only [prune, List.map_cons, List.map_nil, Go.AM.look, Nat.reduceEqDiff, reduceIte]
  refine awp_loop_l [0, 1] (α := Nat) (fun k => [(5, I k)]) (fun k => []) (fun k => k ≤ l.length ∧ ∀ k', k' < k → riseEl l n k' = true) (fun k => l.length - k) 0 ?_ ?_ ?_
  · exact ⟨Nat.zero_le _, fun k' h => by omega⟩
  · exact sub_same (by simp)
  rintro k ⟨k1, k2⟩
  simp only [List.cons_append, List.nil_append, prune, List.map_cons, List.map_nil, Go.AM.look, Nat.reduceEqDiff, reduceIte]
  refine awp_seq_k fun K2 hK2 => ?_
  refine awp_sr rfl fun K hK => ?_
  simp -dsimp
  refine hK _ _ ?_; clear hK K
  refine awp_cond rfl (fun hc0 => ?_) (fun hc0 => ?_)
  · skip
    try simp at hc0
    have gs := at0_nat hc0
    have wk : IntKind.i64.wrap ((k : Int) + 1) = (k : Int) + 1 := wrap_in (by omega) (by omega)
    have wm : 0 < k → IntKind.i64.wrap ((k : Int) - 1) = ((k - 1 : Nat) : Int) := fun h => by rw [wrap_in (by omega) (by omega)]; omega
    have gm : 0 < k → l[k - 1]? = some (at0 l (k - 1 : Nat)) := fun h => at0_nat (by omega)
    have hte : riseEl l n k = (inr (at0 l k) 0 (n - 1) && !(decide (0 < k) && decide (at0 l k ≤ at0 l (k - 1 : Nat)))) := rfl
    generalize at0 l k = s at gs hte
    refine awp_skip ?_
    simp only [thenA, inBlockA, reduceIte, Nat.reduceEqDiff, eq_self]
    refine hK2 _ _ ?_
    refine awp_prune [0, 1, 5] ?_
    simp only [prune, List.map_cons, List.map_nil, Go.AM.look, Nat.reduceEqDiff, reduceIte]
    refine awp_seq_k fun K3 hK3 => ?_
    refine awp_block ?_
    refine awp_sd mixed rfl fun K hK => ?_
    simp -dsimp [gs, wn]
    refine callK_intro _ (c_rin _ _ _) (by simp) ?_
    simp -dsimp [gs, wn]
    refine idxK_intro (nCell s) (fun _ => by simp [gs]) ?_
    simp -dsimp [gs, wn]
    refine ⟨fun _ h => by rw [wm h]; omega, idxK_intro (nCell (at0 l (k - 1 : Nat))) (fun hm => by simp at hm; rw [wm hm.2]; simp [gm hm.2]) ?_⟩
    simp -dsimp [wn]
    refine hK _ _ _ (by decide +kernel) ?_; clear hK K
    refine awp_cond rfl (fun hc1 => ?_) (fun hc1 => ?_)
    · skip
      have hte' : riseEl l n k = !(!inr s 0 (n - 1) || decide (0 < k) && decide (s ≤ at0 l (k - 1 : Nat))) := by rw [hte]; cases inr s 0 (n - 1) <;> simp
      refine awp_sr rfl fun K hK => ?_
      simp -dsimp
      refine hK _ _ ?_; clear hK K
      have hb : risB l n = false := by
        unfold risB
        rw [List.all_eq_false]
        exact ⟨k, List.mem_range.2 hc0, by rw [hte', hc1]; simp⟩
      exact awp_ret (by simp [hb])
    · skip
      have hte' : riseEl l n k = !(!inr s 0 (n - 1) || decide (0 < k) && decide (s ≤ at0 l (k - 1 : Nat))) := by rw [hte]; cases inr s 0 (n - 1) <;> simp
      refine awp_skip ?_
      simp only [thenA, inBlockA, reduceIte, Nat.reduceEqDiff, eq_self]
      refine hK3 _ _ ?_
      refine awp_prune [0, 1, 5] ?_
      simp only [prune, List.map_cons, List.map_nil, Go.AM.look, Nat.reduceEqDiff, reduceIte]
      refine awp_r rfl fun K hK => ?_
      simp -dsimp [wk]
      refine hK _ _ ?_; clear hK K
      simp only [thenA, inBlockA, reduceIte, Nat.reduceEqDiff, eq_self]
      refine ⟨k + 1, ⟨by omega, fun k' h => ?_⟩, by omega, sub_rb [] rfl (by simp) (by simp)⟩
      rcases Nat.lt_succ_iff_lt_or_eq.1 h with h | rfl
      · exact k2 k' h
      · rw [hte', hc1]; rfl
  · skip
    try simp at hc0
    refine awp_exit ?_
    simp only [thenA, inBlockA, reduceIte, Nat.reduceEqDiff, eq_self]
    refine hK1 _ _ ?_
    refine awp_prune [] ?_
    simp only [prune, List.map_cons, List.map_nil, Go.AM.look, Nat.reduceEqDiff, reduceIte]
    refine awp_sr rfl fun K hK => ?_
    simp -dsimp
    refine hK _ _ ?_; clear hK K
    have hb : risB l n = true := by
      simp only [risB, List.all_eq_true, List.mem_range]
      exact fun k' h => k2 k' (by omega)
    exact awp_ret (by simp [hb])

theorem risB_told (n : Nat) (l : List Int) : risB l n = toldB n l := rfl

theorem c_rConf (j : Jn) (a b : Int) (h : Sqr j) (h0 : 0 ≤ a) (h1 : a < j.n) (k0 : 0 ≤ b) (k1 : b < j.n) : PureCall Try.prog 33 [j.av, I a, I b] (Bo (conf j a b)) := by
  have g1 := (h.row h0 h1).1
  have g2 := h.get h0 h1 k0 k1
  refine PureCall.of_body Try.func33 rfl (by decide) (by simp [Try.ntmps33]) ?_
  simp only [Try.ntmps33, Try.results33]
  refine awp_sr rfl fun K hK => ?_
  simp -dsimp
  refine hK _ _ ?_; clear hK K
  refine awp_sr rfl fun K hK => ?_
  simp -dsimp [g1, g2, h0, k0]
  refine hK _ _ ?_; clear hK K
  exact awp_ret (by simp [conf])

theorem c_rSame (a b : List Int) (ha : a.length ≤ 100000) : PureCall Try.prog 20 [iL a, iL b] (Bo (decide (a = b))) := by
  refine PureCall.of_body Try.func20 rfl (by decide) (by simp [Try.ntmps20]) ?_
  simp only [Try.ntmps20, Try.results20]
  refine awp_sr rfl fun K hK => ?_
  simp -dsimp
  refine hK _ _ ?_; clear hK K
  refine awp_seq_k fun K1 hK1 => ?_
  refine awp_sr rfl fun K hK => ?_
  simp -dsimp
  refine hK _ _ ?_; clear hK K
  refine awp_cond rfl (fun hc0 => ?_) (fun hc0 => ?_)
  · skip
    skip
    have hl : a.length ≠ b.length := by intro e; simp [e] at hc0
    refine awp_sr rfl fun K hK => ?_
    simp -dsimp
    refine hK _ _ ?_; clear hK K
    have hne : a ≠ b := fun e => hl (by rw [e])
    exact awp_ret (by simp [hne])
  · skip
    skip
    have hl : a.length = b.length := by have := of_decide_eq_true (by simpa [bne, beq_d] using hc0 : decide ((a.length : Int) = b.length) = true)
                                        omega
    refine awp_skip ?_
    simp only [thenA, inBlockA, reduceIte, Nat.reduceEqDiff, eq_self]
    refine hK1 _ _ ?_
    refine awp_prune [0, 1] ?_
    simp only [prune, List.map_cons, List.map_nil, Go.AM.look, Nat.reduceEqDiff, reduceIte]
    refine awp_seq_k fun K2 hK2 => ?_
    refine awp_sr rfl fun K hK => ?_
    simp -dsimp
    refine hK _ _ ?_; clear hK K
    refine awp_block ?_
    refine awp_prune [0, 1, 5] ?_
    simp only [prune, List.map_cons, List.map_nil, Go.AM.look, Nat.reduceEqDiff, reduceIte]
    refine awp_loop_l [0, 1] (α := Nat) (fun k => [(5, I k)]) (fun _ => []) (fun k => k ≤ a.length ∧ a.take k = b.take k) (fun k => a.length - k) 0 ?_ ?_ ?_
    · exact ⟨Nat.zero_le _, by simp⟩
    · exact sub_same (by simp)
    rintro k ⟨k1, k2⟩
    simp only [List.cons_append, List.nil_append, prune, List.map_cons, List.map_nil, Go.AM.look, Nat.reduceEqDiff, reduceIte]
    refine awp_seq_k fun K3 hK3 => ?_
    refine awp_sr rfl fun K hK => ?_
    simp -dsimp
    refine hK _ _ ?_; clear hK K
    refine awp_cond rfl (fun hc1 => ?_) (fun hc1 => ?_)
    · skip
      try simp at hc1
      obtain ⟨x, hx⟩ : ∃ x, a[k]? = some x := ⟨_, List.getElem?_eq_getElem hc1⟩
      obtain ⟨y, hy⟩ : ∃ y, b[k]? = some y := ⟨_, List.getElem?_eq_getElem (by omega)⟩
      have wk : IntKind.i64.wrap ((k : Int) + 1) = (k : Int) + 1 := wrap_in (by omega) (by omega)
      have hkb : k < b.length := by omega
      refine awp_skip ?_
      simp only [thenA, inBlockA, reduceIte, Nat.reduceEqDiff, eq_self]
      refine hK3 _ _ ?_
      refine awp_prune [0, 1, 5] ?_
      simp only [prune, List.map_cons, List.map_nil, Go.AM.look, Nat.reduceEqDiff, reduceIte]
      refine awp_seq_k fun K4 hK4 => ?_
      refine awp_block ?_
      refine awp_sd mixed rfl fun K hK => ?_
      simp -dsimp [hx, hy]
      refine hK _ _ _ (by decide +kernel) ?_; clear hK K
      refine awp_cond rfl (fun hc2 => ?_) (fun hc2 => ?_)
      · skip
        try simp [bne, beq_d] at hc2
        refine awp_sr rfl fun K hK => ?_
        simp -dsimp
        refine hK _ _ ?_; clear hK K
        have hne : a ≠ b := by rintro rfl; rw [hx] at hy; simp only [Option.some.injEq] at hy; exact hc2 hy
        exact awp_ret (by simp [hne])
      · skip
        try simp [bne, beq_d] at hc2
        refine awp_skip ?_
        simp only [thenA, inBlockA, reduceIte, Nat.reduceEqDiff, eq_self]
        refine hK4 _ _ ?_
        refine awp_prune [0, 1, 5] ?_
        simp only [prune, List.map_cons, List.map_nil, Go.AM.look, Nat.reduceEqDiff, reduceIte]
        refine awp_r rfl fun K hK => ?_
        simp -dsimp [wk]
        refine hK _ _ ?_; clear hK K
        simp only [thenA, inBlockA, reduceIte, Nat.reduceEqDiff, eq_self]
        exact ⟨k + 1, ⟨by omega, by rw [List.take_add_one, List.take_add_one, hx, hy, k2, hc2]⟩, by omega, sub_rb [] rfl (by simp) (by simp)⟩
    · skip
      try simp at hc1
      have h1 : a.take k = a := List.take_of_length_le (by omega)
      have h2 : b.take k = b := List.take_of_length_le (by omega)
      refine awp_exit ?_
      simp only [thenA, inBlockA, reduceIte, Nat.reduceEqDiff, eq_self]
      refine hK2 _ _ ?_
      refine awp_prune [] ?_
      simp only [prune, List.map_cons, List.map_nil, Go.AM.look, Nat.reduceEqDiff, reduceIte]
      refine awp_sr rfl fun K hK => ?_
      simp -dsimp
      refine hK _ _ ?_; clear hK K
      exact awp_ret (by rw [h1, h2] at k2; simp [k2])

theorem c_rSameL (a b : List Lt) (ha : a.length ≤ 100000) : PureCall Try.prog 31 [lL a, lL b] (Bo (decide (a = b))) := by
  refine PureCall.of_body Try.func31 rfl (by decide) (by simp [Try.ntmps31]) ?_
  simp only [Try.ntmps31, Try.results31]
  refine awp_sr rfl fun K hK => ?_
  simp -dsimp
  refine hK _ _ ?_; clear hK K
  refine awp_seq_k fun K1 hK1 => ?_
  refine awp_sr rfl fun K hK => ?_
  simp -dsimp
  refine hK _ _ ?_; clear hK K
  refine awp_cond rfl (fun hc0 => ?_) (fun hc0 => ?_)
  · skip
    skip
    have hl : a.length ≠ b.length := by intro e; simp [e] at hc0
    refine awp_sr rfl fun K hK => ?_
    simp -dsimp
    refine hK _ _ ?_; clear hK K
    have hne : a ≠ b := fun e => hl (by rw [e])
    exact awp_ret (by simp [hne])
  · skip
    skip
    have hl : a.length = b.length := by have := of_decide_eq_true (by simpa [bne, beq_d] using hc0 : decide ((a.length : Int) = b.length) = true)
                                        omega
    refine awp_skip ?_
    simp only [thenA, inBlockA, reduceIte, Nat.reduceEqDiff, eq_self]
    refine hK1 _ _ ?_
    refine awp_prune [0, 1] ?_
    simp only [prune, List.map_cons, List.map_nil, Go.AM.look, Nat.reduceEqDiff, reduceIte]
    refine awp_seq_k fun K2 hK2 => ?_
    refine awp_sr rfl fun K hK => ?_
    simp -dsimp
    refine hK _ _ ?_; clear hK K
    refine awp_block ?_
    refine awp_prune [0, 1, 5] ?_
    simp only [prune, List.map_cons, List.map_nil, Go.AM.look, Nat.reduceEqDiff, reduceIte]
    refine awp_loop_l [0, 1] (α := Nat) (fun k => [(5, I k)]) (fun _ => []) (fun k => k ≤ a.length ∧ a.take k = b.take k) (fun k => a.length - k) 0 ?_ ?_ ?_
    · exact ⟨Nat.zero_le _, by simp⟩
    · exact sub_same (by simp)
    rintro k ⟨k1, k2⟩
    simp only [List.cons_append, List.nil_append, prune, List.map_cons, List.map_nil, Go.AM.look, Nat.reduceEqDiff, reduceIte]
    refine awp_seq_k fun K3 hK3 => ?_
    refine awp_sr rfl fun K hK => ?_
    simp -dsimp
    refine hK _ _ ?_; clear hK K
    refine awp_cond rfl (fun hc1 => ?_) (fun hc1 => ?_)
    · skip
      try simp at hc1
      obtain ⟨x, hx⟩ : ∃ x, a[k]? = some x := ⟨_, List.getElem?_eq_getElem hc1⟩
      obtain ⟨y, hy⟩ : ∃ y, b[k]? = some y := ⟨_, List.getElem?_eq_getElem (by omega)⟩
      have wk : IntKind.i64.wrap ((k : Int) + 1) = (k : Int) + 1 := wrap_in (by omega) (by omega)
      have hxy : x = y ↔ (x.Green = y.Green ∧ x.Since = y.Since) := by cases x; cases y; simp
      refine awp_skip ?_
      simp only [thenA, inBlockA, reduceIte, Nat.reduceEqDiff, eq_self]
      refine hK3 _ _ ?_
      refine awp_prune [0, 1, 5] ?_
      simp only [prune, List.map_cons, List.map_nil, Go.AM.look, Nat.reduceEqDiff, reduceIte]
      refine awp_seq_k fun K4 hK4 => ?_
      refine awp_block ?_
      refine awp_sd mixed rfl fun K hK => ?_
      simp -dsimp [hx, hy]
      refine hK _ _ _ (by decide +kernel) ?_; clear hK K
      refine awp_cond rfl (fun hc2 => ?_) (fun hc2 => ?_)
      · skip
        try simp [bne, beq_d] at hc2
        refine awp_sr rfl fun K hK => ?_
        simp -dsimp
        refine hK _ _ ?_; clear hK K
        have hne : a ≠ b := by rintro rfl; rw [hx] at hy; simp only [Option.some.injEq] at hy; subst hy; simp at hc2
        exact awp_ret (by simp [hne])
      · skip
        try simp [bne, beq_d] at hc2
        refine awp_skip ?_
        simp only [thenA, inBlockA, reduceIte, Nat.reduceEqDiff, eq_self]
        refine hK4 _ _ ?_
        refine awp_prune [0, 1, 5] ?_
        simp only [prune, List.map_cons, List.map_nil, Go.AM.look, Nat.reduceEqDiff, reduceIte]
        refine awp_r rfl fun K hK => ?_
        simp -dsimp [wk]
        refine hK _ _ ?_; clear hK K
        simp only [thenA, inBlockA, reduceIte, Nat.reduceEqDiff, eq_self]
        have e : x = y := hxy.2 hc2
        exact ⟨k + 1, ⟨by omega, by rw [List.take_add_one, List.take_add_one, hx, hy, k2, e]⟩, by omega, sub_rb [] rfl (by simp) (by simp)⟩
    · skip
      try simp at hc1
      have h1 : a.take k = a := List.take_of_length_le (by omega)
      have h2 : b.take k = b := List.take_of_length_le (by omega)
      refine awp_exit ?_
      simp only [thenA, inBlockA, reduceIte, Nat.reduceEqDiff, eq_self]
      refine hK2 _ _ ?_
      refine awp_prune [] ?_
      simp only [prune, List.map_cons, List.map_nil, Go.AM.look, Nat.reduceEqDiff, reduceIte]
      refine awp_sr rfl fun K hK => ?_
      simp -dsimp
      refine hK _ _ ?_; clear hK K
      exact awp_ret (by rw [h1, h2] at k2; simp [k2])

theorem c_fit (j : Jn) (hs : j.Streams.length ≤ maxLen) (hc : j.Clears.length ≤ maxLen) (hp : j.Phases.length ≤ maxLen) (hl : j.Longest.length ≤ maxLen) (hg : j.Gates.length ≤ maxLen) : ∃ b, PureCall Try.prog 12 [j.av] (Bo b) ∧ (b = true → Fit j) := by
  by_cases hq : (j.Streams.length ≤ 22 ∧ j.Clears.length ≤ 22 ∧ j.Phases.length ≤ 14 ∧ j.Longest.length ≤ 14 ∧ j.Gates.length ≤ 22)
  · refine ⟨(j.Clears.all fun r => decide (r.length ≤ 22)) && j.Phases.all fun r => decide (r.length ≤ 22), ?_, fun h => ?_⟩
    · have q1 := hq.1; have q2 := hq.2.1; have q3 := hq.2.2.1; have q4 := hq.2.2.2.1; have q5 := hq.2.2.2.2
      refine PureCall.of_body Try.func12 rfl (by decide) (by simp [Try.ntmps12]) ?_
      simp only [Try.ntmps12, Try.results12]
      refine awp_sr rfl fun K hK => ?_
      simp -dsimp
      refine hK _ _ ?_; clear hK K
      refine awp_seq_k fun K1 hK1 => ?_
      refine awp_sr rfl fun K hK => ?_
      simp -dsimp
      refine hK _ _ ?_; clear hK K
      refine awp_cond rfl (fun hc0 => ?_) (fun hc0 => ?_)
      · skip
        skip
        exfalso; simp at hc0; omega
      · skip
        skip
        refine awp_skip ?_
        simp only [thenA, inBlockA, reduceIte, Nat.reduceEqDiff, eq_self]
        refine hK1 _ _ ?_
        refine awp_prune [1] ?_
        simp only [prune, List.map_cons, List.map_nil, Go.AM.look, Nat.reduceEqDiff, reduceIte]
        refine awp_seq_k fun K2 hK2 => ?_
        refine awp_sr rfl fun K hK => ?_
        simp -dsimp
        refine hK _ _ ?_; clear hK K
        refine awp_block ?_
        refine awp_prune [1, 3] ?_
        simp only [prune, List.map_cons, List.map_nil, Go.AM.look, Nat.reduceEqDiff, reduceIte]
        refine awp_loop_l [1] (α := Nat) (fun k => [(3, I k)]) (fun _ => [some (.els 6 [j.cells])]) (fun k => k ≤ j.Clears.length ∧ (j.Clears.take k).all (fun r => decide (r.length ≤ 22)) = true) (fun k => j.Clears.length - k) 0 ?_ ?_ ?_
        · exact ⟨Nat.zero_le _, rfl⟩
        · exact sub_same (by simp)
        rintro k ⟨k1, k2⟩
        simp only [List.cons_append, List.nil_append, prune, List.map_cons, List.map_nil, Go.AM.look, Nat.reduceEqDiff, reduceIte]
        refine awp_seq_k fun K3 hK3 => ?_
        refine awp_sr rfl fun K hK => ?_
        simp -dsimp
        refine hK _ _ ?_; clear hK K
        refine awp_cond rfl (fun hc1 => ?_) (fun hc1 => ?_)
        · skip
          try simp at hc1
          obtain ⟨r, hr⟩ : ∃ x, j.Clears[k]? = some x := ⟨_, List.getElem?_eq_getElem hc1⟩
          have wk : IntKind.i64.wrap ((k : Int) + 1) = (k : Int) + 1 := wrap_in (by omega) (by omega)
          refine awp_skip ?_
          simp only [thenA, inBlockA, reduceIte, Nat.reduceEqDiff, eq_self]
          refine hK3 _ _ ?_
          refine awp_prune [1, 3] ?_
          simp only [prune, List.map_cons, List.map_nil, Go.AM.look, Nat.reduceEqDiff, reduceIte]
          refine awp_seq_k fun K4 hK4 => ?_
          refine awp_block ?_
          refine awp_sr rfl fun K hK => ?_
          simp -dsimp [hr]
          refine hK _ _ ?_; clear hK K
          refine awp_cond rfl (fun hc2 => ?_) (fun hc2 => ?_)
          · skip
            try simp at hc2
            refine awp_sr rfl fun K hK => ?_
            simp -dsimp
            refine hK _ _ ?_; clear hK K
            have hff : j.Clears.all (fun r => decide (r.length ≤ 22)) = false := all_ff hr (decide_eq_false (by omega))
            exact awp_ret (by simp [hff])
          · skip
            try simp at hc2
            refine awp_skip ?_
            simp only [thenA, inBlockA, reduceIte, Nat.reduceEqDiff, eq_self]
            refine hK4 _ _ ?_
            refine awp_prune [1, 3] ?_
            simp only [prune, List.map_cons, List.map_nil, Go.AM.look, Nat.reduceEqDiff, reduceIte]
            refine awp_r rfl fun K hK => ?_
            simp -dsimp [wk]
            refine hK _ _ ?_; clear hK K
            simp only [thenA, inBlockA, reduceIte, Nat.reduceEqDiff, eq_self]
            exact ⟨k + 1, ⟨by omega, by rw [take_all' hr, k2, decide_eq_true (by omega : r.length ≤ 22)]; rfl⟩, by omega, sub_rb [some 0] rfl (by simp) (by simp)⟩
        · skip
          try simp at hc1
          have hall := all_of_take (by omega) k2
          refine awp_exit ?_
          simp only [thenA, inBlockA, reduceIte, Nat.reduceEqDiff, eq_self]
          refine hK2 _ _ ?_
          refine awp_prune [1] ?_
          simp only [prune, List.map_cons, List.map_nil, Go.AM.look, Nat.reduceEqDiff, reduceIte]
          refine awp_seq_k fun K5 hK5 => ?_
          refine awp_sr rfl fun K hK => ?_
          simp -dsimp
          refine hK _ _ ?_; clear hK K
          refine awp_block ?_
          refine awp_prune [1, 4] ?_
          simp only [prune, List.map_cons, List.map_nil, Go.AM.look, Nat.reduceEqDiff, reduceIte]
          refine awp_loop_l [1] (α := Nat) (fun k => [(4, I k)]) (fun _ => [some (.els 6 [j.cells])]) (fun k => k ≤ j.Phases.length ∧ (j.Phases.take k).all (fun r => decide (r.length ≤ 22)) = true) (fun k => j.Phases.length - k) 0 ?_ ?_ ?_
          · exact ⟨Nat.zero_le _, rfl⟩
          · exact sub_same (by simp)
          rintro i ⟨i1, i2⟩
          simp only [List.cons_append, List.nil_append, prune, List.map_cons, List.map_nil, Go.AM.look, Nat.reduceEqDiff, reduceIte]
          refine awp_seq_k fun K6 hK6 => ?_
          refine awp_sr rfl fun K hK => ?_
          simp -dsimp
          refine hK _ _ ?_; clear hK K
          refine awp_cond rfl (fun hc3 => ?_) (fun hc3 => ?_)
          · skip
            try simp at hc3
            obtain ⟨r, hr⟩ : ∃ x, j.Phases[i]? = some x := ⟨_, List.getElem?_eq_getElem hc3⟩
            have wi : IntKind.i64.wrap ((i : Int) + 1) = (i : Int) + 1 := wrap_in (by omega) (by omega)
            refine awp_skip ?_
            simp only [thenA, inBlockA, reduceIte, Nat.reduceEqDiff, eq_self]
            refine hK6 _ _ ?_
            refine awp_prune [1, 4] ?_
            simp only [prune, List.map_cons, List.map_nil, Go.AM.look, Nat.reduceEqDiff, reduceIte]
            refine awp_seq_k fun K7 hK7 => ?_
            refine awp_block ?_
            refine awp_sr rfl fun K hK => ?_
            simp -dsimp [hr]
            refine hK _ _ ?_; clear hK K
            refine awp_cond rfl (fun hc4 => ?_) (fun hc4 => ?_)
            · skip
              try simp at hc4
              refine awp_sr rfl fun K hK => ?_
              simp -dsimp
              refine hK _ _ ?_; clear hK K
              have hff : j.Phases.all (fun r => decide (r.length ≤ 22)) = false := all_ff hr (decide_eq_false (by omega))
              exact awp_ret (by simp [hff])
            · skip
              try simp at hc4
              refine awp_skip ?_
              simp only [thenA, inBlockA, reduceIte, Nat.reduceEqDiff, eq_self]
              refine hK7 _ _ ?_
              refine awp_prune [1, 4] ?_
              simp only [prune, List.map_cons, List.map_nil, Go.AM.look, Nat.reduceEqDiff, reduceIte]
              refine awp_r rfl fun K hK => ?_
              simp -dsimp [wi]
              refine hK _ _ ?_; clear hK K
              simp only [thenA, inBlockA, reduceIte, Nat.reduceEqDiff, eq_self]
              exact ⟨i + 1, ⟨by omega, by rw [take_all' hr, i2, decide_eq_true (by omega : r.length ≤ 22)]; rfl⟩, by omega, sub_rb [some 0] rfl (by simp) (by simp)⟩
          · skip
            try simp at hc3
            have hall2 := all_of_take (by omega) i2
            refine awp_exit ?_
            simp only [thenA, inBlockA, reduceIte, Nat.reduceEqDiff, eq_self]
            refine hK5 _ _ ?_
            refine awp_prune [] ?_
            simp only [prune, List.map_cons, List.map_nil, Go.AM.look, Nat.reduceEqDiff, reduceIte]
            refine awp_sr rfl fun K hK => ?_
            simp -dsimp
            refine hK _ _ ?_; clear hK K
            exact awp_ret (by simp [hall, hall2])
    · simp only [Bool.and_eq_true, List.all_eq_true, decide_eq_true_eq] at h
      exact ⟨hq.1, hq.2.1, hq.2.2.1, hq.2.2.2.1, hq.2.2.2.2, h.1, h.2⟩
  · refine ⟨false, ?_, fun h => by cases h⟩
    refine PureCall.of_body Try.func12 rfl (by decide) (by simp [Try.ntmps12]) ?_
    simp only [Try.ntmps12, Try.results12]
    refine awp_sr rfl fun K hK => ?_
    simp -dsimp
    refine hK _ _ ?_; clear hK K
    refine awp_seq_k fun K1 hK1 => ?_
    refine awp_sr rfl fun K hK => ?_
    simp -dsimp
    refine hK _ _ ?_; clear hK K
    refine awp_cond rfl (fun hc0 => ?_) (fun hc0 => ?_)
    · skip
      skip
      refine awp_sr rfl fun K hK => ?_
      simp -dsimp
      refine hK _ _ ?_; clear hK K
      exact awp_ret (by simp)
    · skip
      skip
      exfalso; simp at hc0; omega

/-- A program's numbers. -/
structure PgOk (n : Nat) (p : Pg) : Prop where
  c : inr p.Cycle 1 2000 = true
  b : p.Begins.length = n
  l : p.Lasts.length = n
  a : ∀ a : Nat, a < n → inr (at0 p.Begins a) 0 (p.Cycle - 1) = true ∧ inr (at0 p.Lasts a) 1 p.Cycle = true ∧ (at0 p.Lasts a = p.Cycle → at0 p.Begins a = 0)
open Classical in
theorem c_rProgram (n : Nat) (p : Pg) (hn : n ≤ 1000) : ∃ b, PureCall Try.prog 38 [I n, p.av] (Bo b) ∧ (b = true ↔ PgOk n p) := by
  refine ⟨decide (PgOk n p), ?_, decide_eq_true_iff⟩
  have bad : ¬ PgOk n p → (Bo false) = Bo (decide (PgOk n p)) := fun h => by rw [decide_eq_false h]
  refine PureCall.of_body Try.func38 rfl (by decide) (by simp [Try.ntmps38]) ?_
  simp only [Try.ntmps38, Try.results38]
  refine awp_sr rfl fun K hK => ?_
  simp -dsimp
  refine hK _ _ ?_; clear hK K
  refine awp_seq_k fun K1 hK1 => ?_
  refine awp_sr rfl fun K hK => ?_
  simp -dsimp
  refine callK_intro _ (c_rin _ _ _) (by simp) ?_
  simp -dsimp
  refine hK _ _ ?_; clear hK K
  refine awp_cond rfl (fun hc0 => ?_) (fun hc0 => ?_)
  · skip
    skip
    refine awp_sr rfl fun K hK => ?_
    simp -dsimp
    refine hK _ _ ?_; clear hK K
    have hb : decide (PgOk n p) = false := by
      refine decide_eq_false fun h => ?_
      simp [h.c, h.b, h.l] at hc0
    exact awp_ret (by simp [hb])
  · skip
    skip
    simp at hc0
    obtain ⟨⟨hC, hB⟩, hL⟩ := hc0
    have hCr := inr_iff.1 hC
    have wC : IntKind.i64.wrap (p.Cycle - 1) = p.Cycle - 1 := wrap_in (by omega) (by omega)
    refine awp_skip ?_
    simp only [thenA, inBlockA, reduceIte, Nat.reduceEqDiff, eq_self]
    refine hK1 _ _ ?_
    refine awp_prune [0, 3] ?_
    simp only [prune, List.map_cons, List.map_nil, Go.AM.look, Nat.reduceEqDiff, reduceIte]
    refine awp_seq_k fun K2 hK2 => ?_
    refine awp_sr rfl fun K hK => ?_
    simp -dsimp
    refine hK _ _ ?_; clear hK K
    refine awp_block ?_
    refine awp_prune [0, 3, 5] ?_
    simp only [prune, List.map_cons, List.map_nil, Go.AM.look, Nat.reduceEqDiff, reduceIte]
    refine awp_loop_l [0, 3] (α := Nat) (fun k => [(5, I k)]) (fun _ => [some (.els 3 [p.cells])]) (fun k => k ≤ n ∧ ∀ a : Nat, a < k → inr (at0 p.Begins a) 0 (p.Cycle - 1) = true ∧ inr (at0 p.Lasts a) 1 p.Cycle = true ∧ (at0 p.Lasts a = p.Cycle → at0 p.Begins a = 0)) (fun k => n - k) 0 ?_ ?_ ?_
    · exact ⟨Nat.zero_le _, fun a h => by omega⟩
    · exact sub_same (by simp)
    rintro k ⟨k1, k2⟩
    simp only [List.cons_append, List.nil_append, prune, List.map_cons, List.map_nil, Go.AM.look, Nat.reduceEqDiff, reduceIte]
    refine awp_seq_k fun K3 hK3 => ?_
    refine awp_sr rfl fun K hK => ?_
    simp -dsimp
    refine hK _ _ ?_; clear hK K
    refine awp_cond rfl (fun hc1 => ?_) (fun hc1 => ?_)
    · skip
      try simp at hc1
      have gb := at0_nat (l := p.Begins) (k := k) (by omega)
      have gl := at0_nat (l := p.Lasts) (k := k) (by omega)
      have wk : IntKind.i64.wrap ((k : Int) + 1) = (k : Int) + 1 := wrap_in (by omega) (by omega)
      have hkB : k < p.Begins.length := by omega
      have hkL : k < p.Lasts.length := by omega
      refine awp_skip ?_
      simp only [thenA, inBlockA, reduceIte, Nat.reduceEqDiff, eq_self]
      refine hK3 _ _ ?_
      refine awp_prune [0, 3, 5] ?_
      simp only [prune, List.map_cons, List.map_nil, Go.AM.look, Nat.reduceEqDiff, reduceIte]
      refine awp_seq_k fun K4 hK4 => ?_
      refine awp_block ?_
      refine awp_sd mixed rfl fun K hK => ?_
      simp -dsimp [gb, gl, wC]
      refine callK_intro _ (c_rin _ _ _) (by simp) ?_
      simp -dsimp [gb, gl, wC]
      refine idxK_intro (nCell (at0 p.Lasts k)) (fun _ => by simp [gl]) ?_
      simp -dsimp [gb, gl, wC]
      refine callK_may _ (fun hm => c_rin _ _ _) (by simp) ?_
      simp -dsimp [gb, gl, wC]
      refine idxK_intro (nCell (at0 p.Lasts k)) (fun _ => by simp [gl]) ?_
      simp -dsimp [gb, gl, wC]
      refine idxK_intro (nCell (at0 p.Begins k)) (fun _ => by simp [gb]) ?_
      simp -dsimp [gb, gl, wC]
      refine hK _ _ _ (by decide +kernel) ?_; clear hK K
      refine awp_cond rfl (fun hc2 => ?_) (fun hc2 => ?_)
      · skip
        skip
        refine awp_sr rfl fun K hK => ?_
        simp -dsimp
        refine hK _ _ ?_; clear hK K
        have hb : decide (PgOk n p) = false := by
          refine decide_eq_false fun h => ?_
          obtain ⟨q1, q2, q3⟩ := h.a k (by omega)
          simp [q1, q2] at hc2
          exact hc2.2 (q3 hc2.1)
        exact awp_ret (by simp [hb])
      · skip
        skip
        refine awp_skip ?_
        simp only [thenA, inBlockA, reduceIte, Nat.reduceEqDiff, eq_self]
        refine hK4 _ _ ?_
        refine awp_prune [0, 3, 5] ?_
        simp only [prune, List.map_cons, List.map_nil, Go.AM.look, Nat.reduceEqDiff, reduceIte]
        refine awp_r rfl fun K hK => ?_
        simp -dsimp [wk]
        refine hK _ _ ?_; clear hK K
        simp only [thenA, inBlockA, reduceIte, Nat.reduceEqDiff, eq_self]
        refine ⟨k + 1, ⟨by omega, fun a h => ?_⟩, by omega, sub_rb [some 0] rfl (by simp) (by simp)⟩
        rcases Nat.lt_succ_iff_lt_or_eq.1 h with h | rfl
        · exact k2 a h
        · simp at hc2; exact ⟨hc2.1.1, hc2.1.2, hc2.2⟩
    · skip
      try simp at hc1
      refine awp_exit ?_
      simp only [thenA, inBlockA, reduceIte, Nat.reduceEqDiff, eq_self]
      refine hK2 _ _ ?_
      refine awp_prune [] ?_
      simp only [prune, List.map_cons, List.map_nil, Go.AM.look, Nat.reduceEqDiff, reduceIte]
      refine awp_sr rfl fun K hK => ?_
      simp -dsimp
      refine hK _ _ ?_; clear hK K
      have hb : decide (PgOk n p) = true := decide_eq_true ⟨hC, by omega, by omega, fun a ha => k2 a (by omega)⟩
      exact awp_ret (by simp [hb])
end Go.Street
