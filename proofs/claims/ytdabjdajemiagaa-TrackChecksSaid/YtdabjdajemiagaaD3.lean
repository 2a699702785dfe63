/- Walks: the moves that a move follows, and the distances to a move. -/
import Derived.Test.YtdabjdajemiagaaD2
import Derived.Test.YtdabjdajemiagaaY3
namespace Go.Tram
open Go.AM Go.Proofs
set_option maxRecDepth 10000
set_option maxHeartbeats 4000000
set_option linter.unusedVariables false
set_option linter.unusedSimpArgs false

theorem filter_at (f : Nat → Bool) {n j : Nat} (h : j < n) (hf : f j = true) : ((List.range n).filter f)[((List.range j).filter f).length]? = some j := by
  obtain ⟨m, rfl⟩ : ∃ m, n = j + (m + 1) := ⟨n - j - 1, by omega⟩
  rw [List.range_add, List.filter_append, List.getElem?_append_right (Nat.le_refl _), Nat.sub_self, List.range_succ_eq_map]
  simp [hf]
def befB (p : Plan) (x : Int) (k : Nat) : Bool := follB p (moveM k) (moveM x)
def befN (p : Plan) (x : Int) (j : Nat) : List Nat := (List.range j).filter (befB p x)
/-- The moves that a move follows, by their numbers. -/
def befL (p : Plan) (x : Int) : List Nat := befN p x (2 * p.Rails.length)
@[simp] theorem befN_zero (p : Plan) (x : Int) : befN p x 0 = [] := rfl
theorem befN_succ (p : Plan) (x : Int) (j : Nat) : befN p x (j + 1) = befN p x j ++ if befB p x j then [j] else [] := by
  unfold befN
  rw [List.range_succ, List.filter_append]
  cases h : befB p x j <;> simp [h]
theorem befN_len (p : Plan) (x : Int) (j : Nat) : (befN p x j).length ≤ j := by
  unfold befN; have := List.length_filter_le (befB p x) (List.range j); simpa using this
theorem moveM_ok {p : Plan} {j : Nat} (h : j < 2 * p.Rails.length) : movB p (moveM j) = true := by
  rw [movB_iff]; simp only [moveM]; omega

theorem c_before1 (p : Plan) (x : Int) (hv : validB p = true) (h0 : 0 ≤ x) (h1 : x ≤ 100000) : IterCall Try.prog 71 [.iptr [.iptr (net p)], .iptr [I x]] ((befL p x).map fun (k : Nat) => [I k]) := by
  have hfol := fun m k => c_follows p m k hv
  have hR := (valid_parts hv).2.1
  have w0 : IntKind.i64.wrap (2 * (p.Rails.length : Int)) = 2 * (p.Rails.length : Int) := wrap_in (by omega) (by omega)
  unfold net at hfol ⊢
  refine IterCall.of_body Try.func71 rfl (by decide) (by simp [Try.ntmps71]) (by simp [Try.ntmps71]) (by simp [Try.results71]) ?_
  intro J l hmk hY
  simp only [Try.ntmps71, Try.results71]
  refine gwp_sr rfl (by decide) rfl rfl fun K hK => ?_
  simp -dsimp [w0]
  refine hK _ _ ?_; clear hK K
  refine gwp_block ?_
  refine gwp_prune [0, 1, 2, 11, 12, 999999] (Or.inl (by decide)) ?_
  simp only [prune, List.map_cons, List.map_nil, Go.AM.look, Nat.reduceEqDiff, reduceIte]
  refine gwp_loop_l [0, 1, 2, 11] (α := Nat) (fun j => [(12, I j), (999999, cntV (befN p x j).length)]) (fun j => []) (fun j => j ≤ 2 * p.Rails.length) (fun j => 2 * p.Rails.length - j) 0 ?_ ?_ ?_
  · simp
  · exact gsub (sub_same (by simp)) (by simp)
  rintro j j1
  have hsu := befN_succ p x j
  have hlj := befN_len p x j
  have wj : IntKind.i64.wrap ((j : Int) + 1) = (j : Int) + 1 := wrap_in (by omega) (by omega)
  simp only [List.cons_append, List.nil_append, prune, List.map_cons, List.map_nil, Go.AM.look, Nat.reduceEqDiff, reduceIte]
  refine gwp_sr rfl (by decide) rfl rfl fun K hK => ?_
  simp -dsimp
  refine hK _ _ ?_; clear hK K
  refine gwp_seq_k fun K1 hK1 => ?_
  refine gwp_cond rfl (fun hc0 => ?_) (fun hc0 => ?_)
  · skip
    try simp at hc0
    have hj : j < 2 * p.Rails.length := by omega
    refine gwp_skip ?_
    simp only [thenA, inBlockA, reduceIte, Nat.reduceEqDiff, eq_self]
    refine hK1 _ _ ?_
    refine gwp_prune [0, 1, 2, 11, 12, 999999] (Or.inl (by decide)) ?_
    simp only [prune, List.map_cons, List.map_nil, Go.AM.look, Nat.reduceEqDiff, reduceIte]
    refine gwp_seq_k fun K2 hK2 => ?_
    refine gwp_block ?_
    refine gwp_sr rfl (by decide) rfl rfl fun K hK => ?_
    simp -dsimp
    refine hK _ _ ?_; clear hK K
    have hat : befB p x j = true → (befL p x)[(befN p x j).length]? = some j := fun h => filter_at (befB p x) hj h
    have hfj := hfol (moveM j) (moveM x) (moveM_ok hj)
    have hbj : befB p x j = follB p (moveM j) (moveM x) := rfl
    rcases Bool.eq_false_or_eq_true (follB p (moveM j) (moveM x)) with hf | hf <;> rw [hf] at hfj hbj <;> rw [hbj] at hsu
    · skip
      refine gwp_sdy 9 mixed hmk hY rfl (by decide) rfl rfl rfl (by decide +kernel) fun K hK K1 hK1 => ?_
      simp -dsimp
      refine callK_intro _ (c_move j (by omega) (by omega)) (by simp) ?_
      simp -dsimp
      refine callK_intro _ (c_move x h0 (by omega)) (by simp) ?_
      simp -dsimp
      refine callK_intro _ (hfj) (by simp) ?_
      simp -dsimp
      refine hK1 _ _ _ (by decide +kernel) ?_; clear hK1 K1
      simp -dsimp
      refine yK_intro (by rw [List.getElem?_map, hat hbj]; rfl) ?_ ?_
      · refine hK _ _ ?_; clear hK K
        refine gwp_cond rfl (fun hc1 => ?_) (fun hc1 => ?_)
        · skip
          skip
          simp at hc1
        · skip
          skip
          refine gwp_skip ?_
          simp only [thenA, inBlockA, reduceIte, Nat.reduceEqDiff, eq_self]
          refine hK2 _ _ ?_
          refine gwp_prune [0, 1, 2, 11, 12, 999999] (Or.inl (by decide)) ?_
          simp only [prune, List.map_cons, List.map_nil, Go.AM.look, Nat.reduceEqDiff, reduceIte]
          refine gwp_r rfl (by decide) rfl rfl fun K hK => ?_
          simp -dsimp [wj]
          refine hK _ _ ?_; clear hK K
          simp only [thenA, inBlockA, reduceIte, Nat.reduceEqDiff, eq_self]
          exact ⟨j + 1, by omega, by omega, gsub (sub_rb [] rfl (by simp [hsu]) (by simp [hsu])) (by simp [hsu])⟩
      · refine hK _ _ ?_; clear hK K
        refine gwp_cond rfl (fun hc1 => ?_) (fun hc1 => ?_)
        · skip
          skip
          exact gwp_ret (by simp)
        · skip
          skip
          simp at hc1
    · skip
      refine gwp_sdy 9 mixed hmk hY rfl (by decide) rfl rfl rfl (by decide +kernel) fun K hK K1 hK1 => ?_
      simp -dsimp
      refine callK_intro _ (c_move j (by omega) (by omega)) (by simp) ?_
      simp -dsimp
      refine callK_intro _ (c_move x h0 (by omega)) (by simp) ?_
      simp -dsimp
      refine callK_intro _ (hfj) (by simp) ?_
      simp -dsimp
      refine hK1 _ _ _ (by decide +kernel) ?_; clear hK1 K1
      simp -dsimp
      refine hK _ _ ?_; clear hK K
      refine gwp_cond rfl (fun hc1 => ?_) (fun hc1 => ?_)
      · skip
        skip
        simp at hc1
      · skip
        skip
        refine gwp_skip ?_
        simp only [thenA, inBlockA, reduceIte, Nat.reduceEqDiff, eq_self]
        refine hK2 _ _ ?_
        refine gwp_prune [0, 1, 2, 11, 12, 999999] (Or.inl (by decide)) ?_
        simp only [prune, List.map_cons, List.map_nil, Go.AM.look, Nat.reduceEqDiff, reduceIte]
        refine gwp_r rfl (by decide) rfl rfl fun K hK => ?_
        simp -dsimp [wj]
        refine hK _ _ ?_; clear hK K
        simp only [thenA, inBlockA, reduceIte, Nat.reduceEqDiff, eq_self]
        exact ⟨j + 1, by omega, by omega, gsub (sub_rb [] rfl (by simp [hsu]) (by simp [hsu])) (by simp [hsu])⟩
  · skip
    try simp at hc0
    have hje : j = 2 * p.Rails.length := by omega
    subst hje
    refine gwp_exit ?_
    try simp only [thenA, inBlockA, reduceIte, Nat.reduceEqDiff, eq_self]
    simp [befL]
end Go.Tram
