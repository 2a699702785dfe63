/- Walks: the law of what is endless. -/
import Derived.Test.YtdabjdajemiagaaGreatQ3
import Derived.Test.YtdabjdajemiagaaGreatP4
namespace Go.Tram
open Go.AM Go.Proofs
set_option maxRecDepth 100000
set_option maxHeartbeats 4000000
set_option linter.unusedVariables false
set_option linter.unusedSimpArgs false

theorem endL_len (p : Plan) : (endL p).length = 2 * p.Rails.length := by simp [endL]
theorem c_TrackEndless_a (p : Plan) (r : Int) (hf : p.Fit) (hv : validB p = false) : PureCall Tryz.prog 9 [p.av, I r] (Bo true) := by
  have hs := c_small p hf
  have hva := c_Valid p
  rw [hv] at hva
  generalize smallB p = s at hs
  refine PureCall.of_body Tryz.func9 rfl (by decide) (by simp [Tryz.ntmps9]) ?_
  simp only [Tryz.ntmps9, Tryz.results9]
  refine awp_sr rfl fun K hK => ?_
  simp -dsimp
  refine hK _ _ ?_; clear hK K
  refine awp_seq_k fun K1 hK1 => ?_
  refine awp_sr rfl fun K hK => ?_
  simp -dsimp
  refine callK_intro _ (hs) (by simp) ?_
  simp -dsimp
  refine callK_may _ (fun hm => hva) (by simp) ?_
  simp -dsimp
  refine hK _ _ ?_; clear hK K
  refine awp_cond rfl (fun hc0 => ?_) (fun hc0 => ?_)
  · skip
    skip
    refine awp_sr rfl fun K hK => ?_
    simp -dsimp
    refine callK_intro _ (c_known1) (by simp) ?_
    simp -dsimp
    refine hK _ _ ?_; clear hK K
    exact awp_ret (by simp)
  · skip
    skip
    simp at hc0
theorem c_TrackEndless_m (p : Plan) (r : Int) (hf : p.Fit) (hv : validB p = true) (h : inr r 0 (p.Rails.length - 1) = false) : PureCall Tryz.prog 9 [p.av, I r] (Bo true) := by
  have hR := (valid_parts hv).2.1
  have hs := c_small p hf
  have hva := c_Valid p
  rw [hv] at hva
  generalize smallB p = s at hs
  have h1 := c_tEndless_t p hv
  have h2 : PureCall Tryz.prog 38 [p.av, I r] (.tup [Bo false, I 2]) := c_tTurns_m p r hv h
  have h3 := c_rEndless p hv
  have h4 := c_rTurns p r hv
  have hel := endL_len p
  generalize turnB p r = T at h2 h4
  generalize endL p = E at h1 h3 hel
  have hin : inr r 0 (p.Rails.length - 1) = true ↔ 0 ≤ r ∧ r < p.Rails.length := by rw [inr_iff]; omega
  have hni : ¬ (0 ≤ r ∧ r < p.Rails.length) := fun g => absurd (hin.2 g) (by simp [h])
  refine PureCall.of_body Tryz.func9 rfl (by decide) (by simp [Tryz.ntmps9]) ?_
  simp only [Tryz.ntmps9, Tryz.results9]
  refine awp_sr rfl fun K hK => ?_
  simp -dsimp
  refine hK _ _ ?_; clear hK K
  refine awp_seq_k fun K1 hK1 => ?_
  refine awp_sr rfl fun K hK => ?_
  simp -dsimp
  refine callK_intro _ (hs) (by simp) ?_
  simp -dsimp
  refine callK_may _ (fun hm => hva) (by simp) ?_
  simp -dsimp
  refine hK _ _ ?_; clear hK K
  refine awp_cond rfl (fun hc0 => ?_) (fun hc0 => ?_)
  · skip
    skip
    refine awp_sr rfl fun K hK => ?_
    simp -dsimp
    refine callK_intro _ (c_known1) (by simp) ?_
    simp -dsimp
    refine hK _ _ ?_; clear hK K
    exact awp_ret (by simp)
  · skip
    skip
    refine awp_skip ?_
    simp only [thenA, inBlockA, reduceIte, Nat.reduceEqDiff, eq_self]
    refine hK1 _ _ ?_
    refine awp_prune [1, 2] ?_
    simp only [prune, List.map_cons, List.map_nil, Go.AM.look, Nat.reduceEqDiff, reduceIte]
    refine awp_sr rfl fun K hK => ?_
    simp -dsimp
    refine callK_intro _ (h1) (by simp) ?_
    simp -dsimp
    refine hK _ _ ?_; clear hK K
    refine awp_sr rfl fun K hK => ?_
    simp -dsimp
    refine callK_intro _ (h2) (by simp) ?_
    simp -dsimp
    refine hK _ _ ?_; clear hK K
    refine awp_sr rfl fun K hK => ?_
    simp -dsimp
    refine callK_intro _ (h3) (by simp) ?_
    simp -dsimp
    refine hK _ _ ?_; clear hK K
    refine awp_seq_k fun K2 hK2 => ?_
    refine awp_sr rfl fun K hK => ?_
    simp -dsimp
    refine hK _ _ ?_; clear hK K
    refine awp_cond rfl (fun hc1 => ?_) (fun hc1 => ?_)
    · skip
      skip
      simp at hc1
    · skip
      skip
      refine awp_skip ?_
      simp only [thenA, inBlockA, reduceIte, Nat.reduceEqDiff, eq_self]
      refine hK2 _ _ ?_
      refine awp_prune [1, 2, 5, 7, 8, 9] ?_
      simp only [prune, List.map_cons, List.map_nil, Go.AM.look, Nat.reduceEqDiff, reduceIte]
      refine awp_seq_k fun K3 hK3 => ?_
      refine awp_sr rfl fun K hK => ?_
      simp -dsimp
      refine hK _ _ ?_; clear hK K
      refine awp_block ?_
      refine awp_prune [1, 2, 5, 7, 8, 9, 10] ?_
      simp only [prune, List.map_cons, List.map_nil, Go.AM.look, Nat.reduceEqDiff, reduceIte]
      refine awp_loop_l [1, 2, 5, 7, 8, 9] (α := Nat) (fun i => [(10, I i)]) (fun i => [some (.els 2 [p.cells])]) (fun i => i ≤ E.length) (fun i => E.length - i) 0 ?_ ?_ ?_
      · simp
      · exact sub_same (by simp)
      rintro i i1
      simp only [List.cons_append, List.nil_append, prune, List.map_cons, List.map_nil, Go.AM.look, Nat.reduceEqDiff, reduceIte]
      refine awp_seq_k fun K4 hK4 => ?_
      refine awp_sr rfl fun K hK => ?_
      simp -dsimp
      refine hK _ _ ?_; clear hK K
      refine awp_cond rfl (fun hc2 => ?_) (fun hc2 => ?_)
      · skip
        skip
        have hi : i < E.length := by simpa using hc2
        obtain ⟨x, hx⟩ : ∃ x, E[i]? = some x := ⟨_, List.getElem?_eq_getElem hi⟩
        have wi : IntKind.i64.wrap ((i : Int) + 1) = (i : Int) + 1 := wrap_in (by omega) (by omega)
        refine awp_skip ?_
        simp only [thenA, inBlockA, reduceIte, Nat.reduceEqDiff, eq_self]
        refine hK4 _ _ ?_
        refine awp_prune [1, 2, 5, 7, 8, 9, 10] ?_
        simp only [prune, List.map_cons, List.map_nil, Go.AM.look, Nat.reduceEqDiff, reduceIte]
        refine awp_seq_k fun K5 hK5 => ?_
        refine awp_block ?_
        refine awp_sd mixed rfl fun K hK => ?_
        simp -dsimp [hx]
        refine ⟨fun w => ne_guard1 _ _ _ _ _ w und_bool1, .bool false, fun w => by rw [ne_bool1 _ _ _ w kt_bool1]; simp, ?_⟩
        refine hK _ _ _ (by decide +kernel) ?_; clear hK K
        refine awp_cond rfl (fun hc3 => ?_) (fun hc3 => ?_)
        · skip
          skip
          simp at hc3
        · skip
          skip
          refine awp_skip ?_
          simp only [thenA, inBlockA, reduceIte, Nat.reduceEqDiff, eq_self]
          refine hK5 _ _ ?_
          refine awp_prune [1, 2, 5, 7, 8, 9, 10] ?_
          simp only [prune, List.map_cons, List.map_nil, Go.AM.look, Nat.reduceEqDiff, reduceIte]
          refine awp_r rfl fun K hK => ?_
          simp -dsimp [wi]
          refine hK _ _ ?_; clear hK K
          simp only [thenA, inBlockA, reduceIte, Nat.reduceEqDiff, eq_self]
          exact ⟨i + 1, by omega, by omega, sub_same (by simp)⟩
      · skip
        skip
        refine awp_exit ?_
        simp only [thenA, inBlockA, reduceIte, Nat.reduceEqDiff, eq_self]
        refine hK3 _ _ ?_
        refine awp_prune [1, 2, 7, 8] ?_
        simp only [prune, List.map_cons, List.map_nil, Go.AM.look, Nat.reduceEqDiff, reduceIte]
        refine awp_seq_k fun K6 hK6 => ?_
        refine awp_sr rfl fun K hK => ?_
        simp -dsimp
        refine hK _ _ ?_; clear hK K
        refine awp_cond rfl (fun hc4 => ?_) (fun hc4 => ?_)
        · skip
          skip
          refine awp_sr rfl fun K hK => ?_
          simp -dsimp
          refine callK_may _ (fun hm => c_known1) (by simp) ?_
          simp -dsimp
          refine hK _ _ ?_; clear hK K
          exact awp_ret (by simp)
        · skip
          skip
          exfalso; simp at hc4; omega
theorem c_TrackEndless_t (p : Plan) (r : Int) (hf : p.Fit) (hv : validB p = true) (h : inr r 0 (p.Rails.length - 1) = true) : PureCall Tryz.prog 9 [p.av, I r] (Bo true) := by
  have hR := (valid_parts hv).2.1
  have hs := c_small p hf
  have hva := c_Valid p
  rw [hv] at hva
  generalize smallB p = s at hs
  have h1 := c_tEndless_t p hv
  have h2 : PureCall Tryz.prog 38 [p.av, I r] (.tup [Bo (turnB p r), I 0]) := c_tTurns_t p r hv h
  have h3 := c_rEndless p hv
  have h4 := c_rTurns p r hv
  have hel := endL_len p
  generalize turnB p r = T at h2 h4
  generalize endL p = E at h1 h3 hel
  have hin : inr r 0 (p.Rails.length - 1) = true ↔ 0 ≤ r ∧ r < p.Rails.length := by rw [inr_iff]; omega
  have hni : 0 ≤ r ∧ r < p.Rails.length := hin.1 h
  refine PureCall.of_body Tryz.func9 rfl (by decide) (by simp [Tryz.ntmps9]) ?_
  simp only [Tryz.ntmps9, Tryz.results9]
  refine awp_sr rfl fun K hK => ?_
  simp -dsimp
  refine hK _ _ ?_; clear hK K
  refine awp_seq_k fun K1 hK1 => ?_
  refine awp_sr rfl fun K hK => ?_
  simp -dsimp
  refine callK_intro _ (hs) (by simp) ?_
  simp -dsimp
  refine callK_may _ (fun hm => hva) (by simp) ?_
  simp -dsimp
  refine hK _ _ ?_; clear hK K
  refine awp_cond rfl (fun hc0 => ?_) (fun hc0 => ?_)
  · skip
    skip
    refine awp_sr rfl fun K hK => ?_
    simp -dsimp
    refine callK_intro _ (c_known1) (by simp) ?_
    simp -dsimp
    refine hK _ _ ?_; clear hK K
    exact awp_ret (by simp)
  · skip
    skip
    refine awp_skip ?_
    simp only [thenA, inBlockA, reduceIte, Nat.reduceEqDiff, eq_self]
    refine hK1 _ _ ?_
    refine awp_prune [1, 2] ?_
    simp only [prune, List.map_cons, List.map_nil, Go.AM.look, Nat.reduceEqDiff, reduceIte]
    refine awp_sr rfl fun K hK => ?_
    simp -dsimp
    refine callK_intro _ (h1) (by simp) ?_
    simp -dsimp
    refine hK _ _ ?_; clear hK K
    refine awp_sr rfl fun K hK => ?_
    simp -dsimp
    refine callK_intro _ (h2) (by simp) ?_
    simp -dsimp
    refine hK _ _ ?_; clear hK K
    refine awp_sr rfl fun K hK => ?_
    simp -dsimp
    refine callK_intro _ (h3) (by simp) ?_
    simp -dsimp
    refine hK _ _ ?_; clear hK K
    refine awp_seq_k fun K2 hK2 => ?_
    refine awp_sr rfl fun K hK => ?_
    simp -dsimp
    refine hK _ _ ?_; clear hK K
    refine awp_cond rfl (fun hc1 => ?_) (fun hc1 => ?_)
    · skip
      skip
      simp at hc1
    · skip
      skip
      refine awp_skip ?_
      simp only [thenA, inBlockA, reduceIte, Nat.reduceEqDiff, eq_self]
      refine hK2 _ _ ?_
      refine awp_prune [1, 2, 5, 7, 8, 9] ?_
      simp only [prune, List.map_cons, List.map_nil, Go.AM.look, Nat.reduceEqDiff, reduceIte]
      refine awp_seq_k fun K3 hK3 => ?_
      refine awp_sr rfl fun K hK => ?_
      simp -dsimp
      refine hK _ _ ?_; clear hK K
      refine awp_block ?_
      refine awp_prune [1, 2, 5, 7, 8, 9, 10] ?_
      simp only [prune, List.map_cons, List.map_nil, Go.AM.look, Nat.reduceEqDiff, reduceIte]
      refine awp_loop_l [1, 2, 5, 7, 8, 9] (α := Nat) (fun i => [(10, I i)]) (fun i => [some (.els 2 [p.cells])]) (fun i => i ≤ E.length) (fun i => E.length - i) 0 ?_ ?_ ?_
      · simp
      · exact sub_same (by simp)
      rintro i i1
      simp only [List.cons_append, List.nil_append, prune, List.map_cons, List.map_nil, Go.AM.look, Nat.reduceEqDiff, reduceIte]
      refine awp_seq_k fun K4 hK4 => ?_
      refine awp_sr rfl fun K hK => ?_
      simp -dsimp
      refine hK _ _ ?_; clear hK K
      refine awp_cond rfl (fun hc2 => ?_) (fun hc2 => ?_)
      · skip
        skip
        have hi : i < E.length := by simpa using hc2
        obtain ⟨x, hx⟩ : ∃ x, E[i]? = some x := ⟨_, List.getElem?_eq_getElem hi⟩
        have wi : IntKind.i64.wrap ((i : Int) + 1) = (i : Int) + 1 := wrap_in (by omega) (by omega)
        refine awp_skip ?_
        simp only [thenA, inBlockA, reduceIte, Nat.reduceEqDiff, eq_self]
        refine hK4 _ _ ?_
        refine awp_prune [1, 2, 5, 7, 8, 9, 10] ?_
        simp only [prune, List.map_cons, List.map_nil, Go.AM.look, Nat.reduceEqDiff, reduceIte]
        refine awp_seq_k fun K5 hK5 => ?_
        refine awp_block ?_
        refine awp_sd mixed rfl fun K hK => ?_
        simp -dsimp [hx]
        refine ⟨fun w => ne_guard1 _ _ _ _ _ w und_bool1, .bool false, fun w => by rw [ne_bool1 _ _ _ w kt_bool1]; simp, ?_⟩
        refine hK _ _ _ (by decide +kernel) ?_; clear hK K
        refine awp_cond rfl (fun hc3 => ?_) (fun hc3 => ?_)
        · skip
          skip
          simp at hc3
        · skip
          skip
          refine awp_skip ?_
          simp only [thenA, inBlockA, reduceIte, Nat.reduceEqDiff, eq_self]
          refine hK5 _ _ ?_
          refine awp_prune [1, 2, 5, 7, 8, 9, 10] ?_
          simp only [prune, List.map_cons, List.map_nil, Go.AM.look, Nat.reduceEqDiff, reduceIte]
          refine awp_r rfl fun K hK => ?_
          simp -dsimp [wi]
          refine hK _ _ ?_; clear hK K
          simp only [thenA, inBlockA, reduceIte, Nat.reduceEqDiff, eq_self]
          exact ⟨i + 1, by omega, by omega, sub_same (by simp)⟩
      · skip
        skip
        refine awp_exit ?_
        simp only [thenA, inBlockA, reduceIte, Nat.reduceEqDiff, eq_self]
        refine hK3 _ _ ?_
        refine awp_prune [1, 2, 7, 8] ?_
        simp only [prune, List.map_cons, List.map_nil, Go.AM.look, Nat.reduceEqDiff, reduceIte]
        refine awp_seq_k fun K6 hK6 => ?_
        refine awp_sr rfl fun K hK => ?_
        simp -dsimp
        refine hK _ _ ?_; clear hK K
        refine awp_cond rfl (fun hc4 => ?_) (fun hc4 => ?_)
        · skip
          skip
          exfalso; simp at hc4; omega
        · skip
          skip
          refine awp_skip ?_
          simp only [thenA, inBlockA, reduceIte, Nat.reduceEqDiff, eq_self]
          refine hK6 _ _ ?_
          refine awp_prune [1, 2, 7, 8] ?_
          simp only [prune, List.map_cons, List.map_nil, Go.AM.look, Nat.reduceEqDiff, reduceIte]
          refine awp_sr rfl fun K hK => ?_
          simp -dsimp
          refine callK_may _ (fun hm => h4 (hin.2 (by simp at hc4; omega))) (by simp) ?_
          simp -dsimp
          refine ⟨fun w => (eq_bool1 _ _ _ _ _ w und_bool1 kt_bool1).1, .bool true, fun w => by rw [(eq_bool1 _ (.tmp 0) (.tmp 0) _ _ w und_bool1 kt_bool1).2]; simp, ?_⟩
          try simp -dsimp
          refine callK_may _ (fun hm => c_known1) (by simp) ?_
          simp -dsimp
          refine hK _ _ ?_; clear hK K
          exact awp_ret (by simp)
theorem c_TrackEndless (p : Plan) (r : Int) (hf : p.Fit) : PureCall Tryz.prog 9 [p.av, I r] (Bo true) := by
  cases hv : validB p with
  | false => exact c_TrackEndless_a p r hf hv
  | true =>
    cases h : inr r 0 (p.Rails.length - 1) with
    | false => exact c_TrackEndless_m p r hf hv h
    | true => exact c_TrackEndless_t p r hf hv h
end Go.Tram
