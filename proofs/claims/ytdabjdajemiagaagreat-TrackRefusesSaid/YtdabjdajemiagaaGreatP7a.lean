/- Walks: what is a way, as the document has it. -/
import Derived.Test.YtdabjdajemiagaaGreatP6
namespace Go.Tram
open Go.AM Go.Proofs
set_option maxRecDepth 10000
set_option maxHeartbeats 4000000
set_option linter.unusedVariables false
set_option linter.unusedSimpArgs false

theorem c_rWay (p : Plan) (l : List Move) (hv : validB p = true) (hn : l.length ≤ 100000) : PureCall Tryz.prog 25 [p.av, mLst l] (Bo (wayB p l)) := by
  have hR := (valid_parts hv).2.1
  have hmo := fun m => c_rMove p m (by omega)
  have hfol : ∀ m k, movB p m = true → movB p k = true → PureCall Tryz.prog 20 [p.av, m.av, k.av] (Bo (follB p m k)) := fun m k h1 h2 => by rw [foll_eq hv h1 h2]; exact c_rFollows p m k hv h1
  refine PureCall.of_body Tryz.func25 rfl (by decide) (by simp [Tryz.ntmps25]) ?_
  simp only [Tryz.ntmps25, Tryz.results25]
  refine awp_sr rfl fun K hK => ?_
  simp -dsimp
  refine hK _ _ ?_; clear hK K
  refine awp_seq_k fun K1 hK1 => ?_
  refine awp_sr rfl fun K hK => ?_
  simp -dsimp
  refine hK _ _ ?_; clear hK K
  refine awp_block ?_
  refine awp_prune [1, 2, 5] ?_
  simp only [prune, List.map_cons, List.map_nil, Go.AM.look, Nat.reduceEqDiff, reduceIte]
  refine awp_loop_l [1, 2] (α := Nat) (fun i => [(5, I i)]) (fun i => [some (.els 2 [p.cells])]) (fun i => i ≤ l.length ∧ (List.range i).all (stepB p l) = true) (fun i => l.length - i) 0 ?_ ?_ ?_
  · simp
  · exact sub_same (by simp)
  rintro i ⟨i1, i2⟩
  simp only [List.cons_append, List.nil_append, prune, List.map_cons, List.map_nil, Go.AM.look, Nat.reduceEqDiff, reduceIte]
  refine awp_seq_k fun K2 hK2 => ?_
  refine awp_sr rfl fun K hK => ?_
  simp -dsimp
  refine hK _ _ ?_; clear hK K
  refine awp_cond rfl (fun hc0 => ?_) (fun hc0 => ?_)
  · skip
    try simp at hc0
    obtain ⟨m, hgm⟩ : ∃ m, l[i]? = some m := ⟨_, List.getElem?_eq_getElem hc0⟩
    have wi : IntKind.i64.wrap ((i : Int) + 1) = (i : Int) + 1 := wrap_in (by omega) (by omega)
    have w1 : IntKind.i64.wrap ((i : Int) - 1) = (i : Int) - 1 := wrap_in (by omega) (by omega)
    have hprev : 0 < i → l[i - 1]? = some (l[i - 1]?.getD default) := fun h => by rw [List.getElem?_eq_getElem (by omega)]; rfl
    have hpm : 0 < i → movB p (l[i - 1]?.getD default) = true := fun h => (Bool.and_eq_true_iff.1 (allR_at i2 (show i - 1 < i by omega))).1
    have hst : stepB p l i = (movB p m && (decide (i = 0) || follB p (l[i - 1]?.getD default) m)) := by unfold stepB; rw [hgm]; rfl
    generalize l[i - 1]?.getD default = m' at hprev hpm hst
    refine awp_skip ?_
    simp only [thenA, inBlockA, reduceIte, Nat.reduceEqDiff, eq_self]
    refine hK2 _ _ ?_
    refine awp_prune [1, 2, 5] ?_
    simp only [prune, List.map_cons, List.map_nil, Go.AM.look, Nat.reduceEqDiff, reduceIte]
    refine awp_seq_k fun K3 hK3 => ?_
    refine awp_block ?_
    refine awp_sd mixed rfl fun K hK => ?_
    simp -dsimp [hgm, w1]
    refine callK_intro _ (hmo m) (by simp) ?_
    simp -dsimp [hgm, w1]
    refine ⟨fun _ h => by omega, ?_⟩
    try simp -dsimp
    refine idxK_intro m'.cells (fun hq => by simp at hq; rw [List.getElem?_map, hprev hq.2]; rfl) ?_
    simp -dsimp [hgm, w1]
    refine idxK_intro m.cells (fun _ => by rw [List.getElem?_map, hgm]; rfl) ?_
    simp -dsimp [hgm, w1]
    refine callK_may _ (fun hm => (hfol m' m (hpm (by simp at hm; exact hm.2)) (by simp at hm; exact hm.1))) (by simp) ?_
    simp -dsimp [hgm, w1]
    refine hK _ _ _ (by decide +kernel) ?_; clear hK K
    refine awp_cond rfl (fun hc1 => ?_) (fun hc1 => ?_)
    · skip
      rw [step_neg, ← hst] at hc1
      have hsf : stepB p l i = false := by simpa using hc1
      have hb : wayB p l = false := by unfold wayB; rw [show (List.range l.length).all (stepB p l) = false from by rw [List.all_eq_false]; exact ⟨i, List.mem_range.2 hc0, by simp [hsf]⟩]; rfl
      refine awp_sr rfl fun K hK => ?_
      simp -dsimp
      refine hK _ _ ?_; clear hK K
      exact awp_ret (by simp [hb])
    · skip
      rw [step_neg, ← hst] at hc1
      have hst1 : stepB p l i = true := by simpa using hc1
      refine awp_skip ?_
      simp only [thenA, inBlockA, reduceIte, Nat.reduceEqDiff, eq_self]
      refine hK3 _ _ ?_
      refine awp_prune [1, 2, 5] ?_
      simp only [prune, List.map_cons, List.map_nil, Go.AM.look, Nat.reduceEqDiff, reduceIte]
      refine awp_r rfl fun K hK => ?_
      simp -dsimp [wi]
      refine hK _ _ ?_; clear hK K
      simp only [thenA, inBlockA, reduceIte, Nat.reduceEqDiff, eq_self]
      exact ⟨i + 1, ⟨by omega, by rw [allR_succ, i2, hst1]; rfl⟩, by omega, sub_rb [some 0] rfl (by simp) (by simp)⟩
  · skip
    try simp at hc0
    have hie : i = l.length := by omega
    subst hie
    refine awp_exit ?_
    simp only [thenA, inBlockA, reduceIte, Nat.reduceEqDiff, eq_self]
    refine hK1 _ _ ?_
    refine awp_prune [1] ?_
    simp only [prune, List.map_cons, List.map_nil, Go.AM.look, Nat.reduceEqDiff, reduceIte]
    refine awp_sr rfl fun K hK => ?_
    simp -dsimp
    refine callK_intro _ (c_in l.length 1 2000) (by simp) ?_
    simp -dsimp
    refine hK _ _ ?_; clear hK K
    exact awp_ret (by simp [wayB, i2])
end Go.Tram
