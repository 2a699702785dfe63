/- Walks: the setting that two moves need; the settings of a way. -/
import Derived.Test.YtdabjdajemiagaaR7
namespace Go.Tram
open Go.AM Go.Proofs
set_option maxRecDepth 10000
set_option maxHeartbeats 4000000
set_option linter.unusedVariables false
set_option linter.unusedSimpArgs false

def pBetw (p : Plan) (m k : Move) : Setg := ⟨p.at (arrE m), maxI (plc p (arrE m)) (plc p (leaE k))⟩
theorem betw_eq {p : Plan} (hv : validB p = true) {m k : Move} (hm : movB p m = true) (hf : rFoll p m k = true) : pBetw p m k = rBetw p m k := by
  obtain ⟨i, hi, ha, hn, j, hj, hp, hx⟩ := node_of hv hm
  simp only [rFoll, hn, Bool.and_eq_true, decide_eq_true_eq] at hf
  have : ∃ t : Nat, (p.node i).Ends[t]? = some (leaE k) := by
    by_cases h : ∃ t : Nat, (p.node i).Ends[t]? = some (leaE k)
    · exact h
    · have := idxTo_none (e := leaE k) (p.node i).Ends 0 fun j hj => h ⟨j, hj⟩
      have h2 := hf.2.1
      unfold idxE at h2
      omega
  obtain ⟨t, ht⟩ := this
  unfold pBetw rBetw
  rw [hn, hp, hx, place_at hv hi ht, idxE_some hv hi ht]

theorem c_tleaves (m : Move) : PureCall Try.prog 58 [m.av] (.agg [I m.Rail, Bo m.Back]) := by
  refine PureCall.of_body Try.func58 rfl (by decide) (by simp [Try.ntmps58]) ?_
  simp only [Try.ntmps58, Try.results58]
  refine awp_sr rfl fun K hK => ?_
  simp -dsimp
  refine hK _ _ ?_; clear hK K
  refine awp_sr rfl fun K hK => ?_
  simp -dsimp
  refine hK _ _ ?_; clear hK K
  exact awp_ret (by simp)

theorem c_tbetween (p : Plan) (m k : Move) (hv : validB p = true) (hm : movB p m = true) : PureCall Try.prog 40 [.iptr (net p), m.av, k.av] (.tup [.agg (if isSet p m then pBetw p m k else ⟨0, 0⟩).cells, Bo (isSet p m)]) := by
  have hm' := movB_iff.1 hm
  have ha := at_in hv (e := arrE m) hm'.1 hm'.2
  have hnode := p.node_get ha.1 ha.2
  have hce := c_ending p (arrE m) hm'.1 hm'.2
  have hna : p.node (p.at (arrE m)) = nodeAt p m := rfl
  rw [hna] at hnode
  have hp1 := plc_val hv (arrE m)
  have hp2 := plc_val hv (leaE k)
  have hrb : pBetw p m k = ⟨p.at (arrE m), maxI (plc p (arrE m)) (plc p (leaE k))⟩ := rfl
  have his : isSet p m = decide ((nodeAt p m).Kind = 4) := rfl
  rw [hrb, his]
  generalize nodeAt p m = n at *
  unfold net
  refine PureCall.of_body Try.func40 rfl (by decide) (by simp [Try.ntmps40]) ?_
  simp only [Try.ntmps40, Try.results40]
  refine awp_sr rfl fun K hK => ?_
  simp -dsimp
  refine hK _ _ ?_; clear hK K
  refine awp_sd mixed rfl fun K hK => ?_
  simp -dsimp
  refine callK_intro _ (c_arrives m) (by simp) ?_
  simp -dsimp
  refine callK_intro _ (hce) (by simp) ?_
  simp -dsimp
  refine hK _ _ _ (by decide +kernel) ?_; clear hK K
  refine awp_seq_k fun K1 hK1 => ?_
  refine awp_sr rfl fun K hK => ?_
  simp -dsimp [hnode, ha.1]
  refine hK _ _ ?_; clear hK K
  refine awp_cond rfl (fun hc0 => ?_) (fun hc0 => ?_)
  · skip
    try simp at hc0
    refine awp_sr rfl fun K hK => ?_
    simp -dsimp
    refine hK _ _ ?_; clear hK K
    exact awp_ret (by simp_all)
  · skip
    try simp at hc0
    refine awp_skip ?_
    simp only [thenA, inBlockA, reduceIte, Nat.reduceEqDiff, eq_self]
    refine hK1 _ _ ?_
    refine awp_prune [0, 4, 5, 6, 8] ?_
    simp only [prune, List.map_cons, List.map_nil, Go.AM.look, Nat.reduceEqDiff, reduceIte]
    refine awp_sd mixed rfl fun K hK => ?_
    simp -dsimp
    refine callK_intro _ (c_arrives m) (by simp) ?_
    simp -dsimp
    refine valK_intro (I (plc p (arrE m))) (fun hm => congrArg AV.v hp1.1) ?_
    simp -dsimp
    refine callK_intro _ (c_tleaves k) (by simp) ?_
    simp -dsimp
    refine valK_intro (I (plc p (leaE k))) (fun hm => congrArg AV.v hp2.1) ?_
    simp -dsimp
    refine hK _ _ _ (by decide +kernel) ?_; clear hK K
    exact awp_ret (by simp_all)
theorem c_tBetween_t (p : Plan) (m k : Move) (hv : validB p = true) (hm : movB p m = true) (hk : movB p k = true) : PureCall Try.prog 15 [p.av, m.av, k.av] (.tup [.agg (if follB p m k && isSet p m then pBetw p m k else ⟨0, 0⟩).cells, I (if follB p m k && isSet p m then 0 else 4)]) := by
  have hop := c_open_t p hv
  have hh := c_nhas p m.Rail m.Back hv
  have hhk := c_nhas p k.Rail k.Back hv
  rw [show inr m.Rail 0 (p.Rails.length - 1) = true from hm] at hh
  rw [show inr k.Rail 0 (p.Rails.length - 1) = true from hk] at hhk
  have hf := c_follows p m k hv hm
  have hb := c_tbetween p m k hv hm
  generalize net p = sh at hop hh hhk hf hb
  refine PureCall.of_body Try.func15 rfl (by decide) (by simp [Try.ntmps15]) ?_
  simp only [Try.ntmps15, Try.results15]
  refine awp_sr rfl fun K hK => ?_
  simp -dsimp
  refine hK _ _ ?_; clear hK K
  refine awp_sr rfl fun K hK => ?_
  simp -dsimp
  refine callK_intro _ (hop) (by simp) ?_
  simp -dsimp
  refine hK _ _ ?_; clear hK K
  refine awp_seq_k fun K1 hK1 => ?_
  refine awp_sr rfl fun K hK => ?_
  simp -dsimp
  refine callK_may _ (fun hm => hh) (by simp) ?_
  simp -dsimp
  refine callK_may _ (fun hm => hhk) (by simp) ?_
  simp -dsimp
  refine hK _ _ ?_; clear hK K
  refine awp_cond rfl (fun hc0 => ?_) (fun hc0 => ?_)
  · skip
    skip
    simp at hc0
  · skip
    skip
    refine awp_skip ?_
    simp only [thenA, inBlockA, reduceIte, Nat.reduceEqDiff, eq_self]
    refine hK1 _ _ ?_
    refine awp_prune [4, 5, 6, 8] ?_
    simp only [prune, List.map_cons, List.map_nil, Go.AM.look, Nat.reduceEqDiff, reduceIte]
    refine awp_seq_k fun K2 hK2 => ?_
    refine awp_sr rfl fun K hK => ?_
    simp -dsimp
    refine callK_intro _ (hf) (by simp) ?_
    simp -dsimp
    refine hK _ _ ?_; clear hK K
    refine awp_cond rfl (fun hc1 => ?_) (fun hc1 => ?_)
    · skip
      try simp at hc1
      refine awp_sr rfl fun K hK => ?_
      simp -dsimp
      refine callK_intro _ (hb) (by simp) ?_
      simp -dsimp
      refine hK _ _ ?_; clear hK K
      refine awp_sr rfl fun K hK => ?_
      simp -dsimp
      refine hK _ _ ?_; clear hK K
      refine awp_cond rfl (fun hc2 => ?_) (fun hc2 => ?_)
      · skip
        try simp at hc2
        refine awp_sr rfl fun K hK => ?_
        simp -dsimp
        refine hK _ _ ?_; clear hK K
        exact awp_ret (by simp_all)
      · skip
        try simp at hc2
        refine awp_skip ?_
        simp only [thenA, inBlockA, reduceIte, Nat.reduceEqDiff, eq_self]
        refine hK2 _ _ ?_
        refine awp_prune [6] ?_
        simp only [prune, List.map_cons, List.map_nil, Go.AM.look, Nat.reduceEqDiff, reduceIte]
        refine awp_sr rfl fun K hK => ?_
        simp -dsimp
        refine hK _ _ ?_; clear hK K
        exact awp_ret (by simp_all)
    · skip
      try simp at hc1
      refine awp_skip ?_
      simp only [thenA, inBlockA, reduceIte, Nat.reduceEqDiff, eq_self]
      refine hK2 _ _ ?_
      refine awp_prune [6] ?_
      simp only [prune, List.map_cons, List.map_nil, Go.AM.look, Nat.reduceEqDiff, reduceIte]
      refine awp_sr rfl fun K hK => ?_
      simp -dsimp
      refine hK _ _ ?_; clear hK K
      exact awp_ret (by simp_all)
end Go.Tram
