/- Walks: the law of plans whose rails are turned around. -/
import Derived.Test.YtdabjdajemiagaaGreatQ14
import Derived.Test.YtdabjdajemiagaaGreatQB
import Derived.Test.YtdabjdajemiagaaGreatP5
namespace Go.Tram
open Go.AM Go.Proofs
set_option maxRecDepth 100000
set_option maxHeartbeats 4000000
set_option linter.unusedVariables false
set_option linter.unusedSimpArgs false

theorem c_TrackTurned_a (p : Plan) (a b : Move) (hf : p.Fit) (h : fineB p a b = false) : PureCall Tryz.prog 7 [p.av, a.av, b.av] (Bo true) := by
  have hfi := c_fine p a b hf
  rw [h] at hfi
  refine PureCall.of_body Tryz.func7 rfl (by decide) (by simp [Tryz.ntmps7]) ?_
  simp only [Tryz.ntmps7, Tryz.results7]
  refine awp_sr rfl fun K hK => ?_
  simp -dsimp
  refine hK _ _ ?_; clear hK K
  refine awp_seq_k fun K1 hK1 => ?_
  refine awp_sr rfl fun K hK => ?_
  simp -dsimp
  refine callK_intro _ (hfi) (by simp) ?_
  simp -dsimp
  refine hK _ _ ?_; clear hK K
  refine awp_cond rfl (fun hc0 => ?_) (fun hc0 => ?_)
  · skip
    skip
    refine awp_sr rfl fun K hK => ?_
    simp -dsimp
    refine callK_intro _ (c_known1) (by simp) ?_
    simp -dsimp
    refine hK _ _ ?_; clear hK K
    exact awp_ret (by simp)
  · skip
    skip
    simp at hc0
theorem c_TrackTurned_t (p : Plan) (a b : Move) (hf : p.Fit) (h : fineB p a b = true) : PureCall Tryz.prog 7 [p.av, a.av, b.av] (Bo true) := by
  have hfi := c_fine p a b hf
  rw [h] at hfi
  have hsm : smallB p = true := by unfold fineB at h; exact (Bool.and_eq_true_iff.1 h).1
  obtain ⟨hv, ha, hb⟩ := fine_parts h
  have hR := (valid_parts hv).2.1
  have hNn := (valid_parts hv).1
  have ha' := movB_iff.1 ha
  have hb' := movB_iff.1 hb
  have hq := t_valid hv
  have hqa : movB (turnP p) (oppM a) = true := by rw [t_mov]; exact ha
  have hqb : movB (turnP p) (oppM b) = true := by rw [t_mov]; exact hb
  have htu := c_turned p hv (by omega)
  have h1 := c_tFollows_t p a b hv ha hb
  have h2 := c_tFollows_t (turnP p) (oppM a) (oppM b) hq hqa hqb
  rw [t_foll hv ha hb] at h2
  have hoa := c_rOpp a
  have hob := c_rOpp b
  have h3 := c_tDistances_t p a hv ha
  have h4 := c_tDistances_t (turnP p) (oppM a) hq hqa
  rw [num_opp] at h4
  have hin : inr a.Rail 0 (p.Rails.length - 1) = true := ha
  have h5 := c_tTurns_t p a.Rail hv hin
  have h6 := c_tTurns_t (turnP p) a.Rail hq (by rw [t_rails]; exact hin)
  rw [turnB_t hv ha'.1 ha'.2] at h6
  have h7 := c_Check (turnP p)
  rw [hq, if_pos rfl] at h7
  have hna := num_bd11 ha
  have hxa := xk_bd hna.1 hna.2
  have hE := dEnd_ok hv hna.1 hna.2
  have hF := dEnd_ok hq hxa.1 (by rw [t_rails]; exact hxa.2)
  have hd := fun k hk => dist_t hv hna.1 hna.2 (k := k) hk
  have hl1 := hE.ll
  have hl2 := hF.ll
  rw [t_rails] at hl2
  have w2 : IntKind.i64.wrap (2 * (p.Rails.length : Int)) = 2 * (p.Rails.length : Int) := wrap_in (by omega) (by omega)
  generalize (dEnd p (numM a)).ln = D at *
  generalize (dEnd (turnP p) (xk (numM a))).ln = E at *
  generalize turnB p a.Rail = T at *
  generalize follB p a b = F at *
  generalize turnP p = q at *
  generalize oppM a = oa at *
  generalize oppM b = ob at *
  refine PureCall.of_body Tryz.func7 rfl (by decide) (by simp [Tryz.ntmps7]) ?_
  simp only [Tryz.ntmps7, Tryz.results7]
  refine awp_sr rfl fun K hK => ?_
  simp -dsimp
  refine hK _ _ ?_; clear hK K
  refine awp_seq_k fun K1 hK1 => ?_
  refine awp_sr rfl fun K hK => ?_
  simp -dsimp
  refine callK_intro _ (hfi) (by simp) ?_
  simp -dsimp
  refine hK _ _ ?_; clear hK K
  refine awp_cond rfl (fun hc0 => ?_) (fun hc0 => ?_)
  · skip
    skip
    simp at hc0
  · skip
    skip
    refine awp_skip ?_
    simp only [thenA, inBlockA, reduceIte, Nat.reduceEqDiff, eq_self]
    refine hK1 _ _ ?_
    refine awp_prune [3, 4, 5] ?_
    simp only [prune, List.map_cons, List.map_nil, Go.AM.look, Nat.reduceEqDiff, reduceIte]
    refine awp_sr rfl fun K hK => ?_
    simp -dsimp
    refine callK_intro _ (htu) (by simp) ?_
    simp -dsimp
    refine hK _ _ ?_; clear hK K
    refine awp_sr rfl fun K hK => ?_
    simp -dsimp
    refine callK_intro _ (h1) (by simp) ?_
    simp -dsimp
    refine hK _ _ ?_; clear hK K
    refine awp_sd mixed rfl fun K hK => ?_
    simp -dsimp
    refine callK_intro _ (hoa) (by simp) ?_
    simp -dsimp
    refine callK_intro _ (hob) (by simp) ?_
    simp -dsimp
    refine callK_intro _ (h2) (by simp) ?_
    simp -dsimp
    refine hK _ _ _ (by decide +kernel) ?_; clear hK K
    refine awp_sr rfl fun K hK => ?_
    simp -dsimp
    refine callK_intro _ (h3) (by simp) ?_
    simp -dsimp
    refine hK _ _ ?_; clear hK K
    refine awp_sd mixed rfl fun K hK => ?_
    simp -dsimp
    refine callK_intro _ (hoa) (by simp) ?_
    simp -dsimp
    refine callK_intro _ (h4) (by simp) ?_
    simp -dsimp
    refine hK _ _ _ (by decide +kernel) ?_; clear hK K
    refine awp_sr rfl fun K hK => ?_
    simp -dsimp
    refine callK_intro _ (h5) (by simp) ?_
    simp -dsimp
    refine hK _ _ ?_; clear hK K
    refine awp_sr rfl fun K hK => ?_
    simp -dsimp
    refine callK_intro _ (h6) (by simp) ?_
    simp -dsimp
    refine hK _ _ ?_; clear hK K
    refine awp_seq_k fun K2 hK2 => ?_
    refine awp_sr rfl fun K hK => ?_
    simp -dsimp [w2]
    refine callK_intro _ (h7) (by simp) ?_
    simp -dsimp [w2]
    refine ⟨fun w => ne_guard1 _ _ _ _ _ w und_bool1, .bool false, fun w => by rw [ne_bool1 _ _ _ w kt_bool1]; simp, ?_⟩
    try simp -dsimp [w2]
    refine ⟨fun w => ne_guard1 _ _ _ _ _ w und_bool1, .bool false, fun w => by rw [ne_bool1 _ _ _ w kt_bool1]; simp, ?_⟩
    try simp -dsimp [w2]
    refine hK _ _ ?_; clear hK K
    refine awp_cond rfl (fun hc1 => ?_) (fun hc1 => ?_)
    · skip
      skip
      simp at hc1; omega
    · skip
      skip
      refine awp_skip ?_
      simp only [thenA, inBlockA, reduceIte, Nat.reduceEqDiff, eq_self]
      refine hK2 _ _ ?_
      refine awp_prune [12, 14] ?_
      simp only [prune, List.map_cons, List.map_nil, Go.AM.look, Nat.reduceEqDiff, reduceIte]
      refine awp_seq_k fun K3 hK3 => ?_
      refine awp_sr rfl fun K hK => ?_
      simp -dsimp
      refine hK _ _ ?_; clear hK K
      refine awp_block ?_
      refine awp_prune [12, 14, 20] ?_
      simp only [prune, List.map_cons, List.map_nil, Go.AM.look, Nat.reduceEqDiff, reduceIte]
      refine awp_loop_l [12, 14] (α := Nat) (fun i => [(20, I i)]) (fun i => [some (.els 2 [p.cells]), some (.els 2 [a.cells]), some (.els 2 [b.cells]), some (.els 2 [q.cells])]) (fun i => i ≤ D.length) (fun i => D.length - i) 0 ?_ ?_ ?_
      · simp
      · exact sub_same (by simp)
      rintro i i1
      simp only [List.cons_append, List.nil_append, prune, List.map_cons, List.map_nil, Go.AM.look, Nat.reduceEqDiff, reduceIte]
      refine awp_seq_k fun K4 hK4 => ?_
      refine awp_sr rfl fun K hK => ?_
      simp -dsimp
      refine hK _ _ ?_; clear hK K
      refine awp_cond rfl (fun hc2 => ?_) (fun hc2 => ?_)
      · skip
        skip
        have hi : i < D.length := by simpa using hc2
        have wi : IntKind.i64.wrap ((i : Int) + 1) = (i : Int) + 1 := wrap_in (by omega) (by omega)
        have hgD := getD_at (l := D) (i := i) hi
        have hxi := xk_bd (k := (i : Int)) (n := p.Rails.length) (by omega) (by omega)
        have hgE := getD_at (l := E) (i := (xk i).toNat) (by omega)
        have hdi := hd i (by omega)
        rw [hdi] at hgE
        have hof := c_rOf (i : Int) (by omega) (by omega)
        have hop := c_rOpp (moveM i)
        have hnu := c_rNumber (oppM (moveM i)) (by simp only [oppM, moveM]; omega) (by simp only [oppM, moveM]; omega)
        rw [num_opp, numM_moveM (by omega)] at hnu
        generalize oppM (moveM (i : Int)) = om at hop hnu
        generalize moveM (i : Int) = mm at hof hop
        have hx0 := hxi.1
        generalize xk (i : Int) = y at *
        refine awp_skip ?_
        simp only [thenA, inBlockA, reduceIte, Nat.reduceEqDiff, eq_self]
        refine hK4 _ _ ?_
        refine awp_prune [12, 14, 20] ?_
        simp only [prune, List.map_cons, List.map_nil, Go.AM.look, Nat.reduceEqDiff, reduceIte]
        refine awp_seq_k fun K5 hK5 => ?_
        refine awp_block ?_
        refine awp_sd mixed rfl fun K hK => ?_
        simp -dsimp [hgD, hgE, hx0]
        refine callK_intro _ (hof) (by simp) ?_
        simp -dsimp [hgD, hgE, hx0]
        refine callK_intro _ (hop) (by simp) ?_
        simp -dsimp [hgD, hgE, hx0]
        refine callK_intro _ (hnu) (by simp) ?_
        simp -dsimp [hgD, hgE, hx0]
        refine hK _ _ _ (by decide +kernel) ?_; clear hK K
        refine awp_cond rfl (fun hc3 => ?_) (fun hc3 => ?_)
        · skip
          skip
          simp at hc3
        · skip
          skip
          refine awp_skip ?_
          simp only [thenA, inBlockA, reduceIte, Nat.reduceEqDiff, eq_self]
          refine hK5 _ _ ?_
          refine awp_prune [12, 14, 20] ?_
          simp only [prune, List.map_cons, List.map_nil, Go.AM.look, Nat.reduceEqDiff, reduceIte]
          refine awp_r rfl fun K hK => ?_
          simp -dsimp [wi]
          refine hK _ _ ?_; clear hK K
          simp only [thenA, inBlockA, reduceIte, Nat.reduceEqDiff, eq_self]
          exact ⟨i + 1, by omega, by omega, sub_same (by simp)⟩
      · skip
        skip
        refine awp_exit ?_
        simp only [thenA, inBlockA, reduceIte, Nat.reduceEqDiff, eq_self]
        refine hK3 _ _ ?_
        refine awp_prune [] ?_
        simp only [prune, List.map_cons, List.map_nil, Go.AM.look, Nat.reduceEqDiff, reduceIte]
        refine awp_sr rfl fun K hK => ?_
        simp -dsimp
        refine callK_intro _ (c_known1) (by simp) ?_
        simp -dsimp
        refine hK _ _ ?_; clear hK K
        exact awp_ret (by simp)
theorem c_TrackTurned (p : Plan) (a b : Move) (hf : p.Fit) : PureCall Tryz.prog 7 [p.av, a.av, b.av] (Bo true) := by
  cases h : fineB p a b with
  | false => exact c_TrackTurned_a p a b hf h
  | true => exact c_TrackTurned_t p a b hf h
end Go.Tram
