/- Walks: the law of endless ways. -/
import Derived.Test.YtdabjdajemiagaaGreatQ5
import Derived.Test.YtdabjdajemiagaaGreatP7a
namespace Go.Tram
open Go.AM Go.Proofs
set_option maxRecDepth 100000
set_option maxHeartbeats 4000000
set_option linter.unusedVariables false
set_option linter.unusedSimpArgs false

theorem mvAt_zero {l : List Move} (h : 0 < l.length) : l[0]? = some (mvAt l 0) := by
  unfold mvAt; rw [List.getElem?_eq_getElem h]; rfl
theorem c_TrackForever_a (p : Plan) (l : List Move) (hf : p.Fit) (hv : validB p = false) : PureCall Tryz.prog 8 [p.av, mLst l] (Bo true) := by
  have hs := c_small p hf
  have hva := c_Valid p
  rw [hv] at hva
  generalize smallB p = s at hs
  refine PureCall.of_body Tryz.func8 rfl (by decide) (by simp [Tryz.ntmps8]) ?_
  simp only [Tryz.ntmps8, Tryz.results8]
  refine awp_sr rfl fun K hK => ?_
  simp -dsimp
  refine hK _ _ ?_; clear hK K
  refine awp_seq_k fun K1 hK1 => ?_
  refine awp_sr rfl fun K hK => ?_
  simp -dsimp
  refine callK_intro _ (hs) (by simp) ?_
  simp -dsimp
  refine callK_may _ (fun hm => hva) (by simp) ?_
  simp -dsimp
  refine hK _ _ ?_; clear hK K
  refine awp_cond rfl (fun hc0 => ?_) (fun hc0 => ?_)
  · skip
    skip
    refine awp_sr rfl fun K hK => ?_
    simp -dsimp
    refine callK_intro _ (c_known1) (by simp) ?_
    simp -dsimp
    refine hK _ _ ?_; clear hK K
    exact awp_ret (by simp)
  · skip
    skip
    simp at hc0
theorem c_TrackForever_t (p : Plan) (l : List Move) (hf : p.Fit) (hv : validB p = true) : PureCall Tryz.prog 8 [p.av, mLst l] (Bo true) := by
  have hR := (valid_parts hv).2.1
  have hs := c_small p hf
  have hva := c_Valid p
  rw [hv] at hva
  generalize smallB p = s at hs
  have h1 := c_tEndless_t p hv
  have h4 := fun hn => c_rWay p l hv hn
  have hlong := fun hw => long_endless (l := l) hv hw
  have hmv := fun hw => way_mov (p := p) (l := l) hw
  have hel := endL_len' p
  have hg : ∀ k : Int, 0 ≤ k → k < 2 * p.Rails.length → (endL p)[k.toNat]? = some (endTo p k (2 * p.Rails.length)) := fun k h0 h1 => endL_get h0 h1
  have hstep := fun k => end_step (p := p) (i := k) hv
  have htn := fun k => c_tNext_t p (moveM k) hv
  have hnl := fun k h0 h1 => nextL_len p (moveM k) hv (mov_of (p := p) (k := k) h0 h1)
  have w2 : IntKind.i64.wrap (2 * (p.Rails.length : Int)) = 2 * (p.Rails.length : Int) := wrap_in (by omega) (by omega)
  obtain ⟨n, hn⟩ : ∃ n, n = 2 * p.Rails.length := ⟨_, rfl⟩
  have hn' : 2 * (p.Rails.length : Int) = (n : Int) := by omega
  rw [hn'] at w2
  rw [← hn] at hel hlong
  simp only [← hn] at hg hstep
  generalize hE : endL p = E at h1 hel hg
  generalize hEf : (fun k => endTo p k n) = e at *
  have hEk : ∀ k, endTo p k n = e k := fun k => by rw [← hEf]
  simp only [hEk] at hg hstep hlong
  have hb0 : ∀ hw, 0 < l.length → 0 ≤ numM (mvAt l 0) ∧ numM (mvAt l 0) < n := fun hw h => by have := num_bd (hmv hw 0 h); omega
  refine PureCall.of_body Tryz.func8 rfl (by decide) (by simp [Tryz.ntmps8]) ?_
  simp only [Tryz.ntmps8, Tryz.results8]
  refine awp_sr rfl fun K hK => ?_
  simp -dsimp
  refine hK _ _ ?_; clear hK K
  refine awp_seq_k fun K1 hK1 => ?_
  refine awp_sr rfl fun K hK => ?_
  simp -dsimp
  refine callK_intro _ (hs) (by simp) ?_
  simp -dsimp
  refine callK_may _ (fun hm => hva) (by simp) ?_
  simp -dsimp
  refine hK _ _ ?_; clear hK K
  refine awp_cond rfl (fun hc0 => ?_) (fun hc0 => ?_)
  · skip
    skip
    refine awp_sr rfl fun K hK => ?_
    simp -dsimp
    refine callK_intro _ (c_known1) (by simp) ?_
    simp -dsimp
    refine hK _ _ ?_; clear hK K
    exact awp_ret (by simp)
  · skip
    skip
    have hll : l.length ≤ 60 := by simp at hc0; omega
    refine awp_skip ?_
    simp only [thenA, inBlockA, reduceIte, Nat.reduceEqDiff, eq_self]
    refine hK1 _ _ ?_
    refine awp_prune [1, 2] ?_
    simp only [prune, List.map_cons, List.map_nil, Go.AM.look, Nat.reduceEqDiff, reduceIte]
    refine awp_sr rfl fun K hK => ?_
    simp -dsimp
    refine callK_intro _ (h1) (by simp) ?_
    simp -dsimp
    refine hK _ _ ?_; clear hK K
    refine awp_seq_k fun K2 hK2 => ?_
    refine awp_sr rfl fun K hK => ?_
    simp -dsimp [hn', w2]
    refine hK _ _ ?_; clear hK K
    refine awp_cond rfl (fun hc1 => ?_) (fun hc1 => ?_)
    · skip
      skip
      simp [hel] at hc1
    · skip
      skip
      refine awp_skip ?_
      simp only [thenA, inBlockA, reduceIte, Nat.reduceEqDiff, eq_self]
      refine hK2 _ _ ?_
      refine awp_prune [1, 2, 5] ?_
      simp only [prune, List.map_cons, List.map_nil, Go.AM.look, Nat.reduceEqDiff, reduceIte]
      refine awp_seq_k fun K3 hK3 => ?_
      refine awp_sr rfl fun K hK => ?_
      simp -dsimp
      refine callK_intro _ (h4 (by omega)) (by simp) ?_
      simp -dsimp
      refine idxK_intro (mvAt l 0).cells (fun hm => by simp at hm; rw [List.getElem?_map, mvAt_zero (by omega)]; rfl) ?_
      simp -dsimp
      refine callK_may _ (fun hm => c_rNumber (mvAt l 0) (by simp at hm; have := movB_iff.1 (hmv hm.1 0 (by omega)); omega) (by simp at hm; have := movB_iff.1 (hmv hm.1 0 (by omega)); omega)) (by simp) ?_
      simp -dsimp
      refine ⟨fun hw hl => (hb0 hw (by omega)).1, ?_⟩
      try simp -dsimp
      refine idxK_intro [Bo true] (fun hm => by simp at hm; rw [List.getElem?_map, hg _ (hb0 hm.1 (by omega)).1 (by have := (hb0 hm.1 (by omega)).2; omega), hlong hm.1 (by omega)]; rfl) ?_
      simp -dsimp
      refine hK _ _ ?_; clear hK K
      refine awp_cond rfl (fun hc2 => ?_) (fun hc2 => ?_)
      · skip
        skip
        simp at hc2
      · skip
        skip
        refine awp_skip ?_
        simp only [thenA, inBlockA, reduceIte, Nat.reduceEqDiff, eq_self]
        refine hK3 _ _ ?_
        refine awp_prune [2, 5] ?_
        simp only [prune, List.map_cons, List.map_nil, Go.AM.look, Nat.reduceEqDiff, reduceIte]
        refine awp_seq_k fun K4 hK4 => ?_
        refine awp_sr rfl fun K hK => ?_
        simp -dsimp
        refine hK _ _ ?_; clear hK K
        refine awp_block ?_
        refine awp_prune [2, 5, 7] ?_
        simp only [prune, List.map_cons, List.map_nil, Go.AM.look, Nat.reduceEqDiff, reduceIte]
        refine awp_loop_l [2, 5] (α := Nat) (fun i => [(7, I i)]) (fun i => [some (.els 2 [p.cells])]) (fun i => i ≤ n) (fun i => n - i) 0 ?_ ?_ ?_
        · simp
        · exact sub_same (by simp)
        rintro i i1
        simp only [List.cons_append, List.nil_append, prune, List.map_cons, List.map_nil, Go.AM.look, Nat.reduceEqDiff, reduceIte]
        refine awp_seq_k fun K5 hK5 => ?_
        refine awp_sr rfl fun K hK => ?_
        simp -dsimp
        refine hK _ _ ?_; clear hK K
        refine awp_cond rfl (fun hc3 => ?_) (fun hc3 => ?_)
        · skip
          try simp at hc3
          have hi : i < n := by simp [hel] at hc3; omega
          have wi : IntKind.i64.wrap ((i : Int) + 1) = (i : Int) + 1 := wrap_in (by omega) (by omega)
          have hsi := hstep i (by omega) (by omega)
          have hbd := fun y hy => nxI_bd (p := p) (k := i) hv (by omega) (by omega) (y := y) hy
          have hni := hnl i (by omega) (by omega)
          have htni := htn i (mov_of (by omega) (by omega))
          have hgi := hg i (by omega) (by omega)
          rw [show ((i : Int).toNat) = i by omega] at hgi
          rw [← nxI_len] at hni
          rw [← mvL_nxI] at htni
          generalize nxI p i = N at hsi hbd hni htni
          refine awp_skip ?_
          simp only [thenA, inBlockA, reduceIte, Nat.reduceEqDiff, eq_self]
          refine hK5 _ _ ?_
          refine awp_prune [2, 5, 7] ?_
          simp only [prune, List.map_cons, List.map_nil, Go.AM.look, Nat.reduceEqDiff, reduceIte]
          refine awp_seq_k fun K6 hK6 => ?_
          refine awp_block ?_
          refine awp_sd mixed rfl fun K hK => ?_
          simp -dsimp
          refine callK_intro _ (c_rOf i (by omega) (by omega)) (by simp) ?_
          simp -dsimp
          refine callK_intro _ (htni) (by simp) ?_
          simp -dsimp
          refine hK _ _ _ (by decide +kernel) ?_; clear hK K
          refine awp_seq_k fun K7 hK7 => ?_
          refine awp_sr rfl fun K hK => ?_
          simp -dsimp
          refine hK _ _ ?_; clear hK K
          refine awp_cond rfl (fun hc4 => ?_) (fun hc4 => ?_)
          · skip
            skip
            simp at hc4
          · skip
            skip
            refine awp_skip ?_
            simp only [thenA, inBlockA, reduceIte, Nat.reduceEqDiff, eq_self]
            refine hK7 _ _ ?_
            refine awp_prune [2, 5, 7, 8] ?_
            simp only [prune, List.map_cons, List.map_nil, Go.AM.look, Nat.reduceEqDiff, reduceIte]
            refine awp_sr rfl fun K hK => ?_
            simp -dsimp
            refine hK _ _ ?_; clear hK K
            refine awp_seq_k fun K8 hK8 => ?_
            refine awp_sr rfl fun K hK => ?_
            simp -dsimp
            refine hK _ _ ?_; clear hK K
            refine awp_block ?_
            refine awp_prune [2, 5, 7, 8, 10, 11] ?_
            simp only [prune, List.map_cons, List.map_nil, Go.AM.look, Nat.reduceEqDiff, reduceIte]
            refine awp_loop_l [2, 5, 7, 8] (α := Nat) (fun k => [(11, I k), (10, Bo ((N.take k).any e))]) (fun k => [some (.els 2 [p.cells])]) (fun k => k ≤ N.length) (fun k => N.length - k) 0 ?_ ?_ ?_
            · simp
            · exact sub_same (by simp)
            rintro k k1
            simp only [List.cons_append, List.nil_append, prune, List.map_cons, List.map_nil, Go.AM.look, Nat.reduceEqDiff, reduceIte]
            refine awp_seq_k fun K9 hK9 => ?_
            refine awp_sr rfl fun K hK => ?_
            simp -dsimp
            refine hK _ _ ?_; clear hK K
            refine awp_cond rfl (fun hc5 => ?_) (fun hc5 => ?_)
            · skip
              skip
              have hk : k < N.length := by simpa using hc5
              have wk : IntKind.i64.wrap ((k : Int) + 1) = (k : Int) + 1 := wrap_in (by omega) (by omega)
              obtain ⟨y, hy⟩ : ∃ y, N[k]? = some y := ⟨_, List.getElem?_eq_getElem hk⟩
              have hyb := hbd y (List.mem_of_getElem? hy)
              have hgy := hg y hyb.1 hyb.2
              have hts : (N.take (k + 1)).any e = ((N.take k).any e || e y) := by rw [List.take_add_one, hy, List.any_append]; simp
              generalize (N.take k).any e = met at hts ⊢
              have hnum := c_rNumber (moveM y) (by simp only [moveM]; omega) (by simp only [moveM]; omega)
              rw [numM_moveM hyb.1] at hnum
              have hyn : y < (E.length : Int) := by omega
              refine awp_skip ?_
              simp only [thenA, inBlockA, reduceIte, Nat.reduceEqDiff, eq_self]
              refine hK9 _ _ ?_
              refine awp_prune [2, 5, 7, 8, 10, 11] ?_
              simp only [prune, List.map_cons, List.map_nil, Go.AM.look, Nat.reduceEqDiff, reduceIte]
              refine awp_seq_k fun K10 hK10 => ?_
              refine awp_block ?_
              refine awp_sr rfl fun K hK => ?_
              simp -dsimp [hy]
              refine callK_intro _ (hnum) (by simp) ?_
              simp -dsimp [hy]
              refine hK _ _ ?_; clear hK K
              refine awp_r rfl fun K hK => ?_
              simp -dsimp [hyb.1, hyn]
              refine idxK_intro [Bo (e y)] (fun hm => by rw [List.getElem?_map, hgy]; rfl) ?_
              simp -dsimp [hyb.1, hyn]
              refine hK _ _ ?_; clear hK K
              simp only [thenA, inBlockA, reduceIte, Nat.reduceEqDiff, eq_self]
              refine hK10 _ _ ?_
              refine awp_prune [2, 5, 7, 8, 10, 11] ?_
              simp only [prune, List.map_cons, List.map_nil, Go.AM.look, Nat.reduceEqDiff, reduceIte]
              refine awp_r rfl fun K hK => ?_
              simp -dsimp [wk]
              refine hK _ _ ?_; clear hK K
              simp only [thenA, inBlockA, reduceIte, Nat.reduceEqDiff, eq_self]
              exact ⟨k + 1, by omega, by omega, sub_same (by simp [hts])⟩
            · skip
              skip
              have hke : k = N.length := by simp at hc5; omega
              subst hke
              rw [List.take_length, hsi]
              refine awp_exit ?_
              simp only [thenA, inBlockA, reduceIte, Nat.reduceEqDiff, eq_self]
              refine hK8 _ _ ?_
              refine awp_prune [2, 5, 7, 10] ?_
              simp only [prune, List.map_cons, List.map_nil, Go.AM.look, Nat.reduceEqDiff, reduceIte]
              refine awp_sr rfl fun K hK => ?_
              simp -dsimp [hgi]
              refine ⟨fun w => ne_guard1 _ _ _ _ _ w und_bool1, .bool false, fun w => by rw [ne_bool1 _ _ _ w kt_bool1]; simp, ?_⟩
              try simp -dsimp
              refine hK _ _ ?_; clear hK K
              refine awp_cond rfl (fun hc6 => ?_) (fun hc6 => ?_)
              · skip
                skip
                simp at hc6
              · skip
                skip
                refine awp_skip ?_
                simp only [thenA, inBlockA, reduceIte, Nat.reduceEqDiff, eq_self]
                refine hK6 _ _ ?_
                refine awp_prune [2, 5, 7] ?_
                simp only [prune, List.map_cons, List.map_nil, Go.AM.look, Nat.reduceEqDiff, reduceIte]
                refine awp_r rfl fun K hK => ?_
                simp -dsimp [wi]
                refine hK _ _ ?_; clear hK K
                simp only [thenA, inBlockA, reduceIte, Nat.reduceEqDiff, eq_self]
                exact ⟨i + 1, by omega, by omega, sub_same (by simp)⟩
        · skip
          try simp at hc3
          refine awp_exit ?_
          simp only [thenA, inBlockA, reduceIte, Nat.reduceEqDiff, eq_self]
          refine hK4 _ _ ?_
          refine awp_prune [] ?_
          simp only [prune, List.map_cons, List.map_nil, Go.AM.look, Nat.reduceEqDiff, reduceIte]
          refine awp_sr rfl fun K hK => ?_
          simp -dsimp
          refine callK_intro _ (c_known1) (by simp) ?_
          simp -dsimp
          refine hK _ _ ?_; clear hK K
          exact awp_ret (by simp)
theorem c_TrackForever (p : Plan) (l : List Move) (hf : p.Fit) : PureCall Tryz.prog 8 [p.av, mLst l] (Bo true) := by
  cases hv : validB p with
  | false => exact c_TrackForever_a p l hf hv
  | true => exact c_TrackForever_t p l hf hv
end Go.Tram
