/- Laws and walks: the law of opposite moves. -/
import Derived.Test.YtdabjdajemiagaaGreatP5
namespace Go.Tram
open Go.AM Go.Proofs
set_option maxRecDepth 100000
set_option maxHeartbeats 4000000
set_option linter.unusedVariables false
set_option linter.unusedSimpArgs false

def oppM (m : Move) : Move := ⟨m.Rail, !m.Back⟩
@[simp] theorem arr_opp (m : Move) : arrE (oppM m) = leaE m := by simp [arrE, leaE, oppM]
@[simp] theorem lea_opp (m : Move) : leaE (oppM m) = arrE m := by simp [arrE, leaE, oppM]
theorem mov_opp {p : Plan} {m : Move} : movB p (oppM m) = movB p m := rfl
theorem c_rOpp (m : Move) : PureCall Tryz.prog 22 [m.av] (oppM m).av := by
  refine PureCall.of_body Tryz.func22 rfl (by decide) (by simp [Tryz.ntmps22]) ?_
  simp only [Tryz.ntmps22, Tryz.results22]
  refine awp_sr rfl fun K hK => ?_
  simp -dsimp
  refine hK _ _ ?_; clear hK K
  refine awp_sr rfl fun K hK => ?_
  simp -dsimp
  refine hK _ _ ?_; clear hK K
  exact awp_ret (by simp [oppM])

/-- A move that follows leaves from the node at which the other one arrives. -/
theorem foll_node {p : Plan} (hv : validB p = true) {m k : Move} (hm : movB p m = true) (hf : rFoll p m k = true) : ∃ i : Nat, i < p.Nodes.length ∧ p.at (arrE m) = i ∧ p.at (leaE k) = i ∧ nodeAt p m = p.node i ∧ ∃ a b : Nat, (p.node i).Ends[a]? = some (arrE m) ∧ (p.node i).Ends[b]? = some (leaE k) ∧ letsB (p.node i) a b = true := by
  obtain ⟨i, hi, ha, hn, j, hj, hp, hx⟩ := node_of hv hm
  simp only [rFoll, hn, Bool.and_eq_true, decide_eq_true_eq] at hf
  have : ∃ t : Nat, (p.node i).Ends[t]? = some (leaE k) := by
    by_cases h : ∃ t : Nat, (p.node i).Ends[t]? = some (leaE k)
    · exact h
    · have := idxTo_none (e := leaE k) (p.node i).Ends 0 fun j hj => h ⟨j, hj⟩
      have h2 := hf.2.1
      unfold idxE at h2
      omega
  obtain ⟨t, ht⟩ := this
  refine ⟨i, hi, ha, (ends_rail hv hi ht).2, hn, j, t, hj, ht, ?_⟩
  have := hf.2.2
  rw [hx, idxE_some hv hi ht] at this
  exact this
theorem lets_symm {n : Node} {a b : Int} (h : n.Kind ≠ 5) : letsB n a b = letsB n b a := by
  rw [Bool.eq_iff_iff]
  unfold letsB
  simp only [if_neg h]
  split
  · simp
  split
  · simp; omega
  split
  · simp; omega
  split
  · simp; omega
  · simp; omega
theorem foll_back {p : Plan} (hv : validB p = true) {m k : Move} (hm : movB p m = true) (hf : rFoll p m k = true) (h5 : (nodeAt p m).Kind ≠ 5) : rFoll p (oppM k) (oppM m) = true ∧ nodeAt p (oppM k) = nodeAt p m ∧ p.at (leaE k) = p.at (arrE m) := by
  obtain ⟨i, hi, h1, h2, h3, a, b, ha, hb, hl⟩ := foll_node hv hm hf
  have hn : nodeAt p (oppM k) = p.node i := by unfold nodeAt; rw [arr_opp, h2]
  refine ⟨?_, by rw [hn, h3], by rw [h1, h2]⟩
  simp only [rFoll, hn, arr_opp, lea_opp, idxE_some hv hi ha, idxE_some hv hi hb, Bool.and_eq_true, decide_eq_true_eq]
  rw [h3] at h5
  exact ⟨by omega, by omega, by rw [lets_symm h5]; exact hl⟩

def lets4 (K N f t : Int) : Bool :=
  if K = 1 then false else if K = 2 then decide (f ≠ t) else if K = 3 then decide (f ≠ t) && decide ((f + t) % 2 = 0)
  else if K = 4 then decide (f ≠ t) && (decide (f = 0) || decide (t = 0)) else if K = 5 then (decide (f ≠ 0) && decide (t = 0)) || (decide (f = 0) && decide (t = N))
  else (decide (f = 0) && decide (t = N)) || (decide (f = N) && decide (t = 0))
theorem lets4_eq (n : Node) (f t : Int) : letsB n f t = lets4 n.Kind n.Normal f t := rfl
def cnt4 (K N : Int) (len a : Nat) : Nat := ((List.range len).filter fun (t : Nat) => lets4 K N a t).length
theorem cnt_all : ∀ K ∈ [(1, 1), (2, 2), (3, 4), (4, 3), (5, 3), (6, 3)], ∀ N ∈ [0, 1, 2], ∀ a ∈ List.range K.2, cnt4 (K : Nat × Nat).1 (N : Nat) K.2 a ≤ 2 ∧ (1 < cnt4 K.1 (N : Nat) K.2 a → K.1 = 4) := by decide +kernel
theorem nxTo_cnt {p : Plan} {m : Move} {a : Nat} (ha : plc p (arrE m) = a) : ∀ j, j ≤ (nodeAt p m).Ends.length → (nxTo p m j).length = cnt4 (nodeAt p m).Kind (nodeAt p m).Normal j a
  | 0, _ => rfl
  | j + 1, hj => by
    have ih := nxTo_cnt ha j (by omega)
    rw [nxTo_succ, List.length_append, ih]
    unfold cnt4
    rw [List.range_succ, List.filter_append, List.length_append]
    unfold nxK
    rw [List.getElem?_eq_getElem (by omega), ha, lets4_eq]
    simp only
    cases h : lets4 (nodeAt p m).Kind (nodeAt p m).Normal a j <;> simp [h]
theorem next_two {p : Plan} (hv : validB p = true) {m : Move} (hm : movB p m = true) : (nextL p m).length ≤ 2 ∧ (1 < (nextL p m).length → (nodeAt p m).Kind = 4) := by
  obtain ⟨i, hi, ha, hn, j, hj, hp, hx⟩ := node_of hv hm
  have hl : (nextL p m).length = cnt4 (nodeAt p m).Kind (nodeAt p m).Normal (nodeAt p m).Ends.length j := by
    unfold nextL
    rw [List.length_map, srt_len, nxTo_cnt hp _ (Nat.le_refl _)]
  rw [hl]
  have hjl : j < (nodeAt p m).Ends.length := by rw [hn]; exact (List.getElem?_eq_some_iff.1 hj).1
  have hm' := movB_iff.1 hm
  have hat := at_in hv (e := arrE m) hm'.1 hm'.2
  have hnf := node_fine hv hat.1 hat.2
  have hna : p.node (p.at (arrE m)) = nodeAt p m := rfl
  rw [hna] at hnf
  have hk := node_kind hnf
  have he : ((nodeAt p m).Ends.length : Int) = endsN (nodeAt p m).Kind := by
    simp only [nodeB, Bool.and_eq_true, decide_eq_true_eq] at hnf
    exact hnf.2.2.2
  generalize nodeAt p m = n at *
  obtain ⟨N, hN⟩ : ∃ N : Nat, n.Normal = N := ⟨n.Normal.toNat, by omega⟩
  have hN2 : N ∈ [0, 1, 2] := by have : N = 0 ∨ N = 1 ∨ N = 2 := by omega
                                 simpa using this
  have key : ∀ K L : Nat, n.Kind = K → n.Ends.length = L → (K, L) ∈ [(1, 1), (2, 2), (3, 4), (4, 3), (5, 3), (6, 3)] → cnt4 n.Kind n.Normal n.Ends.length j ≤ 2 ∧ (1 < cnt4 n.Kind n.Normal n.Ends.length j → n.Kind = 4) := by
    intro K L hK hL hmem
    have hj4 : j ∈ List.range L := List.mem_range.2 (by omega)
    have := cnt_all (K, L) hmem N hN2 j hj4
    rw [hK, hN, hL]
    exact ⟨this.1, fun h => by have := this.2 h; simp only at this; omega⟩
  have : n.Kind = 1 ∨ n.Kind = 2 ∨ n.Kind = 3 ∨ n.Kind = 4 ∨ n.Kind = 5 ∨ n.Kind = 6 := by omega
  rcases this with h | h | h | h | h | h <;> rw [h] at he <;> simp [endsN] at he
  · exact key 1 1 h (by omega) (by simp)
  · exact key 2 2 h (by omega) (by simp)
  · exact key 3 4 h (by omega) (by simp)
  · exact key 4 3 h (by omega) (by simp)
  · exact key 5 3 h (by omega) (by simp)
  · exact key 6 3 h (by omega) (by simp)
theorem maxI_comm (x y : Int) : maxI x y = maxI y x := by unfold maxI; split <;> split <;> omega

theorem c_TrackBack (p : Plan) (m n : Move) (hf : p.Fit) : PureCall Tryz.prog 4 [p.av, m.av, n.av] (Bo true) := by
  have hfi := c_fine p m n hf
  cases hb : fineB p m n with
  | false =>
    rw [hb] at hfi
    refine PureCall.of_body Tryz.func4 rfl (by decide) (by simp [Tryz.ntmps4]) ?_
    simp only [Tryz.ntmps4, Tryz.results4]
    refine awp_sr rfl fun K hK => ?_
    simp -dsimp
    refine hK _ _ ?_; clear hK K
    refine awp_seq_k fun K1 hK1 => ?_
    refine awp_sr rfl fun K hK => ?_
    simp -dsimp
    refine callK_intro _ (hfi) (by simp) ?_
    simp -dsimp
    refine hK _ _ ?_; clear hK K
    refine awp_cond rfl (fun hc0 => ?_) (fun hc0 => ?_)
    · skip
      skip
      refine awp_sr rfl fun K hK => ?_
      simp -dsimp
      refine callK_intro _ (c_known1) (by simp) ?_
      simp -dsimp
      refine hK _ _ ?_; clear hK K
      exact awp_ret (by simp)
    · skip
      skip
      simp at hc0
  | true =>
    obtain ⟨hv, hm, hn⟩ := fine_parts hb
    rw [hb] at hfi
    have hm' := movB_iff.1 hm
    have hat := at_in hv (e := arrE m) hm'.1 hm'.2
    have hnode := p.node_get hat.1 hat.2
    have hrail := p.rail_get hm'.1 hm'.2
    have h1 := c_tNext_t p m hv hm
    have h2 := c_tFollows_t p m n hv hm hn
    have h4 := c_tFollows_t p (oppM n) (oppM m) hv hn hm
    have h3 := c_tBetween_t p m n hv hm hn
    have h5 := c_tBetween_t p (oppM n) (oppM m) hv hn hm
    have hl := next_two hv hm
    have hna : p.node (p.at (arrE m)) = nodeAt p m := rfl
    have he := foll_eq hv hm hn
    have he2 : follB p (oppM n) (oppM m) = rFoll p (oppM n) (oppM m) := foll_eq hv hn hm
    have hbk : follB p m n = true → (nodeAt p m).Kind ≠ 5 → follB p (oppM n) (oppM m) = true ∧ isSet p (oppM n) = isSet p m ∧ pBetw p (oppM n) (oppM m) = pBetw p m n := by
      intro h h5
      rw [he] at h
      obtain ⟨g1, g2, g3⟩ := foll_back hv hm h h5
      refine ⟨by rw [he2]; exact g1, by unfold isSet; rw [g2], ?_⟩
      unfold pBetw
      rw [arr_opp, lea_opp, g3, maxI_comm]
    rw [hna] at hnode
    have hto : p.at (arrE m) = if m.Back then (p.rail m.Rail).From else (p.rail m.Rail).To := by unfold Plan.at arrE; cases m.Back <;> simp
    generalize nextL p m = L at h1 hl
    generalize pBetw p m n = PB at h3 hbk
    generalize pBetw p (oppM n) (oppM m) = QB at h5 hbk
    generalize follB p m n = b at h2 h3 hbk
    generalize follB p (oppM n) (oppM m) = c at h4 h5 hbk
    generalize isSet p m = s at h3 hbk
    generalize isSet p (oppM n) = t at h5 hbk
    generalize nodeAt p m = N at hnode hl hbk
    rw [hto] at hnode hat
    generalize p.rail m.Rail = R at hrail hnode hat
    refine PureCall.of_body Tryz.func4 rfl (by decide) (by simp [Tryz.ntmps4]) ?_
    simp only [Tryz.ntmps4, Tryz.results4]
    refine awp_sr rfl fun K hK => ?_
    simp -dsimp
    refine hK _ _ ?_; clear hK K
    refine awp_seq_k fun K1 hK1 => ?_
    refine awp_sr rfl fun K hK => ?_
    simp -dsimp
    refine callK_intro _ (hfi) (by simp) ?_
    simp -dsimp
    refine hK _ _ ?_; clear hK K
    refine awp_cond rfl (fun hc0 => ?_) (fun hc0 => ?_)
    · skip
      skip
      simp at hc0
    · skip
      skip
      refine awp_skip ?_
      simp only [thenA, inBlockA, reduceIte, Nat.reduceEqDiff, eq_self]
      refine hK1 _ _ ?_
      refine awp_prune [3, 4, 5] ?_
      simp only [prune, List.map_cons, List.map_nil, Go.AM.look, Nat.reduceEqDiff, reduceIte]
      refine awp_sr rfl fun K hK => ?_
      simp -dsimp
      refine callK_intro _ (h1) (by simp) ?_
      simp -dsimp
      refine hK _ _ ?_; clear hK K
      refine awp_sr rfl fun K hK => ?_
      simp -dsimp
      refine callK_intro _ (h2) (by simp) ?_
      simp -dsimp
      refine hK _ _ ?_; clear hK K
      refine awp_sd mixed rfl fun K hK => ?_
      simp -dsimp
      refine callK_intro _ (c_rOpp n) (by simp) ?_
      simp -dsimp
      refine callK_intro _ (c_rOpp m) (by simp) ?_
      simp -dsimp
      refine callK_intro _ (h4) (by simp) ?_
      simp -dsimp
      refine hK _ _ _ (by decide +kernel) ?_; clear hK K
      refine awp_seq_k fun K2 hK2 => ?_
      refine awp_sr rfl fun K hK => ?_
      simp -dsimp
      refine hK _ _ ?_; clear hK K
      refine awp_cond rfl (fun hc1 => ?_) (fun hc1 => ?_)
      · skip
        skip
        simp at hc1; omega
      · skip
        skip
        refine awp_skip ?_
        simp only [thenA, inBlockA, reduceIte, Nat.reduceEqDiff, eq_self]
        refine hK2 _ _ ?_
        refine awp_prune [3, 4, 5, 7, 9, 11] ?_
        simp only [prune, List.map_cons, List.map_nil, Go.AM.look, Nat.reduceEqDiff, reduceIte]
        refine awp_sr rfl fun K hK => ?_
        simp -dsimp [hrail, hm'.1]
        refine hK _ _ ?_; clear hK K
        refine awp_seq_k fun K3 hK3 => ?_
        refine awp_sr rfl fun K hK => ?_
        simp -dsimp
        refine hK _ _ ?_; clear hK K
        refine awp_cond rfl (fun hc2 => ?_) (fun hc2 => ?_)
        · skip
          skip
          try simp only at hc2
          rw [hc2, if_pos rfl] at hnode hat
          refine awp_r rfl fun K hK => ?_
          simp -dsimp [hrail, hm'.1]
          refine hK _ _ ?_; clear hK K
          simp only [thenA, inBlockA, reduceIte, Nat.reduceEqDiff, eq_self]
          refine hK3 _ _ ?_
          refine awp_prune [3, 4, 5, 7, 9, 11, 13] ?_
          simp only [prune, List.map_cons, List.map_nil, Go.AM.look, Nat.reduceEqDiff, reduceIte]
          refine awp_sr rfl fun K hK => ?_
          simp -dsimp [hnode, hat.1]
          refine hK _ _ ?_; clear hK K
          refine awp_seq_k fun K4 hK4 => ?_
          refine awp_sr rfl fun K hK => ?_
          simp -dsimp
          refine hK _ _ ?_; clear hK K
          refine awp_cond rfl (fun hc3 => ?_) (fun hc3 => ?_)
          · skip
            skip
            simp at hc3; omega
          · skip
            skip
            refine awp_skip ?_
            simp only [thenA, inBlockA, reduceIte, Nat.reduceEqDiff, eq_self]
            refine hK4 _ _ ?_
            refine awp_prune [3, 4, 5, 9, 11, 14] ?_
            simp only [prune, List.map_cons, List.map_nil, Go.AM.look, Nat.reduceEqDiff, reduceIte]
            refine awp_seq_k fun K5 hK5 => ?_
            refine awp_sr rfl fun K hK => ?_
            simp -dsimp
            refine hK _ _ ?_; clear hK K
            refine awp_cond rfl (fun hc4 => ?_) (fun hc4 => ?_)
            · skip
              skip
              refine awp_sr rfl fun K hK => ?_
              simp -dsimp
              refine callK_intro _ (c_known1) (by simp) ?_
              simp -dsimp
              refine hK _ _ ?_; clear hK K
              exact awp_ret (by simp)
            · skip
              skip
              refine awp_skip ?_
              simp only [thenA, inBlockA, reduceIte, Nat.reduceEqDiff, eq_self]
              refine hK5 _ _ ?_
              refine awp_prune [3, 4, 5, 11] ?_
              simp only [prune, List.map_cons, List.map_nil, Go.AM.look, Nat.reduceEqDiff, reduceIte]
              refine awp_sr rfl fun K hK => ?_
              simp -dsimp
              refine callK_intro _ (h3) (by simp) ?_
              simp -dsimp
              refine hK _ _ ?_; clear hK K
              refine awp_sd mixed rfl fun K hK => ?_
              simp -dsimp
              refine callK_intro _ (c_rOpp n) (by simp) ?_
              simp -dsimp
              refine callK_intro _ (c_rOpp m) (by simp) ?_
              simp -dsimp
              refine callK_intro _ (h5) (by simp) ?_
              simp -dsimp
              refine hK _ _ _ (by decide +kernel) ?_; clear hK K
              refine awp_sr rfl fun K hK => ?_
              simp -dsimp
              refine callK_may _ (fun hm => c_known1) (by simp) ?_
              simp -dsimp
              refine hK _ _ ?_; clear hK K
              have hbt : b = true := by cases b; simp at hc4; rfl
              have hk5 : N.Kind ≠ 5 := by intro h; simp [h] at hc4
              obtain ⟨g1, g2, g3⟩ := hbk hbt hk5
              exact awp_ret (by simp [g1, g2, g3, hbt])
        · skip
          skip
          try simp only at hc2
          rw [hc2, if_neg (by simp)] at hnode hat
          refine awp_skip ?_
          simp only [thenA, inBlockA, reduceIte, Nat.reduceEqDiff, eq_self]
          refine hK3 _ _ ?_
          refine awp_prune [3, 4, 5, 7, 9, 11, 13] ?_
          simp only [prune, List.map_cons, List.map_nil, Go.AM.look, Nat.reduceEqDiff, reduceIte]
          refine awp_sr rfl fun K hK => ?_
          simp -dsimp [hnode, hat.1]
          refine hK _ _ ?_; clear hK K
          refine awp_seq_k fun K6 hK6 => ?_
          refine awp_sr rfl fun K hK => ?_
          simp -dsimp
          refine hK _ _ ?_; clear hK K
          refine awp_cond rfl (fun hc3 => ?_) (fun hc3 => ?_)
          · skip
            skip
            simp at hc3; omega
          · skip
            skip
            refine awp_skip ?_
            simp only [thenA, inBlockA, reduceIte, Nat.reduceEqDiff, eq_self]
            refine hK6 _ _ ?_
            refine awp_prune [3, 4, 5, 9, 11, 14] ?_
            simp only [prune, List.map_cons, List.map_nil, Go.AM.look, Nat.reduceEqDiff, reduceIte]
            refine awp_seq_k fun K7 hK7 => ?_
            refine awp_sr rfl fun K hK => ?_
            simp -dsimp
            refine hK _ _ ?_; clear hK K
            refine awp_cond rfl (fun hc4 => ?_) (fun hc4 => ?_)
            · skip
              skip
              refine awp_sr rfl fun K hK => ?_
              simp -dsimp
              refine callK_intro _ (c_known1) (by simp) ?_
              simp -dsimp
              refine hK _ _ ?_; clear hK K
              exact awp_ret (by simp)
            · skip
              skip
              refine awp_skip ?_
              simp only [thenA, inBlockA, reduceIte, Nat.reduceEqDiff, eq_self]
              refine hK7 _ _ ?_
              refine awp_prune [3, 4, 5, 11] ?_
              simp only [prune, List.map_cons, List.map_nil, Go.AM.look, Nat.reduceEqDiff, reduceIte]
              refine awp_sr rfl fun K hK => ?_
              simp -dsimp
              refine callK_intro _ (h3) (by simp) ?_
              simp -dsimp
              refine hK _ _ ?_; clear hK K
              refine awp_sd mixed rfl fun K hK => ?_
              simp -dsimp
              refine callK_intro _ (c_rOpp n) (by simp) ?_
              simp -dsimp
              refine callK_intro _ (c_rOpp m) (by simp) ?_
              simp -dsimp
              refine callK_intro _ (h5) (by simp) ?_
              simp -dsimp
              refine hK _ _ _ (by decide +kernel) ?_; clear hK K
              refine awp_sr rfl fun K hK => ?_
              simp -dsimp
              refine callK_may _ (fun hm => c_known1) (by simp) ?_
              simp -dsimp
              refine hK _ _ ?_; clear hK K
              have hbt : b = true := by cases b; simp at hc4; rfl
              have hk5 : N.Kind ≠ 5 := by intro h; simp [h] at hc4
              obtain ⟨g1, g2, g3⟩ := hbk hbt hk5
              exact awp_ret (by simp [g1, g2, g3, hbt])
end Go.Tram
