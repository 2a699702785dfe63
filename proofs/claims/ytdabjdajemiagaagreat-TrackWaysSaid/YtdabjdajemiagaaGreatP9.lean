/- Walks: the law of ways. -/
import Derived.Test.YtdabjdajemiagaaGreatP8
namespace Go.Tram
open Go.AM Go.Proofs
set_option maxRecDepth 10000
set_option maxHeartbeats 4000000
set_option linter.unusedVariables false
set_option linter.unusedSimpArgs false

def cvSum : List Cover → Int
  | [] => 0
  | c :: l => (c.To - c.From) + cvSum l
theorem cvSum_append : ∀ a b : List Cover, cvSum (a ++ b) = cvSum a + cvSum b
  | [], b => by simp [cvSum]
  | c :: a, b => by
    simp only [List.cons_append, cvSum, cvSum_append a b]
    omega
def covS (front long beg : Int) : Int := if beg ≤ front - long then 0 else if beg ≤ front then beg - (front - long) else long
theorem step_sum {p : Plan} {front long beg : Int} {m : Move} (h1 : 1 ≤ long) (hb : 0 ≤ beg) (hL : 0 ≤ p.len m.Rail) : cvSum (cvStep p front long beg m) = covS front long (beg + p.len m.Rail) - covS front long beg := by
  unfold cvStep
  generalize p.len m.Rail = L at hL ⊢
  have key : cvT front beg L ≤ cvF front long beg → 0 = covS front long (beg + L) - covS front long beg := by
    unfold cvT cvF covS
    intro h
    split at h <;> split at h <;> split <;> (try split) <;> (try split) <;> (try split) <;> omega
  have key2 : ¬ cvT front beg L ≤ cvF front long beg → cvT front beg L - cvF front long beg = covS front long (beg + L) - covS front long beg := by
    unfold cvT cvF covS
    intro h
    split at h <;> split at h <;> split <;> (try split) <;> (try split) <;> (try split) <;> omega
  split
  · rename_i h; simp only [cvSum]; exact key h
  · rename_i h
    have := key2 h
    split <;> simp only [cvSum] <;> omega
theorem sum_to {p : Plan} {l : List Move} {front long : Int} (hv : validB p = true) (hw : wayB p l = true) (h1 : 1 ≤ long) : ∀ i, i ≤ l.length → cvSum (cvTo p l front long i) = covS front long (begTo p l i) - covS front long 0
  | 0, _ => by simp [cvTo, cvSum, begTo]
  | i + 1, hi => by
    have hm := movB_iff.1 (way_mov hw i (by omega))
    have hl := len_bd hv hm.1 hm.2
    have hb := begTo_bd hv hw i (by omega)
    rw [cvTo_succ, cvSum_append, sum_to hv hw h1 i (by omega), step_sum h1 hb.1 (by omega)]
    simp only [begTo]
    omega
theorem cv_mem {p : Plan} {l : List Move} {front long : Int} (hv : validB p = true) (hw : wayB p l = true) : ∀ i, i ≤ l.length → ∀ c ∈ cvTo p l front long i, 0 ≤ c.From ∧ c.From ≤ c.To ∧ c.To ≤ 31000000
  | 0, _ => by simp [cvTo]
  | i + 1, hi => by
    intro c hc
    rw [cvTo_succ, List.mem_append] at hc
    rcases hc with hc | hc
    · exact cv_mem hv hw i (by omega) c hc
    · have hm := movB_iff.1 (way_mov hw i (by omega))
      have hl := len_bd hv hm.1 hm.2
      have hb := begTo_bd hv hw i (by omega)
      generalize mvAt l i = m at *
      unfold cvStep at hc
      split at hc
      · simp at hc
      · rename_i h
        have hF : 0 ≤ cvF front long (begTo p l i) := by unfold cvF; split <;> omega
        have hT : cvT front (begTo p l i) (p.len m.Rail) ≤ p.len m.Rail := by unfold cvT; split <;> omega
        split at hc <;> (simp only [List.mem_singleton] at hc; subst hc; simp only; omega)

theorem c_TrackWays_a (p : Plan) (l : List Move) (front long : Int) (hf : p.Fit) (hll : l.length ≤ maxLen) (hv : validB p = false) : PureCall Tryz.prog 6 [p.av, mLst l, I front, I long] (Bo true) := by
  have hs := c_small p hf
  have hva := c_Valid p
  rw [hv] at hva
  generalize smallB p = s at hs
  refine PureCall.of_body Tryz.func6 rfl (by decide) (by simp [Tryz.ntmps6]) ?_
  simp only [Tryz.ntmps6, Tryz.results6]
  refine awp_sr rfl fun K hK => ?_
  simp -dsimp
  refine hK _ _ ?_; clear hK K
  refine awp_seq_k fun K1 hK1 => ?_
  refine awp_sr rfl fun K hK => ?_
  simp -dsimp
  refine callK_intro _ (hs) (by simp) ?_
  simp -dsimp
  refine callK_may _ (fun hm => hva) (by simp) ?_
  simp -dsimp
  refine hK _ _ ?_; clear hK K
  refine awp_cond rfl (fun hc0 => ?_) (fun hc0 => ?_)
  · skip
    skip
    refine awp_sr rfl fun K hK => ?_
    simp -dsimp
    refine callK_intro _ (c_known1) (by simp) ?_
    simp -dsimp
    refine hK _ _ ?_; clear hK K
    exact awp_ret (by simp)
  · skip
    skip
    simp at hc0
theorem c_TrackWays_b (p : Plan) (l : List Move) (front long : Int) (hf : p.Fit) (hll : l.length ≤ maxLen) (hv : validB p = true) (hw : wayB p l = false) : PureCall Tryz.prog 6 [p.av, mLst l, I front, I long] (Bo true) := by
  have hs := c_small p hf
  have hva := c_Valid p
  rw [hv] at hva
  generalize smallB p = s at hs
  have h1 := fun hn => c_tWayLength_m p l hv hn hw
  have h2 := fun hn => c_tSettings_m p l hv hn hw
  have h3 := fun hn => c_tCovers_f p l front long hv hn (by rw [hw]; rfl)
  have h4 := fun hn => c_rWay p l hv hn
  simp only [hw] at h4
  have w00 : IntKind.i64.wrap 0 = 0 := wrap_in (by omega) (by omega)
  refine PureCall.of_body Tryz.func6 rfl (by decide) (by simp [Tryz.ntmps6]) ?_
  simp only [Tryz.ntmps6, Tryz.results6]
  refine awp_sr rfl fun K hK => ?_
  simp -dsimp
  refine hK _ _ ?_; clear hK K
  refine awp_seq_k fun K1 hK1 => ?_
  refine awp_sr rfl fun K hK => ?_
  simp -dsimp
  refine callK_intro _ (hs) (by simp) ?_
  simp -dsimp
  refine callK_may _ (fun hm => hva) (by simp) ?_
  simp -dsimp
  refine hK _ _ ?_; clear hK K
  refine awp_cond rfl (fun hc0 => ?_) (fun hc0 => ?_)
  · skip
    skip
    refine awp_sr rfl fun K hK => ?_
    simp -dsimp
    refine callK_intro _ (c_known1) (by simp) ?_
    simp -dsimp
    refine hK _ _ ?_; clear hK K
    exact awp_ret (by simp)
  · skip
    skip
    have hn : l.length ≤ 100000 := by simp at hc0; omega
    refine awp_skip ?_
    simp only [thenA, inBlockA, reduceIte, Nat.reduceEqDiff, eq_self]
    refine hK1 _ _ ?_
    refine awp_prune [1, 2, 3, 4] ?_
    simp only [prune, List.map_cons, List.map_nil, Go.AM.look, Nat.reduceEqDiff, reduceIte]
    refine awp_sr rfl fun K hK => ?_
    simp -dsimp
    refine callK_intro _ (h1 hn) (by simp) ?_
    simp -dsimp
    refine hK _ _ ?_; clear hK K
    refine awp_sr rfl fun K hK => ?_
    simp -dsimp
    refine callK_intro _ (h2 hn) (by simp) ?_
    simp -dsimp
    refine hK _ _ ?_; clear hK K
    refine awp_sr rfl fun K hK => ?_
    simp -dsimp
    refine callK_intro _ (h3 hn) (by simp) ?_
    simp -dsimp
    refine hK _ _ ?_; clear hK K
    refine awp_seq_k fun K2 hK2 => ?_
    refine awp_sr rfl fun K hK => ?_
    simp -dsimp
    refine callK_intro _ (h4 hn) (by simp) ?_
    simp -dsimp
    refine hK _ _ ?_; clear hK K
    refine awp_cond rfl (fun hc1 => ?_) (fun hc1 => ?_)
    · skip
      skip
      refine awp_sr rfl fun K hK => ?_
      simp -dsimp [w00]
      refine callK_may _ (fun hm => c_known1) (by simp) ?_
      simp -dsimp [w00]
      refine hK _ _ ?_; clear hK K
      exact awp_ret (by simp)
    · skip
      skip
      simp at hc1

theorem c_TrackWays_c (p : Plan) (l : List Move) (front long : Int) (hf : p.Fit) (hv : validB p = true) (hw : wayB p l = true) (hc : (decide (1 ≤ long) && (decide (long ≤ front) && decide (front ≤ begTo p l l.length))) = false) : PureCall Tryz.prog 6 [p.av, mLst l, I front, I long] (Bo true) := by
  have hs := c_small p hf
  have hva := c_Valid p
  rw [hv] at hva
  generalize smallB p = s at hs
  have hl := way_len hw
  have h1 := c_tWayLength_t p l hv hw
  have h2 := c_tSettings_t p l hv hw
  have h3 := c_tCovers_f p l front long hv (by omega) (by rw [hw, hc]; rfl)
  have h4 := c_rWay p l hv (by omega)
  have h5 := c_rWayLength p l hv hw
  have h6 := c_rSettings p l hv hw
  have hst := stTo_len p l (l.length - 1)
  have h7 := c_SameS (stTo p l (l.length - 1)) (by omega)
  rw [hw] at h4
  generalize stTo p l (l.length - 1) = S at h2 h6 h7
  generalize begTo p l l.length = N at h1 h5 hc
  refine PureCall.of_body Tryz.func6 rfl (by decide) (by simp [Tryz.ntmps6]) ?_
  simp only [Tryz.ntmps6, Tryz.results6]
  refine awp_sr rfl fun K hK => ?_
  simp -dsimp
  refine hK _ _ ?_; clear hK K
  refine awp_seq_k fun K1 hK1 => ?_
  refine awp_sr rfl fun K hK => ?_
  simp -dsimp
  refine callK_intro _ (hs) (by simp) ?_
  simp -dsimp
  refine callK_may _ (fun hm => hva) (by simp) ?_
  simp -dsimp
  refine hK _ _ ?_; clear hK K
  refine awp_cond rfl (fun hc0 => ?_) (fun hc0 => ?_)
  · skip
    skip
    refine awp_sr rfl fun K hK => ?_
    simp -dsimp
    refine callK_intro _ (c_known1) (by simp) ?_
    simp -dsimp
    refine hK _ _ ?_; clear hK K
    exact awp_ret (by simp)
  · skip
    skip
    refine awp_skip ?_
    simp only [thenA, inBlockA, reduceIte, Nat.reduceEqDiff, eq_self]
    refine hK1 _ _ ?_
    refine awp_prune [1, 2, 3, 4] ?_
    simp only [prune, List.map_cons, List.map_nil, Go.AM.look, Nat.reduceEqDiff, reduceIte]
    refine awp_sr rfl fun K hK => ?_
    simp -dsimp
    refine callK_intro _ (h1) (by simp) ?_
    simp -dsimp
    refine hK _ _ ?_; clear hK K
    refine awp_sr rfl fun K hK => ?_
    simp -dsimp
    refine callK_intro _ (h2) (by simp) ?_
    simp -dsimp
    refine hK _ _ ?_; clear hK K
    refine awp_sr rfl fun K hK => ?_
    simp -dsimp
    refine callK_intro _ (h3) (by simp) ?_
    simp -dsimp
    refine hK _ _ ?_; clear hK K
    refine awp_seq_k fun K2 hK2 => ?_
    refine awp_sr rfl fun K hK => ?_
    simp -dsimp
    refine callK_intro _ (h4) (by simp) ?_
    simp -dsimp
    refine hK _ _ ?_; clear hK K
    refine awp_cond rfl (fun hc1 => ?_) (fun hc1 => ?_)
    · skip
      skip
      simp at hc1
    · skip
      skip
      refine awp_skip ?_
      simp only [thenA, inBlockA, reduceIte, Nat.reduceEqDiff, eq_self]
      refine hK2 _ _ ?_
      refine awp_prune [1, 2, 3, 4, 9, 10, 11, 12, 13, 14] ?_
      simp only [prune, List.map_cons, List.map_nil, Go.AM.look, Nat.reduceEqDiff, reduceIte]
      refine awp_seq_k fun K3 hK3 => ?_
      refine awp_sr rfl fun K hK => ?_
      simp -dsimp
      refine callK_may _ (fun hm => h5) (by simp) ?_
      simp -dsimp
      refine callK_may _ (fun hm => h6) (by simp) ?_
      simp -dsimp
      refine callK_may _ (fun hm => h7) (by simp) ?_
      simp -dsimp
      refine hK _ _ ?_; clear hK K
      refine awp_cond rfl (fun hc2 => ?_) (fun hc2 => ?_)
      · skip
        skip
        simp at hc2
      · skip
        skip
        refine awp_skip ?_
        simp only [thenA, inBlockA, reduceIte, Nat.reduceEqDiff, eq_self]
        refine hK3 _ _ ?_
        refine awp_prune [1, 2, 3, 4, 9, 13, 14] ?_
        simp only [prune, List.map_cons, List.map_nil, Go.AM.look, Nat.reduceEqDiff, reduceIte]
        refine awp_seq_k fun K4 hK4 => ?_
        refine awp_sr rfl fun K hK => ?_
        simp -dsimp
        refine hK _ _ ?_; clear hK K
        refine awp_cond rfl (fun hc3 => ?_) (fun hc3 => ?_)
        · skip
          skip
          refine awp_sr rfl fun K hK => ?_
          simp -dsimp
          refine callK_may _ (fun hm => c_known1) (by simp) ?_
          simp -dsimp
          refine hK _ _ ?_; clear hK K
          exact awp_ret (by simp)
        · skip
          skip
          exfalso; simp at hc3 hc; omega

theorem c_TrackWays_d (p : Plan) (l : List Move) (front long : Int) (hf : p.Fit) (hv : validB p = true) (hw : wayB p l = true) (g1 : 1 ≤ long) (g2 : long ≤ front) (g3 : front ≤ begTo p l l.length) : PureCall Tryz.prog 6 [p.av, mLst l, I front, I long] (Bo true) := by
  have hs := c_small p hf
  have hva := c_Valid p
  rw [hv] at hva
  generalize smallB p = s at hs
  have hl := way_len hw
  have h1 := c_tWayLength_t p l hv hw
  have h2 := c_tSettings_t p l hv hw
  have h3 := c_tCovers_t p l front long hv hw g1 g2 g3
  have h4 := c_rWay p l hv (by omega)
  have h5 := c_rWayLength p l hv hw
  have h6 := c_rSettings p l hv hw
  have hst := stTo_len p l (l.length - 1)
  have h7 := c_SameS (stTo p l (l.length - 1)) (by omega)
  have h8 := c_rCov p l front long hv hw g1 g2 g3
  have hcl := cvTo_len p l front long l.length
  have h9 := c_SameC_lst (cvTo p l front long l.length) (by omega)
  have hbd := begTo_bd hv hw l.length (Nat.le_refl _)
  have hsum : cvSum (cvTo p l front long l.length) = long := by
    rw [sum_to hv hw g1 l.length (Nat.le_refl _)]
    unfold covS
    split <;> split <;> (try split) <;> (try split) <;> omega
  have hmem := cv_mem (front := front) (long := long) hv hw l.length (Nat.le_refl _)
  rw [hw] at h4
  generalize stTo p l (l.length - 1) = S at h2 h6 h7
  generalize begTo p l l.length = N at h1 h5 g3 hbd
  generalize cvTo p l front long l.length = C at h3 h8 h9 hsum hmem hcl
  have hpart : ∀ i, i ≤ C.length → 0 ≤ cvSum (C.take i) ∧ cvSum (C.take i) ≤ 31000000 * i := by
    intro i
    induction i with
    | zero => intro _; simp [cvSum]
    | succ i ih =>
      intro hi
      have := ih (by omega)
      have hm := hmem C[i] (List.getElem_mem (by omega))
      rw [List.take_add_one, List.getElem?_eq_getElem (by omega), cvSum_append]
      simp only [Option.toList_some, cvSum]
      omega
  refine PureCall.of_body Tryz.func6 rfl (by decide) (by simp [Tryz.ntmps6]) ?_
  simp only [Tryz.ntmps6, Tryz.results6]
  refine awp_sr rfl fun K hK => ?_
  simp -dsimp
  refine hK _ _ ?_; clear hK K
  refine awp_seq_k fun K1 hK1 => ?_
  refine awp_sr rfl fun K hK => ?_
  simp -dsimp
  refine callK_intro _ (hs) (by simp) ?_
  simp -dsimp
  refine callK_may _ (fun hm => hva) (by simp) ?_
  simp -dsimp
  refine hK _ _ ?_; clear hK K
  refine awp_cond rfl (fun hc0 => ?_) (fun hc0 => ?_)
  · skip
    skip
    refine awp_sr rfl fun K hK => ?_
    simp -dsimp
    refine callK_intro _ (c_known1) (by simp) ?_
    simp -dsimp
    refine hK _ _ ?_; clear hK K
    exact awp_ret (by simp)
  · skip
    skip
    refine awp_skip ?_
    simp only [thenA, inBlockA, reduceIte, Nat.reduceEqDiff, eq_self]
    refine hK1 _ _ ?_
    refine awp_prune [1, 2, 3, 4] ?_
    simp only [prune, List.map_cons, List.map_nil, Go.AM.look, Nat.reduceEqDiff, reduceIte]
    refine awp_sr rfl fun K hK => ?_
    simp -dsimp
    refine callK_intro _ (h1) (by simp) ?_
    simp -dsimp
    refine hK _ _ ?_; clear hK K
    refine awp_sr rfl fun K hK => ?_
    simp -dsimp
    refine callK_intro _ (h2) (by simp) ?_
    simp -dsimp
    refine hK _ _ ?_; clear hK K
    refine awp_sr rfl fun K hK => ?_
    simp -dsimp
    refine callK_intro _ (h3) (by simp) ?_
    simp -dsimp
    refine hK _ _ ?_; clear hK K
    refine awp_seq_k fun K2 hK2 => ?_
    refine awp_sr rfl fun K hK => ?_
    simp -dsimp
    refine callK_intro _ (h4) (by simp) ?_
    simp -dsimp
    refine hK _ _ ?_; clear hK K
    refine awp_cond rfl (fun hc1 => ?_) (fun hc1 => ?_)
    · skip
      skip
      simp at hc1
    · skip
      skip
      refine awp_skip ?_
      simp only [thenA, inBlockA, reduceIte, Nat.reduceEqDiff, eq_self]
      refine hK2 _ _ ?_
      refine awp_prune [1, 2, 3, 4, 9, 10, 11, 12, 13, 14] ?_
      simp only [prune, List.map_cons, List.map_nil, Go.AM.look, Nat.reduceEqDiff, reduceIte]
      refine awp_seq_k fun K3 hK3 => ?_
      refine awp_sr rfl fun K hK => ?_
      simp -dsimp
      refine callK_may _ (fun hm => h5) (by simp) ?_
      simp -dsimp
      refine callK_may _ (fun hm => h6) (by simp) ?_
      simp -dsimp
      refine callK_may _ (fun hm => h7) (by simp) ?_
      simp -dsimp
      refine hK _ _ ?_; clear hK K
      refine awp_cond rfl (fun hc2 => ?_) (fun hc2 => ?_)
      · skip
        skip
        simp at hc2
      · skip
        skip
        refine awp_skip ?_
        simp only [thenA, inBlockA, reduceIte, Nat.reduceEqDiff, eq_self]
        refine hK3 _ _ ?_
        refine awp_prune [1, 2, 3, 4, 9, 13, 14] ?_
        simp only [prune, List.map_cons, List.map_nil, Go.AM.look, Nat.reduceEqDiff, reduceIte]
        refine awp_seq_k fun K4 hK4 => ?_
        refine awp_sr rfl fun K hK => ?_
        simp -dsimp
        refine hK _ _ ?_; clear hK K
        refine awp_cond rfl (fun hc3 => ?_) (fun hc3 => ?_)
        · skip
          skip
          exfalso; simp at hc3; omega
        · skip
          skip
          refine awp_skip ?_
          simp only [thenA, inBlockA, reduceIte, Nat.reduceEqDiff, eq_self]
          refine hK4 _ _ ?_
          refine awp_prune [1, 2, 3, 4, 13, 14] ?_
          simp only [prune, List.map_cons, List.map_nil, Go.AM.look, Nat.reduceEqDiff, reduceIte]
          refine awp_sr rfl fun K hK => ?_
          simp -dsimp
          refine hK _ _ ?_; clear hK K
          refine awp_seq_k fun K5 hK5 => ?_
          refine awp_sr rfl fun K hK => ?_
          simp -dsimp
          refine hK _ _ ?_; clear hK K
          refine awp_block ?_
          refine awp_prune [1, 2, 3, 4, 13, 14, 15, 16] ?_
          simp only [prune, List.map_cons, List.map_nil, Go.AM.look, Nat.reduceEqDiff, reduceIte]
          refine awp_loop_l [1, 2, 3, 4, 13, 14] (α := Nat) (fun i => [(16, I i), (15, I (cvSum (C.take i)))]) (fun i => [some (.els 2 [p.cells])]) (fun i => i ≤ C.length) (fun i => C.length - i) 0 ?_ ?_ ?_
          · simp
          · exact sub_same (by simp [cvSum])
          rintro i i1
          simp only [List.cons_append, List.nil_append, prune, List.map_cons, List.map_nil, Go.AM.look, Nat.reduceEqDiff, reduceIte]
          refine awp_seq_k fun K6 hK6 => ?_
          refine awp_sr rfl fun K hK => ?_
          simp -dsimp
          refine hK _ _ ?_; clear hK K
          refine awp_cond rfl (fun hc4 => ?_) (fun hc4 => ?_)
          · skip
            skip
            have hi : i < C.length := by simpa using hc4
            obtain ⟨c, hx⟩ : ∃ c, C[i]? = some c := ⟨_, List.getElem?_eq_getElem hi⟩
            have wi : IntKind.i64.wrap ((i : Int) + 1) = (i : Int) + 1 := wrap_in (by omega) (by omega)
            have hp1 := hpart i (by omega)
            have hcm := hmem c (List.mem_of_getElem? hx)
            have hts : cvSum (C.take (i + 1)) = cvSum (C.take i) + c.To - c.From := by rw [List.take_add_one, hx, cvSum_append]; simp only [Option.toList_some, cvSum]; omega
            generalize cvSum (C.take i) = Q at hp1 hts ⊢
            have wa : IntKind.i64.wrap (Q + c.To) = Q + c.To := wrap_in (by omega) (by omega)
            have wb : IntKind.i64.wrap (Q + c.To - c.From) = Q + c.To - c.From := wrap_in (by omega) (by omega)
            refine awp_skip ?_
            simp only [thenA, inBlockA, reduceIte, Nat.reduceEqDiff, eq_self]
            refine hK6 _ _ ?_
            refine awp_prune [1, 2, 3, 4, 13, 14, 15, 16] ?_
            simp only [prune, List.map_cons, List.map_nil, Go.AM.look, Nat.reduceEqDiff, reduceIte]
            refine awp_seq_k fun K7 hK7 => ?_
            refine awp_block ?_
            refine awp_draw mixed rfl fun K hK => ?_
            simp -dsimp [hx, wa, wb]
            refine hK _ _ _ (by decide +kernel) ?_; clear hK K
            simp only [thenA, inBlockA, reduceIte, Nat.reduceEqDiff, eq_self]
            refine hK7 _ _ ?_
            refine awp_prune [1, 2, 3, 4, 13, 14, 15, 16] ?_
            simp only [prune, List.map_cons, List.map_nil, Go.AM.look, Nat.reduceEqDiff, reduceIte]
            refine awp_r rfl fun K hK => ?_
            simp -dsimp [wi]
            refine hK _ _ ?_; clear hK K
            simp only [thenA, inBlockA, reduceIte, Nat.reduceEqDiff, eq_self]
            exact ⟨i + 1, by omega, by omega, sub_same (by simp [hts])⟩
          · skip
            skip
            have hie : i = C.length := by simp at hc4; omega
            subst hie
            rw [List.take_length, hsum]
            refine awp_exit ?_
            simp only [thenA, inBlockA, reduceIte, Nat.reduceEqDiff, eq_self]
            refine hK5 _ _ ?_
            refine awp_prune [1, 2, 3, 4, 13, 14, 15] ?_
            simp only [prune, List.map_cons, List.map_nil, Go.AM.look, Nat.reduceEqDiff, reduceIte]
            refine awp_sr rfl fun K hK => ?_
            simp -dsimp
            refine callK_may _ (fun hm => h8) (by simp) ?_
            simp -dsimp
            refine callK_may _ (fun hm => h9) (by simp) ?_
            simp -dsimp
            refine callK_may _ (fun hm => c_known1) (by simp) ?_
            simp -dsimp
            refine hK _ _ ?_; clear hK K
            exact awp_ret (by simp)

theorem c_TrackWays (p : Plan) (l : List Move) (front long : Int) (hf : p.Fit) (hll : l.length ≤ maxLen) : PureCall Tryz.prog 6 [p.av, mLst l, I front, I long] (Bo true) := by
  cases hv : validB p with
  | false => exact c_TrackWays_a p l front long hf hll hv
  | true =>
    cases hw : wayB p l with
    | false => exact c_TrackWays_b p l front long hf hll hv hw
    | true =>
      cases hc : (decide (1 ≤ long) && (decide (long ≤ front) && decide (front ≤ begTo p l l.length))) with
      | false => exact c_TrackWays_c p l front long hf hv hw hc
      | true =>
        simp only [Bool.and_eq_true, decide_eq_true_eq] at hc
        exact c_TrackWays_d p l front long hf hv hw hc.1 hc.2.1 hc.2.2
end Go.Tram
