/- Walks: where two rails come nearest. -/
import Derived.Test.YteodgilndjjgdaaV1
namespace Go.Tram
open Go.AM Go.Proofs
set_option maxRecDepth 10000
set_option maxHeartbeats 4000000
set_option linter.unusedVariables false
set_option linter.unusedSimpArgs false

theorem flat_pq (l : List Pair) : (l.map Pair.cells).all (fun e => e.all flatC) = true := by simp [flatC]
@[simp high] theorem flat_pq_ren (l : List Pair) (g : List (Option Nat)) (n : Nat) : (l.map Pair.cells).map (fun e => e.map (renAV g n)) = l.map Pair.cells := map_flatC (fun x h => flatC_ren h g n) (flat_pq l)
@[simp high] theorem flat_pq_frzP (l : List Pair) (H : Hp) (n : Nat) : (l.map Pair.cells).map (fun e => e.map (frzP H n)) = l.map Pair.cells := map_flatC (fun x h => flatC_frzP h H n) (flat_pq l)
theorem pq_take (l : List Pair) : (l.map Pair.cells).take l.length = l.map Pair.cells := List.take_of_length_le (by simp)

theorem c_Witness1 (x y : Pair) : PureCall Try.prog 73 [.agg x.cells, .agg y.cells] (Bo (decide (x.gap < y.gap))) := by
  refine PureCall.of_body Try.func73 rfl (by decide) (by simp [Try.ntmps73]) ?_
  simp only [Try.ntmps73, Try.results73]
  refine awp_sr rfl fun K hK => ?_
  simp -dsimp
  refine hK _ _ ?_; clear hK K
  refine awp_sr rfl fun K hK => ?_
  simp -dsimp
  refine hK _ _ ?_; clear hK K
  exact awp_ret (by simp)

theorem c_least (l : List Pair) (h1 : 1 ≤ l.length) (hn : l.length ≤ 100000) (hg : ∀ q ∈ l, q.gap ≤ 5000) : PureCall Try.prog 72 [.lst 5 (l.map Pair.cells), .clo 73 []] (.agg (leastP l).cells) := by
  obtain ⟨x0, h0⟩ : ∃ x, l[0]? = some x := ⟨_, List.getElem?_eq_getElem (by omega)⟩
  have hl0 : leastP (l.take 1) = x0 := by rw [leastP_take h0]; exact wstep_first (hg x0 (List.mem_of_getElem? h0))
  refine PureCall.of_body Try.func72 rfl (by decide) (by simp [Try.ntmps72]) ?_
  simp only [Try.ntmps72, Try.results72]
  refine awp_sr rfl fun K hK => ?_
  simp -dsimp
  refine hK _ _ ?_; clear hK K
  refine awp_sr rfl fun K hK => ?_
  simp -dsimp [h0]
  refine hK _ _ ?_; clear hK K
  refine awp_seq_k fun K1 hK1 => ?_
  refine awp_sr rfl fun K hK => ?_
  simp -dsimp [h1, pq_take]
  refine hK _ _ ?_; clear hK K
  refine awp_block ?_
  refine awp_prune [1, 4, 5, 12, 13, 14] ?_
  simp only [prune, List.map_cons, List.map_nil, Go.AM.look, Nat.reduceEqDiff, reduceIte]
  refine awp_loop_l [1, 4, 5, 12, 13] (α := Nat) (fun k => [(14, I k)]) (fun k => [some (.els 5 [[I 0, I 0, I 0, I 0, I 0]]), some (.els 5 [(leastP (l.take (k + 1))).cells])]) (fun k => k + 1 ≤ l.length) (fun k => l.length - k) 0 ?_ ?_ ?_
  · exact h1
  · exact sub_rb [some 0, some 1] rfl (by simp) (by simp [hl0])
  rintro k k1
  simp only [List.cons_append, List.nil_append, prune, List.map_cons, List.map_nil, Go.AM.look, Nat.reduceEqDiff, reduceIte]
  refine awp_sr rfl fun K hK => ?_
  simp -dsimp
  refine hK _ _ ?_; clear hK K
  refine awp_seq_k fun K2 hK2 => ?_
  refine awp_cond rfl (fun hc0 => ?_) (fun hc0 => ?_)
  · skip
    try simp at hc0
    obtain ⟨x, hx⟩ : ∃ x, l[k + 1]? = some x := ⟨_, List.getElem?_eq_getElem (by omega)⟩
    have wk : IntKind.i64.wrap ((k : Int) + 1) = (k : Int) + 1 := wrap_in (by omega) (by omega)
    have hs := leastP_take hx
    refine awp_skip ?_
    simp only [thenA, inBlockA, reduceIte, Nat.reduceEqDiff, eq_self]
    refine hK2 _ _ ?_
    refine awp_prune [1, 4, 5, 12, 13, 14] ?_
    simp only [prune, List.map_cons, List.map_nil, Go.AM.look, Nat.reduceEqDiff, reduceIte]
    refine awp_seq_k fun K3 hK3 => ?_
    refine awp_block ?_
    refine awp_sr rfl fun K hK => ?_
    simp -dsimp [hx]
    refine hK _ _ ?_; clear hK K
    refine awp_sr rfl fun K hK => ?_
    simp -dsimp
    refine callK_intro _ (c_Witness1 x (leastP (l.take (k + 1)))) (by simp) ?_
    simp -dsimp
    refine hK _ _ ?_; clear hK K
    refine awp_cond rfl (fun hc1 => ?_) (fun hc1 => ?_)
    · skip
      try simp at hc1
      have hs2 : leastP (l.take (k + 1 + 1)) = x := by rw [hs]; exact if_pos hc1
      refine awp_r rfl fun K hK => ?_
      simp -dsimp
      refine hK _ _ ?_; clear hK K
      simp only [thenA, inBlockA, reduceIte, Nat.reduceEqDiff, eq_self]
      refine hK3 _ _ ?_
      refine awp_prune [1, 4, 5, 12, 13, 14] ?_
      simp only [prune, List.map_cons, List.map_nil, Go.AM.look, Nat.reduceEqDiff, reduceIte]
      refine awp_r rfl fun K hK => ?_
      simp -dsimp [wk]
      refine hK _ _ ?_; clear hK K
      simp only [thenA, inBlockA, reduceIte, Nat.reduceEqDiff, eq_self]
      exact ⟨k + 1, by omega, by omega, sub_rb [some 0, some 1] rfl (by simp) (by simp [hs2])⟩
    · skip
      try simp at hc1
      have hs2 : leastP (l.take (k + 1 + 1)) = leastP (l.take (k + 1)) := by rw [hs]; exact if_neg (by omega)
      refine awp_skip ?_
      simp only [thenA, inBlockA, reduceIte, Nat.reduceEqDiff, eq_self]
      refine hK3 _ _ ?_
      refine awp_prune [1, 4, 5, 12, 13, 14] ?_
      simp only [prune, List.map_cons, List.map_nil, Go.AM.look, Nat.reduceEqDiff, reduceIte]
      refine awp_r rfl fun K hK => ?_
      simp -dsimp [wk]
      refine hK _ _ ?_; clear hK K
      simp only [thenA, inBlockA, reduceIte, Nat.reduceEqDiff, eq_self]
      exact ⟨k + 1, by omega, by omega, sub_rb [some 0, some 1] rfl (by simp) (by simp [hs2])⟩
  · skip
    try simp at hc0
    have hke : k + 1 = l.length := by omega
    refine awp_exit ?_
    simp only [thenA, inBlockA, reduceIte, Nat.reduceEqDiff, eq_self]
    refine hK1 _ _ ?_
    refine awp_prune [4, 5] ?_
    simp only [prune, List.map_cons, List.map_nil, Go.AM.look, Nat.reduceEqDiff, reduceIte]
    refine awp_sr rfl fun K hK => ?_
    simp -dsimp
    refine hK _ _ ?_; clear hK K
    refine awp_ret ?_
    have hl : leastP (l.take (k + 1)) = leastP l := by rw [List.take_of_length_le (by omega)]
    simp [hl]

theorem c_Witness_v (p : Plan) (a b : Int) (h : validB p = false) : PureCall Try.prog 37 [p.av, I a, I b] (.tup [.agg [I 0, I 0], .agg [I 0, I 0], I 0, I 2]) := by
  refine PureCall.of_body Try.func37 rfl (by decide) (by simp [Try.ntmps37]) ?_
  simp only [Try.ntmps37, Try.results37]
  refine awp_sr rfl fun K hK => ?_
  simp -dsimp
  refine hK _ _ ?_; clear hK K
  refine awp_sr rfl fun K hK => ?_
  simp -dsimp
  refine callK_intro _ (c_begin_f p h) (by simp) ?_
  simp -dsimp
  refine hK _ _ ?_; clear hK K
  refine awp_seq_k fun K1 hK1 => ?_
  refine awp_sr rfl fun K hK => ?_
  simp -dsimp
  refine callK_may _ (fun hm => (by simp at hm : PureCall Try.prog 66 _ (Bo false))) (by simp) ?_
  simp -dsimp
  refine callK_may _ (fun hm => (by simp at hm : PureCall Try.prog 66 _ (Bo false))) (by simp) ?_
  simp -dsimp
  refine hK _ _ ?_; clear hK K
  refine awp_cond rfl (fun hc0 => ?_) (fun hc0 => ?_)
  · skip
    skip
    refine awp_sr rfl fun K hK => ?_
    simp -dsimp
    refine hK _ _ ?_; clear hK K
    exact awp_ret (by simp)
  · skip
    skip
    simp at hc0
theorem c_Witness_f (p : Plan) (a b : Int) (hv : validB p = true) (h : (inr a 0 (p.Rails.length - 1) && inr b 0 (p.Rails.length - 1)) = false) : PureCall Try.prog 37 [p.av, I a, I b] (.tup [.agg [I 0, I 0], .agg [I 0, I 0], I 0, I 2]) := by
  refine PureCall.of_body Try.func37 rfl (by decide) (by simp [Try.ntmps37]) ?_
  simp only [Try.ntmps37, Try.results37]
  refine awp_sr rfl fun K hK => ?_
  simp -dsimp
  refine hK _ _ ?_; clear hK K
  refine awp_sr rfl fun K hK => ?_
  simp -dsimp
  refine callK_intro _ (c_begin p hv) (by simp) ?_
  simp -dsimp
  refine hK _ _ ?_; clear hK K
  refine awp_seq_k fun K1 hK1 => ?_
  refine awp_sr rfl fun K hK => ?_
  simp -dsimp
  refine callK_may _ (fun hm => c_srail p a) (by simp) ?_
  simp -dsimp
  refine callK_may _ (fun hm => c_srail p b) (by simp) ?_
  simp -dsimp
  refine hK _ _ ?_; clear hK K
  refine awp_cond rfl (fun hc0 => ?_) (fun hc0 => ?_)
  · skip
    skip
    refine awp_sr rfl fun K hK => ?_
    simp -dsimp
    refine hK _ _ ?_; clear hK K
    exact awp_ret (by simp)
  · skip
    skip
    exfalso; simp at hc0; simp [hc0] at h

def witQ (p : Plan) (a b : Int) : List Pair := (pairs p a b).map pairQ
def wit (p : Plan) (a b : Int) : Pair := leastP (witQ p a b)
theorem witQ_take {p : Plan} {a b : Int} {n : Nat} {q : SS × SS} (h : (pairs p a b)[n]? = some q) : (witQ p a b).take (n + 1) = (witQ p a b).take n ++ [pairQ q] := by
  rw [List.take_add_one]; simp [witQ, h]

theorem c_Witness_t (p : Plan) (a b : Int) (hv : validB p = true) (ha : inr a 0 (p.Rails.length - 1) = true) (hb : inr b 0 (p.Rails.length - 1) = true) :
    PureCall Try.prog 37 [p.av, I a, I b] (.tup [.agg [I (wit p a b).a.Rail, I (wit p a b).a.Segment], .agg [I (wit p a b).b.Rail, I (wit p a b).b.Segment], I (wit p a b).gap, I 0]) := by
  have ia := inr_iff.1 ha
  have ib := inr_iff.1 hb
  have ra := rail_ok hv (r := a) (by omega) (by omega)
  have rb := rail_ok hv (r := b) (by omega) (by omega)
  have sa := ra.s
  have sb := rb.s
  have la := strips_len p a
  have lb := strips_len p b
  have hpl := pairs_len p a b
  have hpb : (pairs p a b).length ≤ 31 * 31 := by rw [hpl]; exact Nat.mul_le_mul (by omega) (by omega)
  have hp1 : 1 ≤ (pairs p a b).length := by rw [hpl, la, lb]; exact Nat.mul_le_mul (show 1 ≤ _ by omega) (show 1 ≤ _ by omega)
  have hwl : (witQ p a b).length = (pairs p a b).length := by simp [witQ]
  have htm : (List.map Pair.cells (witQ p a b)).take (pairs p a b).length = List.map Pair.cells (witQ p a b) := List.take_of_length_le (by rw [List.length_map, hwl]; exact Nat.le_refl _)
  have hlst := c_least (witQ p a b) (by omega) (by omega) (by intro q hq; obtain ⟨z, _, rfl⟩ := List.mem_map.1 hq; exact gapQ_bd z)
  have h1 := c_srail p a
  have h2 := c_srail p b
  rw [ha] at h1
  rw [hb] at h2
  have hbg := c_begin p hv
  have hall := c_all p a b
  have hit := c_all1 p a b ha hb (by omega) (by omega)
  generalize sheet p = sh at hbg hall hit h1 h2
  refine PureCall.of_bodyG Try.func37 rfl (by decide) (by simp [Try.ntmps37]) ?_
  intro J hJ
  simp only [Try.ntmps37, Try.results37]
  refine gwp_sr rfl (by decide) rfl rfl fun K hK => ?_
  simp -dsimp
  refine hK _ _ ?_; clear hK K
  refine gwp_sr rfl (by decide) rfl rfl fun K hK => ?_
  simp -dsimp
  refine callK_intro _ (hbg) (by simp) ?_
  simp -dsimp
  refine hK _ _ ?_; clear hK K
  refine gwp_seq_k fun K1 hK1 => ?_
  refine gwp_sr rfl (by decide) rfl rfl fun K hK => ?_
  simp -dsimp
  refine callK_may _ (fun hm => h1) (by simp) ?_
  simp -dsimp
  refine callK_may _ (fun hm => h2) (by simp) ?_
  simp -dsimp
  refine hK _ _ ?_; clear hK K
  refine gwp_cond rfl (fun hc0 => ?_) (fun hc0 => ?_)
  · skip
    skip
    simp at hc0
  · skip
    skip
    refine gwp_skip ?_
    simp only [thenA, inBlockA, reduceIte, Nat.reduceEqDiff, eq_self]
    refine hK1 _ _ ?_
    refine gwp_prune [1, 2, 6, 7, 10] (Or.inr (by simp)) ?_
    simp only [prune, List.map_cons, List.map_nil, Go.AM.look, Nat.reduceEqDiff, reduceIte]
    refine gwp_sr rfl (by decide) rfl rfl fun K hK => ?_
    simp -dsimp
    refine hK _ _ ?_; clear hK K
    refine gwp_seq_k fun K2 hK2 => ?_
    refine gwp_sr rfl (by decide) rfl rfl fun K hK => ?_
    simp -dsimp
    refine callK_intro _ (hall) (by simp) ?_
    simp -dsimp
    refine hK _ _ ?_; clear hK K
    refine gwp_block ?_
    refine gwp_prune [6, 7, 12, 40] (Or.inr (by simp)) ?_
    simp only [prune, List.map_cons, List.map_nil, Go.AM.look, Nat.reduceEqDiff, reduceIte]
    refine gwp_range_s hJ [6, 7, 12, 40] (fun n => [some (.els 2 [p.cells]), some (.els 2 [[I 0, I 0]]), some (.els 2 [[I 0, I 0]]), some (.els 1 [[.row 4 0 ((witQ p a b).take n).length]]), some (.els 5 (((witQ p a b).take n).map Pair.cells))]) (fun n => True) rfl (hit) rfl (by simp) (by decide) (by decide) (by decide) (pairAV_len p a b) ?_ ?_ ?_ ?_
    · trivial
    · exact (sub_nilc 3 0 0 5 (sz0 := 1) (by simp; rfl) (by simp; rfl) (by simp)).trans (sub_rb [some 0, some 1, some 2, some 3, some 4] rfl (by simp) (by simp))
    · intro n xv hxn hi l1 J1 hJ1
      obtain ⟨q, hq, rfl⟩ : ∃ q, (pairs p a b)[n]? = some q ∧ pairAV q = xv := by simpa using hxn
      have hmq := pairs_mem (List.mem_of_getElem? hq)
      have os := strips_ok ra hmq.1
      have ot := strips_ok rb hmq.2
      have hcg := c_gap q.1.a q.1.b q.2.a q.2.b os.a os.b ot.a ot.b
      have htk := witQ_take hq
      have hol : ((witQ p a b).take n).length ≤ 961 := by rw [List.length_take]; omega
      obtain ⟨s, t⟩ := q
      simp only [pairAV] at hcg ⊢
      generalize hout : (witQ p a b).take n = out at htk hol ⊢
      have f1 : Fits (out.length + 1) 41 := fits_of (by omega) (by omega)
      have hot := pq_take out
      simp only [List.zip_cons_cons, List.zip_nil_left, List.zip_nil_right, List.cons_append, List.nil_append]
      refine gwp_sr rfl (by decide) rfl rfl fun K hK => ?_
      simp -dsimp
      refine hK _ _ ?_; clear hK K
      refine gwp_r rfl (by decide) rfl rfl fun K hK => ?_
      simp -dsimp
      refine hK _ _ ?_; clear hK K
      simp only [onlyN]
      intro J2 hJ2
      refine gwp_prune [6, 7, 12, 13, 14, 40] (Or.inr (by simp)) ?_
      simp only [prune, List.map_cons, List.map_nil, Go.AM.look, Nat.reduceEqDiff, reduceIte]
      refine gwp_block ?_
      refine gwp_draw mixed rfl (by decide) rfl rfl fun K hK => ?_
      simp -dsimp [f1]
      refine callK_intro _ (hcg) (by simp) ?_
      simp -dsimp [f1]
      refine hK _ _ _ (by decide +kernel) ?_; clear hK K
      simp only [thenA, inBlockA, roundQ, reduceIte, Nat.reduceEqDiff, eq_self]
      exact ⟨trivial, sub_rb [some 0, some 1, some 2, some 3, some 7] rfl (by simp) (by simp [htk, hot, pairQ, gapQ])⟩
    · intro hdone
      simp only [thenA, inBlockA, reduceIte, Nat.reduceEqDiff, eq_self]
      refine hK2 _ _ ?_
      refine gwp_prune [6, 7, 12] (Or.inr (by simp)) ?_
      simp only [prune, List.map_cons, List.map_nil, Go.AM.look, Nat.reduceEqDiff, reduceIte]
      refine gwp_sr rfl (by decide) rfl rfl fun K hK => ?_
      simp -dsimp [htm, hwl, Nat.min_self, pq_take]
      refine callK_intro _ (hlst) (by simp) ?_
      simp -dsimp [htm, hwl, Nat.min_self, pq_take]
      refine hK _ _ ?_; clear hK K
      refine gwp_sd mixed rfl (by decide) rfl rfl fun K hK => ?_
      simp -dsimp
      refine hK _ _ _ (by decide +kernel) ?_; clear hK K
      exact gwp_ret (by simp [wit])
end Go.Tram
