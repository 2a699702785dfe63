/- Walks: the program's functions on moves and ways, and what they refuse. -/
import Derived.Test.YtdabjdajemiagaaD5
namespace Go.Tram
open Go.AM Go.Proofs
set_option maxRecDepth 10000
set_option maxHeartbeats 4000000
set_option linter.unusedVariables false
set_option linter.unusedSimpArgs false

theorem flat_m (l : List Move) : (l.map Move.cells).all (fun e => e.all flatC) = true := by simp [flatC]
@[simp high] theorem flat_m_ren (l : List Move) (g : List (Option Nat)) (n : Nat) : (l.map Move.cells).map (fun e => e.map (renAV g n)) = l.map Move.cells := map_flatC (fun x h => flatC_ren h g n) (flat_m l)
@[simp high] theorem flat_m_renF (l : List Move) (H : Nat → Option ARow) (g : List (Option Nat)) (n : Nat) : (l.map Move.cells).map (fun e => e.map (renF H g n)) = l.map Move.cells := map_flatC (fun x h => flatC_renF h H g n) (flat_m l)
@[simp high] theorem flat_m_frzP (l : List Move) (H : Hp) (n : Nat) : (l.map Move.cells).map (fun e => e.map (frzP H n)) = l.map Move.cells := map_flatC (fun x h => flatC_frzP h H n) (flat_m l)
@[simp high] theorem flat_m_plain (l : List Move) : plainEls (l.map Move.cells) = true := plain_flat (flat_m l)

abbrev nilS : AV := .v (.slice none 0 0)
abbrev mLst (l : List Move) : AV := .lst 2 (l.map Move.cells)

theorem c_tNext_v (p : Plan) (m : Move) (h : validB p = false) : PureCall Try.prog 14 [p.av, m.av] (.tup [nilS, I 2]) := by
  refine PureCall.of_body Try.func14 rfl (by decide) (by simp [Try.ntmps14]) ?_
  simp only [Try.ntmps14, Try.results14]
  refine awp_sr rfl fun K hK => ?_
  simp -dsimp
  refine hK _ _ ?_; clear hK K
  refine awp_sr rfl fun K hK => ?_
  simp -dsimp
  refine callK_intro _ (c_open_f p h) (by simp) ?_
  simp -dsimp
  refine hK _ _ ?_; clear hK K
  refine awp_seq_k fun K1 hK1 => ?_
  refine awp_sr rfl fun K hK => ?_
  simp -dsimp
  refine callK_may (Bo true) (fun hm => by simp at hm) (by simp) ?_
  simp -dsimp
  refine hK _ _ ?_; clear hK K
  refine awp_cond rfl (fun hc0 => ?_) (fun hc0 => ?_)
  · skip
    skip
    refine awp_sr rfl fun K hK => ?_
    simp -dsimp
    refine hK _ _ ?_; clear hK K
    exact awp_ret (by simp)
  · skip
    skip
    simp at hc0
theorem c_tDistances_v (p : Plan) (m : Move) (h : validB p = false) : PureCall Try.prog 17 [p.av, m.av] (.tup [nilS, I 2]) := by
  refine PureCall.of_body Try.func17 rfl (by decide) (by simp [Try.ntmps17]) ?_
  simp only [Try.ntmps17, Try.results17]
  refine awp_sr rfl fun K hK => ?_
  simp -dsimp
  refine hK _ _ ?_; clear hK K
  refine awp_sr rfl fun K hK => ?_
  simp -dsimp
  refine callK_intro _ (c_open_f p h) (by simp) ?_
  simp -dsimp
  refine hK _ _ ?_; clear hK K
  refine awp_seq_k fun K1 hK1 => ?_
  refine awp_sr rfl fun K hK => ?_
  simp -dsimp
  refine callK_may (Bo true) (fun hm => by simp at hm) (by simp) ?_
  simp -dsimp
  refine hK _ _ ?_; clear hK K
  refine awp_cond rfl (fun hc0 => ?_) (fun hc0 => ?_)
  · skip
    skip
    refine awp_sr rfl fun K hK => ?_
    simp -dsimp
    refine hK _ _ ?_; clear hK K
    exact awp_ret (by simp)
  · skip
    skip
    simp at hc0
theorem c_tLength_v (p : Plan) (r : Int) (h : validB p = false) : PureCall Try.prog 7 [p.av, I r] (.tup [I 0, I 2]) := by
  refine PureCall.of_body Try.func7 rfl (by decide) (by simp [Try.ntmps7]) ?_
  simp only [Try.ntmps7, Try.results7]
  refine awp_sr rfl fun K hK => ?_
  simp -dsimp
  refine hK _ _ ?_; clear hK K
  refine awp_sr rfl fun K hK => ?_
  simp -dsimp
  refine callK_intro _ (c_open_f p h) (by simp) ?_
  simp -dsimp
  refine hK _ _ ?_; clear hK K
  refine awp_seq_k fun K1 hK1 => ?_
  refine awp_sr rfl fun K hK => ?_
  simp -dsimp
  refine callK_may (Bo true) (fun hm => by simp at hm) (by simp) ?_
  simp -dsimp
  refine hK _ _ ?_; clear hK K
  refine awp_cond rfl (fun hc0 => ?_) (fun hc0 => ?_)
  · skip
    skip
    refine awp_sr rfl fun K hK => ?_
    simp -dsimp
    refine hK _ _ ?_; clear hK K
    exact awp_ret (by simp)
  · skip
    skip
    simp at hc0
theorem c_tLine_v (p : Plan) (r : Int) (h : validB p = false) : PureCall Try.prog 8 [p.av, I r] (.tup [nilS, I 2]) := by
  refine PureCall.of_body Try.func8 rfl (by decide) (by simp [Try.ntmps8]) ?_
  simp only [Try.ntmps8, Try.results8]
  refine awp_sr rfl fun K hK => ?_
  simp -dsimp
  refine hK _ _ ?_; clear hK K
  refine awp_sr rfl fun K hK => ?_
  simp -dsimp
  refine callK_intro _ (c_open_f p h) (by simp) ?_
  simp -dsimp
  refine hK _ _ ?_; clear hK K
  refine awp_seq_k fun K1 hK1 => ?_
  refine awp_sr rfl fun K hK => ?_
  simp -dsimp
  refine callK_may (Bo true) (fun hm => by simp at hm) (by simp) ?_
  simp -dsimp
  refine hK _ _ ?_; clear hK K
  refine awp_cond rfl (fun hc0 => ?_) (fun hc0 => ?_)
  · skip
    skip
    refine awp_sr rfl fun K hK => ?_
    simp -dsimp
    refine hK _ _ ?_; clear hK K
    exact awp_ret (by simp)
  · skip
    skip
    simp at hc0
theorem c_tBetween_v (p : Plan) (m k : Move) (h : validB p = false) : PureCall Try.prog 15 [p.av, m.av, k.av] (.tup [.agg [I 0, I 0], I 2]) := by
  refine PureCall.of_body Try.func15 rfl (by decide) (by simp [Try.ntmps15]) ?_
  simp only [Try.ntmps15, Try.results15]
  refine awp_sr rfl fun K hK => ?_
  simp -dsimp
  refine hK _ _ ?_; clear hK K
  refine awp_sr rfl fun K hK => ?_
  simp -dsimp
  refine callK_intro _ (c_open_f p h) (by simp) ?_
  simp -dsimp
  refine hK _ _ ?_; clear hK K
  refine awp_seq_k fun K1 hK1 => ?_
  refine awp_sr rfl fun K hK => ?_
  simp -dsimp
  refine callK_may (Bo true) (fun hm => by simp at hm) (by simp) ?_
  simp -dsimp
  refine callK_may (Bo true) (fun hm => by simp at hm) (by simp) ?_
  simp -dsimp
  refine hK _ _ ?_; clear hK K
  refine awp_cond rfl (fun hc0 => ?_) (fun hc0 => ?_)
  · skip
    skip
    refine awp_sr rfl fun K hK => ?_
    simp -dsimp
    refine hK _ _ ?_; clear hK K
    exact awp_ret (by simp)
  · skip
    skip
    simp at hc0
theorem c_tCovers_v (p : Plan) (l : List Move) (front long : Int) (h : validB p = false) : PureCall Try.prog 16 [p.av, mLst l, I front, I long] (.tup [nilS, I 2]) := by
  refine PureCall.of_body Try.func16 rfl (by decide) (by simp [Try.ntmps16]) ?_
  simp only [Try.ntmps16, Try.results16]
  refine awp_sr rfl fun K hK => ?_
  simp -dsimp
  refine hK _ _ ?_; clear hK K
  refine awp_sr rfl fun K hK => ?_
  simp -dsimp
  refine callK_intro _ (c_open_f p h) (by simp) ?_
  simp -dsimp
  refine hK _ _ ?_; clear hK K
  refine awp_seq_k fun K1 hK1 => ?_
  refine awp_sr rfl fun K hK => ?_
  simp -dsimp
  refine callK_may (Bo true) (fun hm => by simp at hm) (by simp) ?_
  simp -dsimp
  refine callK_may (I 0) (fun hm => by simp at hm) (by simp) ?_
  simp -dsimp
  refine hK _ _ ?_; clear hK K
  refine awp_cond rfl (fun hc0 => ?_) (fun hc0 => ?_)
  · skip
    skip
    refine awp_sr rfl fun K hK => ?_
    simp -dsimp
    refine hK _ _ ?_; clear hK K
    exact awp_ret (by simp)
  · skip
    skip
    simp at hc0

theorem c_tNext_m (p : Plan) (m : Move) (hv : validB p = true) (h : movB p m = false) : PureCall Try.prog 14 [p.av, m.av] (.tup [nilS, I 2]) := by
  have hop := c_open_t p hv
  have hh := c_nhas p m.Rail m.Back hv
  rw [show inr m.Rail 0 (p.Rails.length - 1) = false from h] at hh
  generalize net p = sh at hop hh
  refine PureCall.of_body Try.func14 rfl (by decide) (by simp [Try.ntmps14]) ?_
  simp only [Try.ntmps14, Try.results14]
  refine awp_sr rfl fun K hK => ?_
  simp -dsimp
  refine hK _ _ ?_; clear hK K
  refine awp_sr rfl fun K hK => ?_
  simp -dsimp
  refine callK_intro _ (hop) (by simp) ?_
  simp -dsimp
  refine hK _ _ ?_; clear hK K
  refine awp_seq_k fun K1 hK1 => ?_
  refine awp_sr rfl fun K hK => ?_
  simp -dsimp
  refine callK_may _ (fun hm => hh) (by simp) ?_
  simp -dsimp
  refine hK _ _ ?_; clear hK K
  refine awp_cond rfl (fun hc0 => ?_) (fun hc0 => ?_)
  · skip
    skip
    refine awp_sr rfl fun K hK => ?_
    simp -dsimp
    refine hK _ _ ?_; clear hK K
    exact awp_ret (by simp)
  · skip
    skip
    simp at hc0
theorem c_tDistances_m (p : Plan) (m : Move) (hv : validB p = true) (h : movB p m = false) : PureCall Try.prog 17 [p.av, m.av] (.tup [nilS, I 2]) := by
  have hop := c_open_t p hv
  have hh := c_nhas p m.Rail m.Back hv
  rw [show inr m.Rail 0 (p.Rails.length - 1) = false from h] at hh
  generalize net p = sh at hop hh
  refine PureCall.of_body Try.func17 rfl (by decide) (by simp [Try.ntmps17]) ?_
  simp only [Try.ntmps17, Try.results17]
  refine awp_sr rfl fun K hK => ?_
  simp -dsimp
  refine hK _ _ ?_; clear hK K
  refine awp_sr rfl fun K hK => ?_
  simp -dsimp
  refine callK_intro _ (hop) (by simp) ?_
  simp -dsimp
  refine hK _ _ ?_; clear hK K
  refine awp_seq_k fun K1 hK1 => ?_
  refine awp_sr rfl fun K hK => ?_
  simp -dsimp
  refine callK_may _ (fun hm => hh) (by simp) ?_
  simp -dsimp
  refine hK _ _ ?_; clear hK K
  refine awp_cond rfl (fun hc0 => ?_) (fun hc0 => ?_)
  · skip
    skip
    refine awp_sr rfl fun K hK => ?_
    simp -dsimp
    refine hK _ _ ?_; clear hK K
    exact awp_ret (by simp)
  · skip
    skip
    simp at hc0
theorem c_tLength_m (p : Plan) (r : Int) (hv : validB p = true) (h : inr r 0 (p.Rails.length - 1) = false) : PureCall Try.prog 7 [p.av, I r] (.tup [I 0, I 2]) := by
  have hop := c_open_t p hv
  have hh := c_nhas p r false hv
  rw [h] at hh
  generalize net p = sh at hop hh
  refine PureCall.of_body Try.func7 rfl (by decide) (by simp [Try.ntmps7]) ?_
  simp only [Try.ntmps7, Try.results7]
  refine awp_sr rfl fun K hK => ?_
  simp -dsimp
  refine hK _ _ ?_; clear hK K
  refine awp_sr rfl fun K hK => ?_
  simp -dsimp
  refine callK_intro _ (hop) (by simp) ?_
  simp -dsimp
  refine hK _ _ ?_; clear hK K
  refine awp_seq_k fun K1 hK1 => ?_
  refine awp_sr rfl fun K hK => ?_
  simp -dsimp
  refine callK_may _ (fun hm => hh) (by simp) ?_
  simp -dsimp
  refine hK _ _ ?_; clear hK K
  refine awp_cond rfl (fun hc0 => ?_) (fun hc0 => ?_)
  · skip
    skip
    refine awp_sr rfl fun K hK => ?_
    simp -dsimp
    refine hK _ _ ?_; clear hK K
    exact awp_ret (by simp)
  · skip
    skip
    simp at hc0
theorem c_tLine_m (p : Plan) (r : Int) (hv : validB p = true) (h : inr r 0 (p.Rails.length - 1) = false) : PureCall Try.prog 8 [p.av, I r] (.tup [nilS, I 2]) := by
  have hop := c_open_t p hv
  have hh := c_nhas p r false hv
  rw [h] at hh
  generalize net p = sh at hop hh
  refine PureCall.of_body Try.func8 rfl (by decide) (by simp [Try.ntmps8]) ?_
  simp only [Try.ntmps8, Try.results8]
  refine awp_sr rfl fun K hK => ?_
  simp -dsimp
  refine hK _ _ ?_; clear hK K
  refine awp_sr rfl fun K hK => ?_
  simp -dsimp
  refine callK_intro _ (hop) (by simp) ?_
  simp -dsimp
  refine hK _ _ ?_; clear hK K
  refine awp_seq_k fun K1 hK1 => ?_
  refine awp_sr rfl fun K hK => ?_
  simp -dsimp
  refine callK_may _ (fun hm => hh) (by simp) ?_
  simp -dsimp
  refine hK _ _ ?_; clear hK K
  refine awp_cond rfl (fun hc0 => ?_) (fun hc0 => ?_)
  · skip
    skip
    refine awp_sr rfl fun K hK => ?_
    simp -dsimp
    refine hK _ _ ?_; clear hK K
    exact awp_ret (by simp)
  · skip
    skip
    simp at hc0
theorem c_tBetween_m (p : Plan) (m k : Move) (hv : validB p = true) (h : (movB p m && movB p k) = false) : PureCall Try.prog 15 [p.av, m.av, k.av] (.tup [.agg [I 0, I 0], I 2]) := by
  have hop := c_open_t p hv
  have hh := c_nhas p m.Rail m.Back hv
  have hk := c_nhas p k.Rail k.Back hv
  rw [show inr m.Rail 0 (p.Rails.length - 1) = movB p m from rfl] at hh
  rw [show inr k.Rail 0 (p.Rails.length - 1) = movB p k from rfl] at hk
  generalize net p = sh at hop hh hk
  refine PureCall.of_body Try.func15 rfl (by decide) (by simp [Try.ntmps15]) ?_
  simp only [Try.ntmps15, Try.results15]
  refine awp_sr rfl fun K hK => ?_
  simp -dsimp
  refine hK _ _ ?_; clear hK K
  refine awp_sr rfl fun K hK => ?_
  simp -dsimp
  refine callK_intro _ (hop) (by simp) ?_
  simp -dsimp
  refine hK _ _ ?_; clear hK K
  refine awp_seq_k fun K1 hK1 => ?_
  refine awp_sr rfl fun K hK => ?_
  simp -dsimp
  refine callK_may _ (fun hm => hh) (by simp) ?_
  simp -dsimp
  refine callK_may _ (fun hm => hk) (by simp) ?_
  simp -dsimp
  refine hK _ _ ?_; clear hK K
  refine awp_cond rfl (fun hc0 => ?_) (fun hc0 => ?_)
  · skip
    skip
    refine awp_sr rfl fun K hK => ?_
    simp -dsimp
    refine hK _ _ ?_; clear hK K
    exact awp_ret (by simp)
  · skip
    skip
    simp at hc0; simp [hc0] at h
@[simp] theorem takeM (l : List Move) : List.take l.length (l.map Move.cells) = l.map Move.cells := List.take_of_length_le (by simp)
theorem c_AppendSeq (f : FuncId) (sh : List AV) (m : Move) (ms : List Move) (hit : IterCall Try.prog f [.iptr [.iptr sh], .iptr m.cells] (ms.map fun m => [m.av])) (hn : ms.length ≤ 1000) : PureCall Try.prog 52 [nilS, .clo f [.iptr [.iptr sh], .iptr m.cells]] (mLst ms) := by
  refine PureCall.of_bodyG Try.func52 rfl (by decide) (by simp [Try.ntmps52]) ?_
  intro J hJ
  simp only [Try.ntmps52, Try.results52]
  refine gwp_sr rfl (by decide) rfl rfl fun K hK => ?_
  simp -dsimp
  refine hK _ _ ?_; clear hK K
  refine gwp_seq_k fun K1 hK1 => ?_
  refine gwp_sr rfl (by decide) rfl rfl fun K hK => ?_
  simp -dsimp
  refine hK _ _ ?_; clear hK K
  refine gwp_block ?_
  refine gwp_prune [2, 6] (Or.inr (by simp)) ?_
  simp only [prune, List.map_cons, List.map_nil, Go.AM.look, Nat.reduceEqDiff, reduceIte]
  refine gwp_range_s hJ [2, 6] (fun n => [some (.els 1 [[.row 1 0 n]]), some (.els 2 ((ms.take n).map Move.cells))]) (fun n => n ≤ ms.length) rfl (hit) rfl (by simp) (by decide) (by decide) (by decide) (by intro z hz; obtain ⟨q, _, rfl⟩ := List.mem_map.1 hz; rfl) ?_ ?_ ?_ ?_
  · exact Nat.zero_le _
  · exact (sub_nilc 0 0 0 2 (es := [[.v (.slice none 0 0)]]) (e := [.v (.slice none 0 0)]) (by simp) (by simp) (by simp)).trans (sub_same (by simp))
  · intro n xv hxn hi l1 J1 hJ1
    obtain ⟨q, hq, rfl⟩ : ∃ q, ms[n]? = some q ∧ [q.av] = xv := by simpa using hxn
    have hnl : n < ms.length := (List.getElem?_eq_some_iff.1 hq).1
    have f1 : Fits (n + 1) 17 := fits_of (by omega) (by omega)
    have hts : ms.take (n + 1) = ms.take n ++ [q] := by rw [List.take_add_one, hq]; rfl
    have htl : (ms.take n).length = n := by rw [List.length_take]; omega
    generalize ms.take n = l at hts htl ⊢
    subst htl
    simp only [List.zip_cons_cons, List.zip_nil_left, List.zip_nil_right, List.cons_append, List.nil_append]
    refine gwp_r rfl (by decide) rfl rfl fun K hK => ?_
    simp -dsimp
    refine hK _ _ ?_; clear hK K
    simp only [onlyN]
    intro J2 hJ2
    refine gwp_prune [2, 5, 6] (Or.inr (by simp)) ?_
    simp only [prune, List.map_cons, List.map_nil, Go.AM.look, Nat.reduceEqDiff, reduceIte]
    refine gwp_block ?_
    refine gwp_r rfl (by decide) rfl rfl fun K hK => ?_
    simp -dsimp [f1]
    refine hK _ _ ?_; clear hK K
    simp only [thenA, inBlockA, roundQ, reduceIte, Nat.reduceEqDiff, eq_self]
    refine ⟨hnl, sub_rb [some 0, some 3] rfl (by simp) (by simp [hts])⟩
  · intro hdone
    simp only [thenA, inBlockA, reduceIte, Nat.reduceEqDiff, eq_self]
    refine hK1 _ _ ?_
    refine gwp_prune [2] (Or.inr (by simp)) ?_
    simp only [prune, List.map_cons, List.map_nil, Go.AM.look, Nat.reduceEqDiff, reduceIte]
    refine gwp_sr rfl (by decide) rfl rfl fun K hK => ?_
    simp -dsimp
    refine hK _ _ ?_; clear hK K
    exact gwp_ret (by simp)
theorem c_Collect (f : FuncId) (sh : List AV) (m : Move) (ms : List Move) (hit : IterCall Try.prog f [.iptr [.iptr sh], .iptr m.cells] (ms.map fun m => [m.av])) (hn : ms.length ≤ 1000) : PureCall Try.prog 37 [.clo f [.iptr [.iptr sh], .iptr m.cells]] (mLst ms) := by
  have h := c_AppendSeq f sh m ms hit hn
  refine PureCall.of_body Try.func37 rfl (by decide) (by simp [Try.ntmps37]) ?_
  simp only [Try.ntmps37, Try.results37]
  refine awp_sr rfl fun K hK => ?_
  simp -dsimp
  refine hK _ _ ?_; clear hK K
  refine awp_sr rfl fun K hK => ?_
  simp -dsimp
  refine callK_intro _ (h) (by simp) ?_
  simp -dsimp
  refine hK _ _ ?_; clear hK K
  exact awp_ret (by simp)
theorem nextL_len (p : Plan) (m : Move) (hv : validB p = true) (hm : movB p m = true) : (nextL p m).length ≤ 4 := by
  have hm' := movB_iff.1 hm
  have ha := at_in hv (e := arrE m) hm'.1 hm'.2
  have := (node_kind (node_fine hv ha.1 ha.2)).2.1
  unfold nextL
  rw [List.length_map, srt_len]
  have h2 := nxTo_len p m (nodeAt p m).Ends.length
  have h3 : (nodeAt p m).Ends.length ≤ 4 := this
  omega

theorem c_tNext_t (p : Plan) (m : Move) (hv : validB p = true) (hm : movB p m = true) : PureCall Try.prog 14 [p.av, m.av] (.tup [mLst (nextL p m), I 0]) := by
  have hop := c_open_t p hv
  have hh := c_nhas p m.Rail m.Back hv
  rw [show inr m.Rail 0 (p.Rails.length - 1) = true from hm] at hh
  have hnx := c_tnext p m
  have hco := c_Collect _ _ _ (nextL p m) (c_next1 p m hv hm) (by have := nextL_len p m hv hm; omega)
  generalize net p = sh at hop hh hnx hco
  refine PureCall.of_body Try.func14 rfl (by decide) (by simp [Try.ntmps14]) ?_
  simp only [Try.ntmps14, Try.results14]
  refine awp_sr rfl fun K hK => ?_
  simp -dsimp
  refine hK _ _ ?_; clear hK K
  refine awp_sr rfl fun K hK => ?_
  simp -dsimp
  refine callK_intro _ (hop) (by simp) ?_
  simp -dsimp
  refine hK _ _ ?_; clear hK K
  refine awp_seq_k fun K1 hK1 => ?_
  refine awp_sr rfl fun K hK => ?_
  simp -dsimp
  refine callK_may _ (fun hm => hh) (by simp) ?_
  simp -dsimp
  refine hK _ _ ?_; clear hK K
  refine awp_cond rfl (fun hc0 => ?_) (fun hc0 => ?_)
  · skip
    skip
    simp at hc0
  · skip
    skip
    refine awp_skip ?_
    simp only [thenA, inBlockA, reduceIte, Nat.reduceEqDiff, eq_self]
    refine hK1 _ _ ?_
    refine awp_prune [3, 6] ?_
    simp only [prune, List.map_cons, List.map_nil, Go.AM.look, Nat.reduceEqDiff, reduceIte]
    refine awp_sr rfl fun K hK => ?_
    simp -dsimp
    refine callK_intro _ (hnx) (by simp) ?_
    simp -dsimp
    refine callK_intro _ (hco) (by simp) ?_
    simp -dsimp
    refine hK _ _ ?_; clear hK K
    exact awp_ret (by simp)
theorem c_tDistances_t (p : Plan) (m : Move) (hv : validB p = true) (hm : movB p m = true) : PureCall Try.prog 17 [p.av, m.av] (.tup [.lst 1 ((dEnd p (numM m)).ln.map nCell), I 0]) := by
  have hm' := movB_iff.1 hm
  have hR := (valid_parts hv).2.1
  have hop := c_open_t p hv
  have hh := c_nhas p m.Rail m.Back hv
  rw [show inr m.Rail 0 (p.Rails.length - 1) = true from hm] at hh
  have hnb : 0 ≤ numM m ∧ numM m < 2 * p.Rails.length := by unfold numM; split <;> omega
  have hd := c_distances p (numM m) hv hnb.1 hnb.2
  generalize net p = sh at hop hh hd
  refine PureCall.of_body Try.func17 rfl (by decide) (by simp [Try.ntmps17]) ?_
  simp only [Try.ntmps17, Try.results17]
  refine awp_sr rfl fun K hK => ?_
  simp -dsimp
  refine hK _ _ ?_; clear hK K
  refine awp_sr rfl fun K hK => ?_
  simp -dsimp
  refine callK_intro _ (hop) (by simp) ?_
  simp -dsimp
  refine hK _ _ ?_; clear hK K
  refine awp_seq_k fun K1 hK1 => ?_
  refine awp_sr rfl fun K hK => ?_
  simp -dsimp
  refine callK_may _ (fun hm => hh) (by simp) ?_
  simp -dsimp
  refine hK _ _ ?_; clear hK K
  refine awp_cond rfl (fun hc0 => ?_) (fun hc0 => ?_)
  · skip
    skip
    simp at hc0
  · skip
    skip
    refine awp_skip ?_
    simp only [thenA, inBlockA, reduceIte, Nat.reduceEqDiff, eq_self]
    refine hK1 _ _ ?_
    refine awp_prune [3, 6] ?_
    simp only [prune, List.map_cons, List.map_nil, Go.AM.look, Nat.reduceEqDiff, reduceIte]
    refine awp_sr rfl fun K hK => ?_
    simp -dsimp
    refine callK_intro _ (c_number m hm'.1 (by omega)) (by simp) ?_
    simp -dsimp
    refine callK_intro _ (hd) (by simp) ?_
    simp -dsimp
    refine hK _ _ ?_; clear hK K
    refine awp_sr rfl fun K hK => ?_
    simp -dsimp
    refine hK _ _ ?_; clear hK K
    exact awp_ret (by simp)
end Go.Tram
