/- Walks: the iterator over the moves that follow a move, and what leans on it. -/
import Derived.Test.YtdabjdajemiagaaY2
import Derived.Test.YtdabjdajemiagaaW16
namespace Go.Tram
open Go.AM Go.Proofs
set_option maxRecDepth 10000
set_option maxHeartbeats 4000000
set_option linter.unusedVariables false
set_option linter.unusedSimpArgs false

def nodeAt (p : Plan) (m : Move) : Node := p.node (p.at (arrE m))
def nxK (p : Plan) (m : Move) (k : Nat) : List Int := match (nodeAt p m).Ends[k]? with
  | some e => if letsB (nodeAt p m) (plc p (arrE m)) k then [numM ⟨e.Rail, e.Last⟩] else []
  | none => []
def nxTo (p : Plan) (m : Move) (j : Nat) : List Int := (List.range j).flatMap (nxK p m)
/-- The moves that follow a move, by their numbers. -/
def nextL (p : Plan) (m : Move) : List Move := (srt (nxTo p m (nodeAt p m).Ends.length)).map moveM
theorem nxTo_succ (p : Plan) (m : Move) (j : Nat) : nxTo p m (j + 1) = nxTo p m j ++ nxK p m j := by
  simp only [nxTo, List.range_succ, List.flatMap_append, List.flatMap_cons, List.flatMap_nil, List.append_nil]
theorem nxTo_len (p : Plan) (m : Move) (j : Nat) : (nxTo p m j).length ≤ j := by
  induction j with
  | zero => simp [nxTo]
  | succ j ih =>
    rw [nxTo_succ, List.length_append]
    have : (nxK p m j).length ≤ 1 := by unfold nxK; split <;> (try split) <;> simp
    omega

theorem ends_rail {p : Plan} (hv : validB p = true) {i : Nat} (hi : i < p.Nodes.length) {j : Nat} {e : REnd} (he : (p.node i).Ends[j]? = some e) : (0 ≤ e.Rail ∧ e.Rail < p.Rails.length) ∧ p.at e = i := by
  obtain ⟨r, hr⟩ := E_prefix hi he
  have hE := (valid_parts hv).2.2.2.2
  simp only [validE, Bool.and_eq_true, List.all_eq_true] at hE
  have := hE.1 (i, e) (by rw [hr]; simp)
  simp only [endB, Bool.and_eq_true, decide_eq_true_eq, inr_iff] at this
  exact ⟨by omega, this.2⟩
theorem at_in {p : Plan} (hv : validB p = true) {e : REnd} (h0 : 0 ≤ e.Rail) (h1 : e.Rail < p.Rails.length) : 0 ≤ p.at e ∧ p.at e < p.Nodes.length := by
  have ro := rail_ok hv h0 h1
  unfold Plan.at
  split
  · exact ro.t
  · exact ro.f
theorem movB_iff {p : Plan} {m : Move} : movB p m = true ↔ 0 ≤ m.Rail ∧ m.Rail < p.Rails.length := by
  unfold movB; rw [inr_iff]; omega
theorem nx_bound {p : Plan} (hv : validB p = true) {m : Move} (hm : movB p m = true) : ∀ j, ∀ k ∈ nxTo p m j, 0 ≤ k ∧ k ≤ 100000 ∧ movB p (moveM k) = true := by
  have hm' := movB_iff.1 hm
  have ha := at_in hv (e := arrE m) hm'.1 hm'.2
  have hR := (valid_parts hv).2.1
  intro j k hk
  simp only [nxTo, List.mem_flatMap, List.mem_range] at hk
  obtain ⟨i, hi, hk⟩ := hk
  unfold nxK at hk
  split at hk
  · rename_i e he
    split at hk
    · obtain rfl : k = numM ⟨e.Rail, e.Last⟩ := by simpa using hk
      have hn : nodeAt p m = p.node ((p.at (arrE m)).toNat : Nat) := by unfold nodeAt; rw [show (((p.at (arrE m)).toNat : Nat) : Int) = p.at (arrE m) by omega]
      rw [hn] at he
      have := ends_rail hv (i := (p.at (arrE m)).toNat) (by omega) he
      rw [movB_iff]
      simp only [numM, moveM]
      split <;> omega
    · simp at hk
  · simp at hk
theorem ins_mem' {l : List Int} : ∀ {z : Int}, z ∈ srt l ↔ z ∈ l := by
  have gen : ∀ (l s : List Int) (z : Int), z ∈ l.foldl (fun s x => ins x s) s ↔ z ∈ s ∨ z ∈ l := by
    intro l
    induction l with
    | nil => simp
    | cons x l ih =>
      intro s z
      rw [List.foldl_cons, ih, ins_mem]
      simp only [List.mem_cons]
      constructor
      · rintro ((h | h) | h) <;> simp [h]
      · rintro (h | h | h) <;> simp [h]
  intro z
  have := gen l [] z
  simpa [srt] using this

theorem c_next1 (p : Plan) (m : Move) (hv : validB p = true) (hm : movB p m = true) : IterCall Try.prog 53 [.iptr [.iptr (net p)], .iptr m.cells] ((nextL p m).map fun k => [k.av]) := by
  have hm' := movB_iff.1 hm
  have ha := at_in hv (e := arrE m) hm'.1 hm'.2
  have hnode := p.node_get ha.1 ha.2
  have hnf := node_kind (node_fine hv ha.1 ha.2)
  have hb := nx_bound hv hm
  have hplc := plc_val hv (arrE m)
  have hcar := c_arrives m
  have hce := c_ending p (arrE m) hm'.1 hm'.2
  have hna : p.node (p.at (arrE m)) = nodeAt p m := rfl
  have hno : ∀ (j : Nat) (e : REnd), (nodeAt p m).Ends[j]? = some e → (0 ≤ e.Rail ∧ e.Rail < p.Rails.length) := by
    intro j e he
    have hn : nodeAt p m = p.node ((p.at (arrE m)).toNat : Nat) := by unfold nodeAt; rw [show (((p.at (arrE m)).toNat : Nat) : Int) = p.at (arrE m) by omega]
    rw [hn] at he
    exact (ends_rail hv (i := (p.at (arrE m)).toNat) (by omega) he).1
  have hR := (valid_parts hv).2.1
  have hxk : ∀ (j : Nat) (e : REnd), (nodeAt p m).Ends[j]? = some e → nxK p m j = if letsB (nodeAt p m) (plc p (arrE m)) j then [numM ⟨e.Rail, e.Last⟩] else [] := by intro j e he; unfold nxK; rw [he]
  have hnl : nextL p m = (srt (nxTo p m (nodeAt p m).Ends.length)).map moveM := rfl
  rw [hna] at hnode hnf
  generalize nodeAt p m = n at hnode hnf hno hxk hnl
  unfold net
  refine IterCall.of_body Try.func53 rfl (by decide) (by simp [Try.ntmps53]) (by simp [Try.ntmps53]) (by simp [Try.results53]) ?_
  intro J l hmk hY
  simp only [Try.ntmps53, Try.results53]
  refine gwp_sd mixed rfl (by decide) rfl rfl fun K hK => ?_
  simp -dsimp [hnode, ha.1]
  refine callK_intro _ (hcar) (by simp) ?_
  simp -dsimp [hnode, ha.1]
  refine callK_intro _ (hce) (by simp) ?_
  simp -dsimp [hnode, ha.1]
  refine hK _ _ _ (by decide +kernel) ?_; clear hK K
  refine gwp_sr rfl (by decide) rfl rfl fun K hK => ?_
  simp -dsimp
  refine hK _ _ ?_; clear hK K
  refine gwp_seq_k fun K1 hK1 => ?_
  refine gwp_sr rfl (by decide) rfl rfl fun K hK => ?_
  simp -dsimp
  refine hK _ _ ?_; clear hK K
  refine gwp_block ?_
  refine gwp_prune [0, 1, 2, 4, 5, 25, 26, 27, 999999] (Or.inl (by decide)) ?_
  simp only [prune, List.map_cons, List.map_nil, Go.AM.look, Nat.reduceEqDiff, reduceIte]
  refine gwp_loop_l [0, 1, 2, 4, 25, 26] (α := Nat) (fun j => [(27, I j), (5, .row 1 0 (nxTo p m j).length), (999999, cntV 0)]) (fun j => [some (.els 5 [n.cells]), some (.els 1 ((nxTo p m j).map nCell))]) (fun j => j ≤ n.Ends.length) (fun j => n.Ends.length - j) 0 ?_ ?_ ?_
  · simp
  · exact gsub ((sub_nil 5 1 (by simp)).trans (sub_rb [some 0, some 1] rfl (by simp [nxTo]) (by simp [nxTo]))) (by simp)
  rintro j j1
  have hsu := nxTo_succ p m j
  have hlj := nxTo_len p m j
  have hbj := hb j
  simp only [List.cons_append, List.nil_append, prune, List.map_cons, List.map_nil, Go.AM.look, Nat.reduceEqDiff, reduceIte]
  refine gwp_sr rfl (by decide) rfl rfl fun K hK => ?_
  simp -dsimp
  refine hK _ _ ?_; clear hK K
  refine gwp_seq_k fun K2 hK2 => ?_
  refine gwp_cond rfl (fun hc0 => ?_) (fun hc0 => ?_)
  · skip
    try simp at hc0
    obtain ⟨e, he⟩ : ∃ e, n.Ends[j]? = some e := ⟨_, List.getElem?_eq_getElem hc0⟩
    have wj : IntKind.i64.wrap ((j : Int) + 1) = (j : Int) + 1 := wrap_in (by omega) (by omega)
    have her := hno j e he
    rw [hxk j e he] at hsu
    generalize hA : nxTo p m j = A at hsu hlj hbj ⊢
    have f1 : Fits (A.length + 1) 9 := fits_of (by omega) (by omega)
    have hot : (A.map nCell).take A.length = A.map nCell := List.take_of_length_le (by simp)
    refine gwp_skip ?_
    simp only [thenA, inBlockA, reduceIte, Nat.reduceEqDiff, eq_self]
    refine hK2 _ _ ?_
    refine gwp_prune [0, 1, 2, 4, 5, 25, 26, 27, 999999] (Or.inl (by decide)) ?_
    simp only [prune, List.map_cons, List.map_nil, Go.AM.look, Nat.reduceEqDiff, reduceIte]
    refine gwp_seq_k fun K3 hK3 => ?_
    refine gwp_block ?_
    refine gwp_sr rfl (by decide) rfl rfl fun K hK => ?_
    simp -dsimp [he]
    refine hK _ _ ?_; clear hK K
    refine gwp_sd mixed rfl (by decide) rfl rfl fun K hK => ?_
    simp -dsimp
    refine callK_intro _ (hcar) (by simp) ?_
    simp -dsimp
    refine valK_intro (I (plc p (arrE m))) (fun hm => congrArg AV.v hplc.1) ?_
    simp -dsimp
    refine callK_intro _ (c_lets n (plc p (arrE m)) j ⟨hplc.2.1, hplc.2.2⟩ ⟨by omega, by omega⟩ hnf.1) (by simp) ?_
    simp -dsimp
    refine hK _ _ _ (by decide +kernel) ?_; clear hK K
    refine gwp_cond rfl (fun hc1 => ?_) (fun hc1 => ?_)
    · skip
      skip
      rw [hc1, if_pos rfl] at hsu
      refine gwp_r rfl (by decide) rfl rfl fun K hK => ?_
      simp -dsimp [f1]
      refine callK_intro _ (c_number ⟨e.Rail, e.Last⟩ her.1 (by have := her.2; show e.Rail ≤ 100000; omega)) (by simp) ?_
      simp -dsimp [f1]
      refine hK _ _ ?_; clear hK K
      simp only [thenA, inBlockA, reduceIte, Nat.reduceEqDiff, eq_self]
      refine hK3 _ _ ?_
      refine gwp_prune [0, 1, 2, 4, 5, 25, 26, 27, 999999] (Or.inl (by decide)) ?_
      simp only [prune, List.map_cons, List.map_nil, Go.AM.look, Nat.reduceEqDiff, reduceIte]
      refine gwp_r rfl (by decide) rfl rfl fun K hK => ?_
      simp -dsimp [wj]
      refine hK _ _ ?_; clear hK K
      simp only [thenA, inBlockA, reduceIte, Nat.reduceEqDiff, eq_self]
      exact ⟨j + 1, by omega, by omega, gsub (sub_rb [some 0, some 3] rfl (by simp [hsu]) (by simp [hsu, hot])) (by simp)⟩
    · skip
      skip
      rw [hc1, if_neg (by simp)] at hsu
      refine gwp_skip ?_
      simp only [thenA, inBlockA, reduceIte, Nat.reduceEqDiff, eq_self]
      refine hK3 _ _ ?_
      refine gwp_prune [0, 1, 2, 4, 5, 25, 26, 27, 999999] (Or.inl (by decide)) ?_
      simp only [prune, List.map_cons, List.map_nil, Go.AM.look, Nat.reduceEqDiff, reduceIte]
      refine gwp_r rfl (by decide) rfl rfl fun K hK => ?_
      simp -dsimp [wj]
      refine hK _ _ ?_; clear hK K
      simp only [thenA, inBlockA, reduceIte, Nat.reduceEqDiff, eq_self]
      exact ⟨j + 1, by omega, by omega, gsub (sub_rb [some 0, some 1] rfl (by simp [hsu]) (by simp [hsu])) (by simp)⟩
  · skip
    try simp at hc0
    have hje : j = n.Ends.length := by omega
    subst hje
    generalize hA : nxTo p m n.Ends.length = A at hlj hbj hnl ⊢
    refine gwp_exit ?_
    simp only [thenA, inBlockA, reduceIte, Nat.reduceEqDiff, eq_self]
    refine hK1 _ _ ?_
    refine gwp_prune [0, 5, 999999] (Or.inl (by decide)) ?_
    simp only [prune, List.map_cons, List.map_nil, Go.AM.look, Nat.reduceEqDiff, reduceIte]
    rcases Decidable.em (A = []) with rfl | hA0
    · skip
      refine gwp_sr rfl (by decide) rfl rfl fun K hK => ?_
      simp -dsimp
      refine callK_intro _ (c_Sort0) (by simp) ?_
      simp -dsimp
      refine hK _ _ ?_; clear hK K
      refine gwp_sr rfl (by decide) rfl rfl fun K hK => ?_
      simp -dsimp
      refine hK _ _ ?_; clear hK K
      refine gwp_block ?_
      refine gwp_prune [0, 55, 56, 57, 999999] (Or.inl (by decide)) ?_
      simp only [prune, List.map_cons, List.map_nil, Go.AM.look, Nat.reduceEqDiff, reduceIte]
      refine gwp_loop_l [0, 55, 56] (α := Nat) (fun i => [(57, I i), (999999, cntV i)]) (fun i => [some (.els 5 [n.cells]), some (.els 1 [])]) (fun i => i ≤ 0) (fun i => 0) 0 ?_ ?_ ?_
      · simp
      · exact gsub (sub_same (by simp)) (by simp)
      rintro i i1
      simp only [List.cons_append, List.nil_append, prune, List.map_cons, List.map_nil, Go.AM.look, Nat.reduceEqDiff, reduceIte]
      refine gwp_sr rfl (by decide) rfl rfl fun K hK => ?_
      simp -dsimp
      refine hK _ _ ?_; clear hK K
      refine gwp_seq_k fun K4 hK4 => ?_
      refine gwp_cond rfl (fun hc2 => ?_) (fun hc2 => ?_)
      · skip
        skip
        simp at hc2; omega
      · skip
        skip
        refine gwp_exit ?_
        try simp only [thenA, inBlockA, reduceIte, Nat.reduceEqDiff, eq_self]
        have hi0 : i = 0 := by omega
        simp [hnl, srt, hi0]
    · skip
      refine gwp_sr rfl (by decide) rfl rfl fun K hK => ?_
      simp -dsimp
      refine callK_mut [1] [] [none, some 0] (m_Sort A (List.length_pos_iff.2 hA0) (by omega)) (by decide) rfl (by simp) (by simp) rfl (by simp) ?_
      simp -dsimp
      refine hK _ _ ?_; clear hK K
      refine gwp_sr rfl (by decide) rfl rfl fun K hK => ?_
      simp -dsimp
      refine hK _ _ ?_; clear hK K
      refine gwp_block ?_
      refine gwp_prune [0, 55, 56, 57, 999999] (Or.inl (by decide)) ?_
      simp only [prune, List.map_cons, List.map_nil, Go.AM.look, Nat.reduceEqDiff, reduceIte]
      refine gwp_loop_l [0, 55, 56] (α := Nat) (fun i => [(57, I i), (999999, cntV i)]) (fun i => [some (.els 5 [n.cells]), some (.els 1 ((srt A).map nCell))]) (fun i => i ≤ (srt A).length) (fun i => (srt A).length - i) 0 ?_ ?_ ?_
      · simp
      · exact gsub (sub_same (by simp)) (by simp)
      rintro i i1
      simp only [List.cons_append, List.nil_append, prune, List.map_cons, List.map_nil, Go.AM.look, Nat.reduceEqDiff, reduceIte]
      refine gwp_sr rfl (by decide) rfl rfl fun K hK => ?_
      simp -dsimp
      refine hK _ _ ?_; clear hK K
      refine gwp_seq_k fun K5 hK5 => ?_
      refine gwp_cond rfl (fun hc2 => ?_) (fun hc2 => ?_)
      · skip
        skip
        have hsl := srt_len A
        obtain ⟨k, hk⟩ : ∃ k, (srt A)[i]? = some k := ⟨_, List.getElem?_eq_getElem (by simpa [hsl] using hc2)⟩
        have hkb := hbj k (ins_mem'.1 (List.mem_of_getElem? hk))
        have wi : IntKind.i64.wrap ((i : Int) + 1) = (i : Int) + 1 := wrap_in (by omega) (by omega)
        have hiA : i < A.length := by simpa using hc2
        refine gwp_skip ?_
        simp only [thenA, inBlockA, reduceIte, Nat.reduceEqDiff, eq_self]
        refine hK5 _ _ ?_
        refine gwp_prune [0, 55, 56, 57, 999999] (Or.inl (by decide)) ?_
        simp only [prune, List.map_cons, List.map_nil, Go.AM.look, Nat.reduceEqDiff, reduceIte]
        refine gwp_seq_k fun K6 hK6 => ?_
        refine gwp_block ?_
        refine gwp_sr rfl (by decide) rfl rfl fun K hK => ?_
        simp -dsimp [hk]
        refine ⟨hiA, ?_⟩
        refine hK _ _ ?_; clear hK K
        refine gwp_sy hmk hY rfl (by decide) rfl rfl fun K hK => ?_
        simp -dsimp
        refine callK_intro _ (c_move k hkb.1 (by omega)) (by simp) ?_
        simp -dsimp
        refine yK_intro (by rw [hnl, List.getElem?_map, List.getElem?_map, hk]; rfl) ?_ ?_
        · refine hK _ _ ?_; clear hK K
          refine gwp_cond rfl (fun hc3 => ?_) (fun hc3 => ?_)
          · skip
            skip
            simp at hc3
          · skip
            skip
            refine gwp_skip ?_
            simp only [thenA, inBlockA, reduceIte, Nat.reduceEqDiff, eq_self]
            refine hK6 _ _ ?_
            refine gwp_prune [0, 55, 56, 57, 999999] (Or.inl (by decide)) ?_
            simp only [prune, List.map_cons, List.map_nil, Go.AM.look, Nat.reduceEqDiff, reduceIte]
            refine gwp_r rfl (by decide) rfl rfl fun K hK => ?_
            simp -dsimp [wi]
            refine hK _ _ ?_; clear hK K
            simp only [thenA, inBlockA, reduceIte, Nat.reduceEqDiff, eq_self]
            exact ⟨i + 1, by omega, by omega, gsub (sub_rb [some 0, some 1] rfl (by simp) (by simp)) (by simp)⟩
        · refine hK _ _ ?_; clear hK K
          refine gwp_cond rfl (fun hc3 => ?_) (fun hc3 => ?_)
          · skip
            skip
            exact gwp_ret (by simp)
          · skip
            skip
            simp at hc3
      · skip
        skip
        refine gwp_exit ?_
        try simp only [thenA, inBlockA, reduceIte, Nat.reduceEqDiff, eq_self]
        have hie : i = A.length := by have := srt_len A; simp at hc2; omega
        simp [hnl, srt_len, hie]

def follB (p : Plan) (m k : Move) : Bool := (nextL p m).any fun x => decide (x = k)

theorem c_follows (p : Plan) (m k : Move) (hv : validB p = true) (hm : movB p m = true) : PureCall Try.prog 39 [.iptr (net p), m.av, k.av] (Bo (follB p m k)) := by
  have hit := c_next1 p m hv hm
  have hnx := c_tnext p m
  generalize net p = sh at hit hnx
  refine PureCall.of_bodyG Try.func39 rfl (by decide) (by simp [Try.ntmps39]) ?_
  intro J hJ
  simp only [Try.ntmps39, Try.results39]
  refine gwp_sr rfl (by decide) rfl rfl fun K hK => ?_
  simp -dsimp
  refine hK _ _ ?_; clear hK K
  refine gwp_seq_k fun K1 hK1 => ?_
  refine gwp_sr rfl (by decide) rfl rfl fun K hK => ?_
  simp -dsimp
  refine callK_intro _ (hnx) (by simp) ?_
  simp -dsimp
  refine hK _ _ ?_; clear hK K
  refine gwp_block ?_
  refine gwp_prune [5, 6, 10] (Or.inr (by simp)) ?_
  simp only [prune, List.map_cons, List.map_nil, Go.AM.look, Nat.reduceEqDiff, reduceIte]
  refine gwp_range_s hJ [5, 6, 10] (fun _ => [some (.els 2 [m.cells]), some (.els 2 [k.cells]), some (.els 1 [[Bo false]])]) (fun n => ((nextL p m).take n).any (fun x => decide (x = k)) = false) rfl (hit) rfl (by simp) (by decide) (by decide) (by decide) (by intro z hz; obtain ⟨q, _, rfl⟩ := List.mem_map.1 hz; rfl) ?_ ?_ ?_ ?_
  · trivial
  · exact sub_same (by simp)
  · intro n xv hxn hi l1 J1 hJ1
    obtain ⟨q, hq, rfl⟩ : ∃ q, (nextL p m)[n]? = some q ∧ [q.av] = xv := by simpa using hxn
    simp only [List.zip_cons_cons, List.zip_nil_left, List.zip_nil_right, List.cons_append, List.nil_append]
    refine gwp_r rfl (by decide) rfl rfl fun K hK => ?_
    simp -dsimp
    refine hK _ _ ?_; clear hK K
    simp only [onlyN]
    intro J2 hJ2
    refine gwp_prune [5, 6, 7, 10] (Or.inr (by simp)) ?_
    simp only [prune, List.map_cons, List.map_nil, Go.AM.look, Nat.reduceEqDiff, reduceIte]
    refine gwp_block ?_
    refine gwp_sr rfl (by decide) rfl rfl fun K hK => ?_
    simp -dsimp
    refine hK _ _ ?_; clear hK K
    refine gwp_cond rfl (fun hc0 => ?_) (fun hc0 => ?_)
    · skip
      skip
      have hqe : q = k := by simp at hc0; cases q; cases k; simp_all
      have hany : (nextL p m).any (fun x => decide (x = k)) = true := List.any_eq_true.2 ⟨q, List.mem_of_getElem? hq, by simpa using hqe⟩
      refine gwp_sr rfl (by decide) rfl rfl fun K hK => ?_
      simp -dsimp
      refine hK _ _ ?_; clear hK K
      exact gwp_ret ⟨[some (.els 2 [m.cells]), some (.els 2 [k.cells]), some (.els 1 [[Bo true]])], sub_rb [some 0, some 1, some 2] rfl (by simp) (by simp), by simp [follB, hany]⟩
    · skip
      skip
      have hne : decide (q = k) = false := by rw [decide_eq_false_iff_not]; rintro rfl; simp at hc0
      refine gwp_skip ?_
      simp only [thenA, inBlockA, roundQ, reduceIte, Nat.reduceEqDiff, eq_self]
      refine ⟨?_, sub_rb [some 0, some 1, some 2] rfl (by simp) (by simp)⟩
      rw [List.take_add_one, List.any_append, hi, hq]; simp [hne]
  · intro hdone
    simp only [thenA, inBlockA, reduceIte, Nat.reduceEqDiff, eq_self]
    refine hK1 _ _ ?_
    refine gwp_prune [6] (Or.inr (by simp)) ?_
    simp only [prune, List.map_cons, List.map_nil, Go.AM.look, Nat.reduceEqDiff, reduceIte]
    refine gwp_sr rfl (by decide) rfl rfl fun K hK => ?_
    simp -dsimp
    refine hK _ _ ?_; clear hK K
    refine gwp_ret ?_
    rw [List.take_of_length_le (by simp)] at hdone
    simp [follB, hdone]

def stepB (p : Plan) (l : List Move) (i : Nat) : Bool := movB p (l[i]?.getD default) && (decide (i = 0) || follB p (l[i - 1]?.getD default) (l[i]?.getD default))
def wayB (p : Plan) (l : List Move) : Bool := (List.range l.length).all (stepB p l) && inr l.length 1 2000
theorem allR_succ (f : Nat → Bool) (n : Nat) : (List.range (n + 1)).all f = ((List.range n).all f && f n) := by
  rw [List.range_succ, List.all_append]; simp
theorem allR_at {f : Nat → Bool} {n k : Nat} (h : (List.range n).all f = true) (hk : k < n) : f k = true := List.all_eq_true.1 h k (List.mem_range.2 hk)

theorem step_neg (a f : Bool) (i : Nat) : (!a || (decide (0 < i) && !f)) = !(a && (decide (i = 0) || f)) := by cases a <;> cases f <;> by_cases h : i = 0 <;> simp [h] <;> omega

theorem c_way (p : Plan) (l : List Move) (hv : validB p = true) (hn : l.length ≤ 100000) : PureCall Try.prog 41 [.iptr (net p), .lst 2 (l.map Move.cells)] (Bo (wayB p l)) := by
  have hhas := fun r b => c_nhas p r b hv
  have hfol := fun m k => c_follows p m k hv
  generalize net p = sh at hhas hfol
  refine PureCall.of_body Try.func41 rfl (by decide) (by simp [Try.ntmps41]) ?_
  simp only [Try.ntmps41, Try.results41]
  refine awp_sr rfl fun K hK => ?_
  simp -dsimp
  refine hK _ _ ?_; clear hK K
  refine awp_seq_k fun K1 hK1 => ?_
  refine awp_sr rfl fun K hK => ?_
  simp -dsimp
  refine hK _ _ ?_; clear hK K
  refine awp_block ?_
  refine awp_prune [0, 1, 7, 8, 9] ?_
  simp only [prune, List.map_cons, List.map_nil, Go.AM.look, Nat.reduceEqDiff, reduceIte]
  refine awp_loop_l [0, 1, 7, 8] (α := Nat) (fun i => [(9, I i)]) (fun i => []) (fun i => i ≤ l.length ∧ (List.range i).all (stepB p l) = true) (fun i => l.length - i) 0 ?_ ?_ ?_
  · simp
  · exact sub_same (by simp)
  rintro i ⟨i1, i2⟩
  simp only [List.cons_append, List.nil_append, prune, List.map_cons, List.map_nil, Go.AM.look, Nat.reduceEqDiff, reduceIte]
  refine awp_sr rfl fun K hK => ?_
  simp -dsimp
  refine hK _ _ ?_; clear hK K
  refine awp_seq_k fun K2 hK2 => ?_
  refine awp_cond rfl (fun hc0 => ?_) (fun hc0 => ?_)
  · skip
    try simp at hc0
    obtain ⟨m, hgm⟩ : ∃ m, l[i]? = some m := ⟨_, List.getElem?_eq_getElem hc0⟩
    have wi : IntKind.i64.wrap ((i : Int) + 1) = (i : Int) + 1 := wrap_in (by omega) (by omega)
    have w1 : IntKind.i64.wrap ((i : Int) - 1) = (i : Int) - 1 := wrap_in (by omega) (by omega)
    have hprev : 0 < i → l[i - 1]? = some (l[i - 1]?.getD default) := fun h => by rw [List.getElem?_eq_getElem (by omega)]; rfl
    have hpm : 0 < i → movB p (l[i - 1]?.getD default) = true := fun h => (Bool.and_eq_true_iff.1 (allR_at i2 (show i - 1 < i by omega))).1
    have hst : stepB p l i = (movB p m && (decide (i = 0) || follB p (l[i - 1]?.getD default) m)) := by unfold stepB; rw [hgm]; rfl
    generalize l[i - 1]?.getD default = m' at hprev hpm hst
    have hmv : movB p m = inr m.Rail 0 (p.Rails.length - 1) := rfl
    refine awp_skip ?_
    simp only [thenA, inBlockA, reduceIte, Nat.reduceEqDiff, eq_self]
    refine hK2 _ _ ?_
    refine awp_prune [0, 1, 7, 8, 9] ?_
    simp only [prune, List.map_cons, List.map_nil, Go.AM.look, Nat.reduceEqDiff, reduceIte]
    refine awp_seq_k fun K3 hK3 => ?_
    refine awp_block ?_
    refine awp_sr rfl fun K hK => ?_
    simp -dsimp [hgm]
    refine hK _ _ ?_; clear hK K
    refine awp_sd mixed rfl fun K hK => ?_
    simp -dsimp [w1]
    refine callK_intro _ (hhas m.Rail m.Back) (by simp) ?_
    simp -dsimp [w1]
    refine ⟨fun _ h => by omega, ?_⟩
    try simp -dsimp
    refine idxK_intro m'.cells (fun hq => by simp at hq; rw [List.getElem?_map, hprev hq.2]; rfl) ?_
    simp -dsimp [w1]
    refine callK_may _ (fun hm => (hfol m' m (hpm (by simp at hm; exact hm.2)))) (by simp) ?_
    simp -dsimp [w1]
    refine hK _ _ _ (by decide +kernel) ?_; clear hK K
    refine awp_cond rfl (fun hc1 => ?_) (fun hc1 => ?_)
    · skip
      rw [step_neg, ← hmv, ← hst] at hc1
      have hsf : stepB p l i = false := by simpa using hc1
      have hb : wayB p l = false := by unfold wayB; rw [show (List.range l.length).all (stepB p l) = false from by rw [List.all_eq_false]; exact ⟨i, List.mem_range.2 hc0, by simp [hsf]⟩]; rfl
      refine awp_sr rfl fun K hK => ?_
      simp -dsimp
      refine hK _ _ ?_; clear hK K
      exact awp_ret (by simp [hb])
    · skip
      rw [step_neg, ← hmv, ← hst] at hc1
      have hst1 : stepB p l i = true := by simpa using hc1
      refine awp_skip ?_
      simp only [thenA, inBlockA, reduceIte, Nat.reduceEqDiff, eq_self]
      refine hK3 _ _ ?_
      refine awp_prune [0, 1, 7, 8, 9] ?_
      simp only [prune, List.map_cons, List.map_nil, Go.AM.look, Nat.reduceEqDiff, reduceIte]
      refine awp_r rfl fun K hK => ?_
      simp -dsimp [wi]
      refine hK _ _ ?_; clear hK K
      simp only [thenA, inBlockA, reduceIte, Nat.reduceEqDiff, eq_self]
      exact ⟨i + 1, ⟨by omega, by rw [allR_succ, i2, hst1]; rfl⟩, by omega, sub_rb [] rfl (by simp) (by simp)⟩
  · skip
    try simp at hc0
    have hie : i = l.length := by omega
    subst hie
    refine awp_exit ?_
    simp only [thenA, inBlockA, reduceIte, Nat.reduceEqDiff, eq_self]
    refine hK1 _ _ ?_
    refine awp_prune [1] ?_
    simp only [prune, List.map_cons, List.map_nil, Go.AM.look, Nat.reduceEqDiff, reduceIte]
    refine awp_sr rfl fun K hK => ?_
    simp -dsimp
    refine callK_intro _ (c_within l.length 1 2000) (by simp) ?_
    simp -dsimp
    refine hK _ _ ?_; clear hK K
    exact awp_ret (by simp [wayB, i2])
end Go.Tram
