/- Walks: the law of distances. -/
import Derived.Test.YtdabjdajemiagaaGreatQB
import Derived.Test.YtdabjdajemiagaaGreatP7a
namespace Go.Tram
open Go.AM Go.Proofs
set_option maxRecDepth 100000
set_option maxHeartbeats 4000000
set_option linter.unusedVariables false
set_option linter.unusedSimpArgs false

theorem begTo_cons (p : Plan) (x : Move) (l : List Move) : ∀ i, begTo p (x :: l) (i + 1) = p.len x.Rail + begTo p l i
  | 0 => by simp [begTo, mvAt]
  | i + 1 => by
    have := begTo_cons p x l i
    have e : ∀ (l : List Move) i, begTo p l (i + 1) = begTo p l i + p.len (mvAt l i).Rail := fun _ _ => rfl
    rw [e, this, e]
    have : mvAt (x :: l) (i + 1) = mvAt l i := by simp [mvAt]
    rw [this]; omega
theorem mvL_cons (k : Int) (l : List Int) : mvL (k :: l) = moveM k :: mvL l := rfl
structure ShOk (p : Plan) (to : Int) (ln : List Int) (k : Int) (n : Nat) (w : List Int) : Prop where
  bd : ∀ x ∈ w, 0 ≤ x ∧ x < 2 * p.Rails.length
  ch : ∀ (i : Nat) (a b : Int), w[i]? = some a → w[i + 1]? = some b → b ∈ nxI p a
  last : w[n]? = some to
  sum : begTo p (mvL w) (n + 1) = gd ln k.toNat + p.len (k / 2)
theorem shL_ok {p : Plan} {to : Int} (hv : validB p = true) (t0 : 0 ≤ to) (t1 : to < 2 * p.Rails.length) {ln mv : List Int} (hE : DEnd p to ln mv) : ∀ (n : Nat) (k : Int), 0 ≤ k → k < 2 * p.Rails.length → 0 ≤ gd ln k.toNat → gd mv k.toNat = n → ShOk p to ln k n (shL p ln mv n k)
  | 0, k, h0, h1, hk, hn => by
    have hz := (mv_zero hv t0 t1 hE h0 h1 hk).2.1 (by omega)
    have hm := hE.mn _ _ _ (.nil : Pth p to to 0 0)
    subst hz
    refine ⟨by simp [shL]; omega, fun i a b ha hb => by simp [shL] at hb, rfl, ?_⟩
    simp only [shL, mvL, List.map_cons, List.map_nil, begTo, mvAt, List.getElem?_cons_zero, Option.getD_some, moveM]
    omega
  | n + 1, k, h0, h1, hk, hn => by
    have hne : k ≠ to := fun e => by
      have := (mv_zero hv t0 t1 hE h0 h1 hk).2.2 e
      omega
    obtain ⟨y, _, hs, hy, hso⟩ := sNext_ok hv t0 t1 hE h0 h1 hk hne
    have hyb := nxI_bd hv h0 h1 hy
    simp only [sOk, Bool.and_eq_true, decide_eq_true_eq] at hso
    have ih := shL_ok hv t0 t1 hE n y hyb.1 hyb.2 hso.1 (by omega)
    show ShOk p to ln k (n + 1) (k :: shL p ln mv n (sNext p ln mv k))
    rw [hs]
    have hz := shL_zero p ln mv n y
    generalize shL p ln mv n y = w at ih hz
    refine ⟨fun x hx => ?_, fun i a b ha hb => ?_, by simpa using ih.last, ?_⟩
    · rcases List.mem_cons.1 hx with rfl | hx
      · exact ⟨h0, h1⟩
      · exact ih.bd x hx
    · rcases i with _ | i
      · simp at ha hb
        rw [List.getElem?_eq_getElem (by have := (List.getElem?_eq_some_iff.1 hz).1; omega)] at hz
        obtain rfl := ha
        have : w[0]? = some b := by simpa using hb
        rw [List.getElem?_eq_getElem (by have := (List.getElem?_eq_some_iff.1 this).1; omega)] at this
        rw [hz] at this
        obtain rfl := Option.some.inj this
        exact hy
      · exact ih.ch i a b (by simpa using ha) (by simpa using hb)
    · rw [mvL_cons, begTo_cons, ih.sum]
      show p.len (k / 2) + _ = _
      omega
theorem sh_way {p : Plan} {to : Int} {ln : List Int} {k : Int} {n : Nat} {w : List Int} (hv : validB p = true) (h : ShOk p to ln k n w) (hl : w.length = n + 1) (hn : n ≤ 1900) : wayB p (mvL w) = true := by
  unfold wayB
  rw [Bool.and_eq_true]
  constructor
  · rw [List.all_eq_true]
    intro i hi
    have hi : i < w.length := by simpa using hi
    have hgi : w[i]? = some w[i] := List.getElem?_eq_getElem hi
    have hbi := h.bd w[i] (List.getElem_mem hi)
    unfold stepB
    rw [mvL_get, hgi]
    simp only [Option.map_some, Option.getD_some, Bool.and_eq_true, Bool.or_eq_true, decide_eq_true_eq]
    refine ⟨mov_of hbi.1 hbi.2, ?_⟩
    rcases i with _ | i
    · exact Or.inl rfl
    · right
      have hgp : w[i]? = some w[i] := List.getElem?_eq_getElem (by omega)
      have hbp := h.bd w[i] (List.getElem_mem (by omega))
      rw [show i + 1 - 1 = i by omega, mvL_get, hgp]
      exact ((foll_mem hv hbp.1 hbp.2).2 (h.ch i _ _ hgp hgi)).2
  · rw [inr_iff, mvL_len]; omega

theorem c_rWayLen (p : Plan) (l : List Move) (hv : validB p = true) (hw : wayB p l = true) : PureCall Tryz.prog 32 [p.av, mLst l] (I (begTo p l l.length)) := by
  have hl := way_len hw
  refine PureCall.of_body Tryz.func32 rfl (by decide) (by simp [Tryz.ntmps32]) ?_
  simp only [Tryz.ntmps32, Tryz.results32]
  refine awp_sr rfl fun K hK => ?_
  simp -dsimp
  refine hK _ _ ?_; clear hK K
  refine awp_sr rfl fun K hK => ?_
  simp -dsimp
  refine hK _ _ ?_; clear hK K
  refine awp_seq_k fun K1 hK1 => ?_
  refine awp_sr rfl fun K hK => ?_
  simp -dsimp
  refine hK _ _ ?_; clear hK K
  refine awp_block ?_
  refine awp_prune [1, 2, 5, 6] ?_
  simp only [prune, List.map_cons, List.map_nil, Go.AM.look, Nat.reduceEqDiff, reduceIte]
  refine awp_loop_l [1, 2] (α := Nat) (fun i => [(6, I i), (5, I (begTo p l i))]) (fun i => [some (.els 2 [p.cells])]) (fun i => i ≤ l.length) (fun i => l.length - i) 0 ?_ ?_ ?_
  · simp
  · exact sub_same (by simp [begTo])
  rintro i i1
  simp only [List.cons_append, List.nil_append, prune, List.map_cons, List.map_nil, Go.AM.look, Nat.reduceEqDiff, reduceIte]
  refine awp_seq_k fun K2 hK2 => ?_
  refine awp_sr rfl fun K hK => ?_
  simp -dsimp
  refine hK _ _ ?_; clear hK K
  refine awp_cond rfl (fun hc0 => ?_) (fun hc0 => ?_)
  · skip
    try simp at hc0
    obtain ⟨m, hgm⟩ : ∃ m, l[i]? = some m := ⟨_, List.getElem?_eq_getElem hc0⟩
    have wi : IntKind.i64.wrap ((i : Int) + 1) = (i : Int) + 1 := wrap_in (by omega) (by omega)
    have hma : mvAt l i = m := by simp [mvAt, hgm]
    have hmv := way_mov hw i hc0
    have hb1 := begTo_bd hv hw (i + 1) (by omega)
    have hbs : begTo p l (i + 1) = begTo p l i + p.len m.Rail := by simp only [begTo]; rw [hma]
    rw [hma] at hmv
    have hmr := movB_iff.1 hmv
    have ws : IntKind.i64.wrap (begTo p l i + p.len m.Rail) = begTo p l (i + 1) := by rw [← hbs]; exact wrap_in (by omega) (by omega)
    refine awp_skip ?_
    simp only [thenA, inBlockA, reduceIte, Nat.reduceEqDiff, eq_self]
    refine hK2 _ _ ?_
    refine awp_prune [1, 2, 5, 6] ?_
    simp only [prune, List.map_cons, List.map_nil, Go.AM.look, Nat.reduceEqDiff, reduceIte]
    refine awp_seq_k fun K3 hK3 => ?_
    refine awp_block ?_
    refine awp_draw mixed rfl fun K hK => ?_
    simp -dsimp [hgm, ws]
    refine callK_intro _ (c_rLenK p m.Rail hv hmr.1 hmr.2) (by simp) ?_
    simp -dsimp [hgm, ws]
    refine hK _ _ _ (by decide +kernel) ?_; clear hK K
    simp only [thenA, inBlockA, reduceIte, Nat.reduceEqDiff, eq_self]
    refine hK3 _ _ ?_
    refine awp_prune [1, 2, 5, 6] ?_
    simp only [prune, List.map_cons, List.map_nil, Go.AM.look, Nat.reduceEqDiff, reduceIte]
    refine awp_r rfl fun K hK => ?_
    simp -dsimp [wi]
    refine hK _ _ ?_; clear hK K
    simp only [thenA, inBlockA, reduceIte, Nat.reduceEqDiff, eq_self]
    exact ⟨i + 1, by omega, by omega, sub_same (by simp)⟩
  · skip
    try simp at hc0
    have hie : i = l.length := by omega
    subst hie
    refine awp_exit ?_
    simp only [thenA, inBlockA, reduceIte, Nat.reduceEqDiff, eq_self]
    refine hK1 _ _ ?_
    refine awp_prune [5] ?_
    simp only [prune, List.map_cons, List.map_nil, Go.AM.look, Nat.reduceEqDiff, reduceIte]
    refine awp_sr rfl fun K hK => ?_
    simp -dsimp
    refine hK _ _ ?_; clear hK K
    exact awp_ret (by simp)

theorem c_TrackDistances_a (p : Plan) (a b : Move) (l : List Int) (hf : p.Fit) (h : fineB p a b = false) : PureCall Tryz.prog 10 [p.av, a.av, b.av, iLst l] (Bo true) := by
  have hfi := c_fine p a b hf
  rw [h] at hfi
  refine PureCall.of_body Tryz.func10 rfl (by decide) (by simp [Tryz.ntmps10]) ?_
  simp only [Tryz.ntmps10, Tryz.results10]
  refine awp_sr rfl fun K hK => ?_
  simp -dsimp
  refine hK _ _ ?_; clear hK K
  refine awp_seq_k fun K1 hK1 => ?_
  refine awp_sr rfl fun K hK => ?_
  simp -dsimp
  refine callK_intro _ (hfi) (by simp) ?_
  simp -dsimp
  refine hK _ _ ?_; clear hK K
  refine awp_cond rfl (fun hc0 => ?_) (fun hc0 => ?_)
  · skip
    skip
    refine awp_sr rfl fun K hK => ?_
    simp -dsimp
    refine callK_intro _ (c_known1) (by simp) ?_
    simp -dsimp
    refine hK _ _ ?_; clear hK K
    exact awp_ret (by simp)
  · skip
    skip
    simp at hc0
theorem c_TrackDistances_n (p : Plan) (a b : Move) (l : List Int) (hf : p.Fit) (hl : l.length ≤ 9223372036854775807) (hb : ∀ x ∈ l, -9223372036854775808 ≤ x) (h : fineB p a b = true) (hc : gd (dEnd p (numM b)).ln (numM a).toNat < 0) : PureCall Tryz.prog 10 [p.av, a.av, b.av, iLst l] (Bo true) := by
  have hfi := c_fine p a b hf
  rw [h] at hfi
  obtain ⟨hv, ha, hbb⟩ := fine_parts h
  have hR := (valid_parts hv).2.1
  have ha' := movB_iff.1 ha
  have hb' := movB_iff.1 hbb
  have hna := num_bd11 ha
  have hnb := num_bd11 hbb
  have hE := dEnd_ok hv hnb.1 hnb.2
  have hmb := mvb_end hv hnb.1 hnb.2
  have h1 := c_tDistances_t p b hv hbb
  have h2 := c_rDistances p b hv hbb
  have h3 := c_tShortest_n p a b hv ha hbb hc
  have hca := c_rNumber a (by omega) (by omega)
  have hlb := len_bd hv ha'.1 ha'.2
  have hk := hmb (numM a).toNat (by omega)
  have hlnx : ∀ x ∈ (dEnd p (numM b)).ln, -9223372036854775808 ≤ x ∧ x ≤ 1125899906842624 := by
    intro x hx
    obtain ⟨i, hi⟩ := List.getElem?_of_mem hx
    have hil := (List.getElem?_eq_some_iff.1 hi).1
    rw [hE.ll] at hil
    have hg : gd (dEnd p (numM b)).ln i = x := by have := getD_at (l := (dEnd p (numM b)).ln) (i := i) (by rw [hE.ll]; exact hil); rw [hi] at this; exact (Option.some.inj this).symm
    rcases hE.neg i hil with g | g
    · rw [hg] at g; omega
    · have := (hmb i hil g).2; rw [hg] at this; omega
  have h4 := c_tConsistent_t p b (dEnd p (numM b)).ln hv hbb (by rw [hE.ll]; omega) hlnx
  rw [ln_cons hv hnb.1 hnb.2] at h4
  have h5 := fun hx => c_tConsistent_t p b l hv hbb hl hx
  have h6 := fun hx => c_rConsistent p b l hv hbb hl hx
  rw [← cons_eq hv] at h6
  have hcl := fun g => cons_ln (l := l) hv hnb.1 hnb.2 g
  have hsI := c_SameI_lst (dEnd p (numM b)).ln (by rw [hE.ll]; omega)
  have hgA : (dEnd p (numM b)).ln[(numM a).toNat]? = some (gd (dEnd p (numM b)).ln (numM a).toNat) := getD_at (by rw [hE.ll]; omega)
  have h00 := hna.1
  have hLen := c_rLenK p a.Rail hv ha'.1 ha'.2
  skip
  generalize consB p (numM b) l (cpS p l) = cb at h5 h6 hcl
  generalize hG : gd (dEnd p (numM b)).ln (numM a).toNat = G at *
  generalize (dEnd p (numM b)).ln = D at *
  generalize numM a = fa at *
  refine PureCall.of_body Tryz.func10 rfl (by decide) (by simp [Tryz.ntmps10]) ?_
  simp only [Tryz.ntmps10, Tryz.results10]
  refine awp_sr rfl fun K hK => ?_
  simp -dsimp
  refine hK _ _ ?_; clear hK K
  refine awp_seq_k fun K1 hK1 => ?_
  refine awp_sr rfl fun K hK => ?_
  simp -dsimp
  refine callK_intro _ (hfi) (by simp) ?_
  simp -dsimp
  refine hK _ _ ?_; clear hK K
  refine awp_cond rfl (fun hc0 => ?_) (fun hc0 => ?_)
  · skip
    skip
    refine awp_sr rfl fun K hK => ?_
    simp -dsimp
    refine callK_intro _ (c_known1) (by simp) ?_
    simp -dsimp
    refine hK _ _ ?_; clear hK K
    exact awp_ret (by simp)
  · skip
    skip
    refine awp_skip ?_
    simp only [thenA, inBlockA, reduceIte, Nat.reduceEqDiff, eq_self]
    refine hK1 _ _ ?_
    refine awp_prune [3, 4, 5, 6] ?_
    simp only [prune, List.map_cons, List.map_nil, Go.AM.look, Nat.reduceEqDiff, reduceIte]
    refine awp_seq_k fun K2 hK2 => ?_
    refine awp_sr rfl fun K hK => ?_
    simp -dsimp
    refine hK _ _ ?_; clear hK K
    refine awp_block ?_
    refine awp_prune [3, 4, 5, 6, 9] ?_
    simp only [prune, List.map_cons, List.map_nil, Go.AM.look, Nat.reduceEqDiff, reduceIte]
    refine awp_loop_l [3, 4, 5, 6] (α := Nat) (fun i => [(9, I i)]) (fun i => [some (.els 2 [p.cells]), some (.els 2 [a.cells]), some (.els 2 [b.cells])]) (fun i => i ≤ l.length ∧ ∀ j : Nat, j < i → ∀ x, l[j]? = some x → x ≤ 1125899906842624) (fun i => l.length - i) 0 ?_ ?_ ?_
    · exact ⟨Nat.zero_le _, fun j hj => absurd hj (by omega)⟩
    · exact sub_same (by simp)
    rintro i ⟨i1, i2⟩
    simp only [List.cons_append, List.nil_append, prune, List.map_cons, List.map_nil, Go.AM.look, Nat.reduceEqDiff, reduceIte]
    refine awp_seq_k fun K3 hK3 => ?_
    refine awp_sr rfl fun K hK => ?_
    simp -dsimp
    refine hK _ _ ?_; clear hK K
    refine awp_cond rfl (fun hc1 => ?_) (fun hc1 => ?_)
    · skip
      skip
      have hi : i < l.length := by simpa using hc1
      obtain ⟨x, hx⟩ : ∃ x, l[i]? = some x := ⟨_, List.getElem?_eq_getElem hi⟩
      have wi : IntKind.i64.wrap ((i : Int) + 1) = (i : Int) + 1 := wrap_in (by omega) (by omega)
      refine awp_skip ?_
      simp only [thenA, inBlockA, reduceIte, Nat.reduceEqDiff, eq_self]
      refine hK3 _ _ ?_
      refine awp_prune [3, 4, 5, 6, 9] ?_
      simp only [prune, List.map_cons, List.map_nil, Go.AM.look, Nat.reduceEqDiff, reduceIte]
      refine awp_seq_k fun K4 hK4 => ?_
      refine awp_block ?_
      refine awp_sr rfl fun K hK => ?_
      simp -dsimp [hx]
      refine hK _ _ ?_; clear hK K
      refine awp_cond rfl (fun hc2 => ?_) (fun hc2 => ?_)
      · skip
        skip
        refine awp_sr rfl fun K hK => ?_
        simp -dsimp
        refine callK_intro _ (c_known1) (by simp) ?_
        simp -dsimp
        refine hK _ _ ?_; clear hK K
        exact awp_ret (by simp)
      · skip
        skip
        have hxb : x ≤ 1125899906842624 := by simp at hc2; omega
        refine awp_skip ?_
        simp only [thenA, inBlockA, reduceIte, Nat.reduceEqDiff, eq_self]
        refine hK4 _ _ ?_
        refine awp_prune [3, 4, 5, 6, 9] ?_
        simp only [prune, List.map_cons, List.map_nil, Go.AM.look, Nat.reduceEqDiff, reduceIte]
        refine awp_r rfl fun K hK => ?_
        simp -dsimp [wi]
        refine hK _ _ ?_; clear hK K
        simp only [thenA, inBlockA, reduceIte, Nat.reduceEqDiff, eq_self]
        refine ⟨i + 1, ⟨by omega, fun j hj z hz => ?_⟩, by omega, sub_same (by simp)⟩
        by_cases e : j = i
        · subst e; rw [hx] at hz; obtain rfl := Option.some.inj hz; exact hxb
        · exact i2 j (by omega) z hz
    · skip
      skip
      have hie : i = l.length := by simp at hc1; omega
      subst hie
      have hbx : ∀ x ∈ l, -9223372036854775808 ≤ x ∧ x ≤ 1125899906842624 := fun x hx => ⟨hb x hx, by obtain ⟨j, hj⟩ := List.getElem?_of_mem hx; exact i2 j (List.getElem?_eq_some_iff.1 hj).1 x hj⟩
      have h5 := h5 hbx
      have h6 := h6 hbx
      refine awp_exit ?_
      simp only [thenA, inBlockA, reduceIte, Nat.reduceEqDiff, eq_self]
      refine hK2 _ _ ?_
      refine awp_prune [3, 4, 5, 6] ?_
      simp only [prune, List.map_cons, List.map_nil, Go.AM.look, Nat.reduceEqDiff, reduceIte]
      refine awp_sr rfl fun K hK => ?_
      simp -dsimp
      refine callK_intro _ (h1) (by simp) ?_
      simp -dsimp
      refine hK _ _ ?_; clear hK K
      refine awp_sr rfl fun K hK => ?_
      simp -dsimp
      refine callK_intro _ (h2) (by simp) ?_
      simp -dsimp
      refine hK _ _ ?_; clear hK K
      refine awp_seq_k fun K5 hK5 => ?_
      refine awp_sd mixed rfl fun K hK => ?_
      simp -dsimp
      refine callK_may _ (fun hm => hsI) (by simp) ?_
      simp -dsimp
      refine callK_may _ (fun hm => h4) (by simp) ?_
      simp -dsimp
      refine callK_may _ (fun hm => h5) (by simp) ?_
      simp -dsimp
      refine callK_may _ (fun hm => h6) (by simp) ?_
      simp -dsimp
      refine ⟨fun w => ne_guard1 _ _ _ _ _ w und_bool1, .bool false, fun w => by rw [ne_bool1 _ _ _ w kt_bool1]; simp, ?_⟩
      try simp -dsimp
      refine callK_may _ (fun hm => h5) (by simp) ?_
      simp -dsimp
      refine callK_may (Bo true) (fun hm => by have e := hcl (by simpa using hm); rw [e]; exact hsI) (by simp) ?_
      simp -dsimp
      refine hK _ _ _ (by decide +kernel) ?_; clear hK K
      refine awp_cond rfl (fun hc3 => ?_) (fun hc3 => ?_)
      · skip
        skip
        simp at hc3
      · skip
        skip
        refine awp_skip ?_
        simp only [thenA, inBlockA, reduceIte, Nat.reduceEqDiff, eq_self]
        refine hK5 _ _ ?_
        refine awp_prune [4, 5, 6, 12] ?_
        simp only [prune, List.map_cons, List.map_nil, Go.AM.look, Nat.reduceEqDiff, reduceIte]
        refine awp_sr rfl fun K hK => ?_
        simp -dsimp
        refine callK_intro _ (h3) (by simp) ?_
        simp -dsimp
        refine hK _ _ ?_; clear hK K
        refine awp_seq_k fun K6 hK6 => ?_
        refine awp_sr rfl fun K hK => ?_
        simp -dsimp [hgA, h00]
        refine callK_intro _ (hca) (by simp) ?_
        simp -dsimp [hgA, h00]
        refine hK _ _ ?_; clear hK K
        refine awp_cond rfl (fun hc4 => ?_) (fun hc4 => ?_)
        · skip
          skip
          refine awp_sr rfl fun K hK => ?_
          simp -dsimp
          refine callK_may _ (fun hm => c_known1) (by simp) ?_
          simp -dsimp
          refine hK _ _ ?_; clear hK K
          exact awp_ret (by simp)
        · skip
          skip
          simp at hc4; omega
theorem c_TrackDistances_t (p : Plan) (a b : Move) (l : List Int) (hf : p.Fit) (hl : l.length ≤ 9223372036854775807) (hb : ∀ x ∈ l, -9223372036854775808 ≤ x) (h : fineB p a b = true) (hc : 0 ≤ gd (dEnd p (numM b)).ln (numM a).toNat) : PureCall Tryz.prog 10 [p.av, a.av, b.av, iLst l] (Bo true) := by
  have hfi := c_fine p a b hf
  rw [h] at hfi
  obtain ⟨hv, ha, hbb⟩ := fine_parts h
  have hR := (valid_parts hv).2.1
  have ha' := movB_iff.1 ha
  have hb' := movB_iff.1 hbb
  have hna := num_bd11 ha
  have hnb := num_bd11 hbb
  have hE := dEnd_ok hv hnb.1 hnb.2
  have hmb := mvb_end hv hnb.1 hnb.2
  have h1 := c_tDistances_t p b hv hbb
  have h2 := c_rDistances p b hv hbb
  have h3 := c_tShortest_t p a b hv ha hbb hc
  have hca := c_rNumber a (by omega) (by omega)
  have hlb := len_bd hv ha'.1 ha'.2
  have hk := hmb (numM a).toNat (by omega)
  have hlnx : ∀ x ∈ (dEnd p (numM b)).ln, -9223372036854775808 ≤ x ∧ x ≤ 1125899906842624 := by
    intro x hx
    obtain ⟨i, hi⟩ := List.getElem?_of_mem hx
    have hil := (List.getElem?_eq_some_iff.1 hi).1
    rw [hE.ll] at hil
    have hg : gd (dEnd p (numM b)).ln i = x := by have := getD_at (l := (dEnd p (numM b)).ln) (i := i) (by rw [hE.ll]; exact hil); rw [hi] at this; exact (Option.some.inj this).symm
    rcases hE.neg i hil with g | g
    · rw [hg] at g; omega
    · have := (hmb i hil g).2; rw [hg] at this; omega
  have h4 := c_tConsistent_t p b (dEnd p (numM b)).ln hv hbb (by rw [hE.ll]; omega) hlnx
  rw [ln_cons hv hnb.1 hnb.2] at h4
  have h5 := fun hx => c_tConsistent_t p b l hv hbb hl hx
  have h6 := fun hx => c_rConsistent p b l hv hbb hl hx
  rw [← cons_eq hv] at h6
  have hcl := fun g => cons_ln (l := l) hv hnb.1 hnb.2 g
  have hsI := c_SameI_lst (dEnd p (numM b)).ln (by rw [hE.ll]; omega)
  have hgA : (dEnd p (numM b)).ln[(numM a).toNat]? = some (gd (dEnd p (numM b)).ln (numM a).toNat) := getD_at (by rw [hE.ll]; omega)
  have h00 := hna.1
  have hLen := c_rLenK p a.Rail hv ha'.1 ha'.2
  have hn0 := (mv_zero hv hnb.1 hnb.2 hE hna.1 hna.2 hc).1
  obtain ⟨n0, hn0e⟩ : ∃ n0 : Nat, gd (dEnd p (numM b)).mv (numM a).toNat = n0 := ⟨(gd (dEnd p (numM b)).mv (numM a).toNat).toNat, by omega⟩
  have hSh := shL_ok hv hnb.1 hnb.2 hE n0 (numM a) hna.1 hna.2 hc hn0e
  have hShl := shL_len p (dEnd p (numM b)).ln (dEnd p (numM b)).mv n0 (numM a)
  have hSh0 := shL_zero p (dEnd p (numM b)).ln (dEnd p (numM b)).mv n0 (numM a)
  have hway := sh_way hv hSh hShl (by have := hk hc; omega)
  rw [hn0e, Int.toNat_natCast] at h3
  generalize shL p (dEnd p (numM b)).ln (dEnd p (numM b)).mv n0 (numM a) = w at h3 hSh hShl hSh0 hway
  have hW0 : (mvL w)[0]? = some a := by rw [mvL_get, hSh0, Option.map_some, moveM_numM ha'.1]
  have hWl : (mvL w)[n0]? = some b := by rw [mvL_get, hSh.last, Option.map_some, moveM_numM hb'.1]
  have hWlen : (mvL w).length = n0 + 1 := by rw [mvL_len, hShl]
  have hWs := hSh.sum
  have hWL := c_rWayLen p (mvL w) hv hway
  have hWay := c_rWay p (mvL w) hv (by have := hk hc; omega)
  have num_rl : numM a / 2 = a.Rail := by unfold numM; split <;> omega
  rw [hWlen, hWs, num_rl] at hWL
  rw [hway] at hWay
  have hk2 := hk hc
  generalize mvL w = W at h3 hW0 hWl hWlen hWL hWay
  have wn : IntKind.i64.wrap (n0 : Int) = n0 := wrap_in (by omega) (by omega)
  have wl : IntKind.i64.wrap (gd (dEnd p (numM b)).ln (numM a).toNat + p.len a.Rail) = gd (dEnd p (numM b)).ln (numM a).toNat + p.len a.Rail := wrap_in (by omega) (by omega)
  clear hSh hShl hSh0 hway hWs num_rl hn0 hn0e
  generalize consB p (numM b) l (cpS p l) = cb at h5 h6 hcl
  generalize hG : gd (dEnd p (numM b)).ln (numM a).toNat = G at *
  generalize (dEnd p (numM b)).ln = D at *
  generalize numM a = fa at *
  refine PureCall.of_body Tryz.func10 rfl (by decide) (by simp [Tryz.ntmps10]) ?_
  simp only [Tryz.ntmps10, Tryz.results10]
  refine awp_sr rfl fun K hK => ?_
  simp -dsimp
  refine hK _ _ ?_; clear hK K
  refine awp_seq_k fun K1 hK1 => ?_
  refine awp_sr rfl fun K hK => ?_
  simp -dsimp
  refine callK_intro _ (hfi) (by simp) ?_
  simp -dsimp
  refine hK _ _ ?_; clear hK K
  refine awp_cond rfl (fun hc0 => ?_) (fun hc0 => ?_)
  · skip
    skip
    refine awp_sr rfl fun K hK => ?_
    simp -dsimp
    refine callK_intro _ (c_known1) (by simp) ?_
    simp -dsimp
    refine hK _ _ ?_; clear hK K
    exact awp_ret (by simp)
  · skip
    skip
    refine awp_skip ?_
    simp only [thenA, inBlockA, reduceIte, Nat.reduceEqDiff, eq_self]
    refine hK1 _ _ ?_
    refine awp_prune [3, 4, 5, 6] ?_
    simp only [prune, List.map_cons, List.map_nil, Go.AM.look, Nat.reduceEqDiff, reduceIte]
    refine awp_seq_k fun K2 hK2 => ?_
    refine awp_sr rfl fun K hK => ?_
    simp -dsimp
    refine hK _ _ ?_; clear hK K
    refine awp_block ?_
    refine awp_prune [3, 4, 5, 6, 9] ?_
    simp only [prune, List.map_cons, List.map_nil, Go.AM.look, Nat.reduceEqDiff, reduceIte]
    refine awp_loop_l [3, 4, 5, 6] (α := Nat) (fun i => [(9, I i)]) (fun i => [some (.els 2 [p.cells]), some (.els 2 [a.cells]), some (.els 2 [b.cells])]) (fun i => i ≤ l.length ∧ ∀ j : Nat, j < i → ∀ x, l[j]? = some x → x ≤ 1125899906842624) (fun i => l.length - i) 0 ?_ ?_ ?_
    · exact ⟨Nat.zero_le _, fun j hj => absurd hj (by omega)⟩
    · exact sub_same (by simp)
    rintro i ⟨i1, i2⟩
    simp only [List.cons_append, List.nil_append, prune, List.map_cons, List.map_nil, Go.AM.look, Nat.reduceEqDiff, reduceIte]
    refine awp_seq_k fun K3 hK3 => ?_
    refine awp_sr rfl fun K hK => ?_
    simp -dsimp
    refine hK _ _ ?_; clear hK K
    refine awp_cond rfl (fun hc1 => ?_) (fun hc1 => ?_)
    · skip
      skip
      have hi : i < l.length := by simpa using hc1
      obtain ⟨x, hx⟩ : ∃ x, l[i]? = some x := ⟨_, List.getElem?_eq_getElem hi⟩
      have wi : IntKind.i64.wrap ((i : Int) + 1) = (i : Int) + 1 := wrap_in (by omega) (by omega)
      refine awp_skip ?_
      simp only [thenA, inBlockA, reduceIte, Nat.reduceEqDiff, eq_self]
      refine hK3 _ _ ?_
      refine awp_prune [3, 4, 5, 6, 9] ?_
      simp only [prune, List.map_cons, List.map_nil, Go.AM.look, Nat.reduceEqDiff, reduceIte]
      refine awp_seq_k fun K4 hK4 => ?_
      refine awp_block ?_
      refine awp_sr rfl fun K hK => ?_
      simp -dsimp [hx]
      refine hK _ _ ?_; clear hK K
      refine awp_cond rfl (fun hc2 => ?_) (fun hc2 => ?_)
      · skip
        skip
        refine awp_sr rfl fun K hK => ?_
        simp -dsimp
        refine callK_intro _ (c_known1) (by simp) ?_
        simp -dsimp
        refine hK _ _ ?_; clear hK K
        exact awp_ret (by simp)
      · skip
        skip
        have hxb : x ≤ 1125899906842624 := by simp at hc2; omega
        refine awp_skip ?_
        simp only [thenA, inBlockA, reduceIte, Nat.reduceEqDiff, eq_self]
        refine hK4 _ _ ?_
        refine awp_prune [3, 4, 5, 6, 9] ?_
        simp only [prune, List.map_cons, List.map_nil, Go.AM.look, Nat.reduceEqDiff, reduceIte]
        refine awp_r rfl fun K hK => ?_
        simp -dsimp [wi]
        refine hK _ _ ?_; clear hK K
        simp only [thenA, inBlockA, reduceIte, Nat.reduceEqDiff, eq_self]
        refine ⟨i + 1, ⟨by omega, fun j hj z hz => ?_⟩, by omega, sub_same (by simp)⟩
        by_cases e : j = i
        · subst e; rw [hx] at hz; obtain rfl := Option.some.inj hz; exact hxb
        · exact i2 j (by omega) z hz
    · skip
      skip
      have hie : i = l.length := by simp at hc1; omega
      subst hie
      have hbx : ∀ x ∈ l, -9223372036854775808 ≤ x ∧ x ≤ 1125899906842624 := fun x hx => ⟨hb x hx, by obtain ⟨j, hj⟩ := List.getElem?_of_mem hx; exact i2 j (List.getElem?_eq_some_iff.1 hj).1 x hj⟩
      have h5 := h5 hbx
      have h6 := h6 hbx
      refine awp_exit ?_
      simp only [thenA, inBlockA, reduceIte, Nat.reduceEqDiff, eq_self]
      refine hK2 _ _ ?_
      refine awp_prune [3, 4, 5, 6] ?_
      simp only [prune, List.map_cons, List.map_nil, Go.AM.look, Nat.reduceEqDiff, reduceIte]
      refine awp_sr rfl fun K hK => ?_
      simp -dsimp
      refine callK_intro _ (h1) (by simp) ?_
      simp -dsimp
      refine hK _ _ ?_; clear hK K
      refine awp_sr rfl fun K hK => ?_
      simp -dsimp
      refine callK_intro _ (h2) (by simp) ?_
      simp -dsimp
      refine hK _ _ ?_; clear hK K
      refine awp_seq_k fun K5 hK5 => ?_
      refine awp_sd mixed rfl fun K hK => ?_
      simp -dsimp
      refine callK_may _ (fun hm => hsI) (by simp) ?_
      simp -dsimp
      refine callK_may _ (fun hm => h4) (by simp) ?_
      simp -dsimp
      refine callK_may _ (fun hm => h5) (by simp) ?_
      simp -dsimp
      refine callK_may _ (fun hm => h6) (by simp) ?_
      simp -dsimp
      refine ⟨fun w => ne_guard1 _ _ _ _ _ w und_bool1, .bool false, fun w => by rw [ne_bool1 _ _ _ w kt_bool1]; simp, ?_⟩
      try simp -dsimp
      refine callK_may _ (fun hm => h5) (by simp) ?_
      simp -dsimp
      refine callK_may (Bo true) (fun hm => by have e := hcl (by simpa using hm); rw [e]; exact hsI) (by simp) ?_
      simp -dsimp
      refine hK _ _ _ (by decide +kernel) ?_; clear hK K
      refine awp_cond rfl (fun hc3 => ?_) (fun hc3 => ?_)
      · skip
        skip
        simp at hc3
      · skip
        skip
        refine awp_skip ?_
        simp only [thenA, inBlockA, reduceIte, Nat.reduceEqDiff, eq_self]
        refine hK5 _ _ ?_
        refine awp_prune [4, 5, 6, 12] ?_
        simp only [prune, List.map_cons, List.map_nil, Go.AM.look, Nat.reduceEqDiff, reduceIte]
        refine awp_sr rfl fun K hK => ?_
        simp -dsimp
        refine callK_intro _ (h3) (by simp) ?_
        simp -dsimp
        refine hK _ _ ?_; clear hK K
        refine awp_seq_k fun K6 hK6 => ?_
        refine awp_sr rfl fun K hK => ?_
        simp -dsimp [hgA, h00]
        refine callK_intro _ (hca) (by simp) ?_
        simp -dsimp [hgA, h00]
        refine hK _ _ ?_; clear hK K
        refine awp_cond rfl (fun hc4 => ?_) (fun hc4 => ?_)
        · skip
          skip
          simp at hc4; omega
        · skip
          skip
          refine awp_skip ?_
          simp only [thenA, inBlockA, reduceIte, Nat.reduceEqDiff, eq_self]
          refine hK6 _ _ ?_
          refine awp_prune [4, 5, 6, 12, 13, 14] ?_
          simp only [prune, List.map_cons, List.map_nil, Go.AM.look, Nat.reduceEqDiff, reduceIte]
          refine awp_sd mixed rfl fun K hK => ?_
          simp -dsimp [hWlen, wn, wl, hgA, h00]
          refine callK_may _ (fun hm => hWay) (by simp) ?_
          simp -dsimp [hWlen, wn, wl, hgA, h00]
          refine idxK_intro a.cells (fun hm => by rw [List.getElem?_map, hW0]; rfl) ?_
          simp -dsimp [hWlen, wn, wl, hgA, h00]
          refine idxK_intro b.cells (fun hm => by rw [List.getElem?_map, hWl]; rfl) ?_
          simp -dsimp [hWlen, wn, wl, hgA, h00]
          refine callK_may _ (fun hm => hWL) (by simp) ?_
          simp -dsimp [hWlen, wn, wl, hgA, h00]
          refine callK_may _ (fun hm => hca) (by simp) ?_
          simp -dsimp [hWlen, wn, wl, hgA, h00]
          refine idxK_intro ([I G]) (fun hm => by rw [List.getElem?_map, hgA]; rfl) ?_
          simp -dsimp [hWlen, wn, wl, hgA, h00]
          refine callK_may _ (fun hm => hLen) (by simp) ?_
          simp -dsimp [hWlen, wn, wl, hgA, h00]
          refine callK_may _ (fun hm => c_known1) (by simp) ?_
          simp -dsimp [hWlen, wn, wl, hgA, h00]
          refine hK _ _ _ (by decide +kernel) ?_; clear hK K
          exact awp_ret (by simp)
theorem c_TrackDistances (p : Plan) (a b : Move) (l : List Int) (hf : p.Fit) (hl : l.length ≤ 9223372036854775807) (hb : ∀ x ∈ l, -9223372036854775808 ≤ x) : PureCall Tryz.prog 10 [p.av, a.av, b.av, iLst l] (Bo true) := by
  cases h : fineB p a b with
  | false => exact c_TrackDistances_a p a b l hf h
  | true =>
    by_cases hc : 0 ≤ gd (dEnd p (numM b)).ln (numM a).toNat
    · exact c_TrackDistances_t p a b l hf hl hb h hc
    · exact c_TrackDistances_n p a b l hf hl hb h (by omega)
end Go.Tram
