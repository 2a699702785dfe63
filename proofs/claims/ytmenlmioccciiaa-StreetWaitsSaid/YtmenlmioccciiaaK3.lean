/- Walks: the law StreetWaits. -/
import Derived.Test.YtmenlmioccciiaaK0
import Derived.Test.YtmenlmioccciiaaK2
namespace Go.Street
open Go.AM Go.Proofs Go.Tram
set_option maxRecDepth 100000
set_option maxHeartbeats 8000000
set_option linter.unusedVariables false
set_option linter.unusedSimpArgs false

/-- The longest time from turn to turn. -/
def turnT (j : Jn) : Int := maxOf j.Longest + mostC j
theorem turnT_pos {j : Jn} (ho : JOk j) : 1 ≤ turnT j := by
  have := long_bd ho; have := most_bd ho
  unfold turnT; omega
theorem wait_tick {j : Jn} (ho : JOk j) {s : Sg} {d p : List Int} {x q t0 : Int} (hs : Safe j s) (hw : Wt j s t0) (hk : s.sk.length = j.Phases.length) (x0 : 0 ≤ x) (x1 : x < j.n) (hd : x ∈ d)
    (hng : (ltAt (tickS j d p s).ls x).Green = false) (q0 : 0 ≤ q) (q1 : q < j.Phases.length) (hq : x ∈ rowAt j.Phases q) :
    ∃ t1, Wt j (tickS j d p s) t1 ∧ t1 ≤ (tickS j d p s).se ∧ (tickS j d p s).se < t1 + turnT j ∧
      ((ltAt s.ls x).Green = false → s.se < t0 + turnT j → t1 + (phi j x q (tickS j d p s) + 1) * turnT j ≤ t0 + (phi j x q s + 1) * turnT j) := by
  have hT := turnT_pos ho
  have hse := (tick_keeps (d := d) (p := p) ho hs).2.1
  have hwt := tick_wt (d := d) (p := p) ho hs hw
  have hL := long_le ho hs.p0 hs.p1
  have hm := most_bd ho
  by_cases hc : s.on = true ∧ endS j d p (nextS s) = true
  · rw [if_pos hc] at hwt
    refine ⟨s.se + 1, hwt, by omega, by omega, fun hx hlt => ?_⟩
    have hxp : x ∉ rowAt j.Phases s.ph := fun h => by rw [hs.onG hc.1 x h] at hx; cases hx
    have ht : tickS j d p s = arrS j (turnS j d p (nextS s)) := by unfold tickS; rw [if_pos hc.1, if_pos hc.2]
    have := phi_turn ho (s := s) (d := d) (p := p) (x := x) (q := q) hs.p0 hs.p1 hk hxp hd q0 q1 hq (tickS j d p s) (by rw [ht]; rfl) (by rw [ht]; rfl)
    have h2 := Int.mul_le_mul_of_nonneg_right (show phi j x q (tickS j d p s) + 1 ≤ phi j x q s by omega) (show 0 ≤ turnT j by omega)
    rw [Int.add_mul (phi j x q s), Int.one_mul]
    omega
  · rw [if_neg hc] at hwt
    have ht0 := hw.t
    have hps : phi j x q (tickS j d p s) = phi j x q s := by
      unfold tickS
      split
      · rename_i hon
        rw [if_neg (fun k => hc ⟨hon, k⟩)]; rfl
      · rfl
    refine ⟨t0, hwt, by omega, ?_, fun _ _ => by rw [hps]; exact Int.le_refl _⟩
    rw [hse]
    cases hon : s.on with
    | false =>
      have := hw.off hon
      have := long_bd ho
      unfold turnT; omega
    | true =>
      have hne : endS j d p (nextS s) = false := by
        cases h : endS j d p (nextS s) with
        | false => rfl
        | true => exact absurd ⟨hon, h⟩ hc
      have ht : tickS j d p s = nextS s := by unfold tickS; rw [if_pos hon, hne]; rfl
      rw [ht] at hng
      have hx : (ltAt s.ls x).Green = false := hng
      have hxp : x ∉ rowAt j.Phases s.ph := fun h => by rw [hs.onG hon x h] at hx; cases hx
      have hsome : someB j q s.ph d = true := by
        unfold someB
        rw [List.any_eq_true]
        exact ⟨x, hq, by simp [hd, hasB, hxp]⟩
      have hdb := dist_bd (ph := s.ph) (q := q) ho.p1
      have hdq := dist_cand (ph := s.ph) ho.p1 q0 q1
      have hd0 : 1 ≤ dist j s.ph q := by
        rcases Int.lt_or_le 0 (dist j s.ph q) with h | h
        · omega
        · exfalso
          have e : dist j s.ph q = 0 := by omega
          rw [e] at hdq
          have e2 : q = s.ph := by
            rw [← hdq]
            unfold candQ
            simp only [Int.toNat_zero, Int.natCast_zero, Int.add_zero]
            exact Int.emod_eq_of_lt hs.p0 hs.p1
          rw [e2] at hq
          exact hxp hq
      have hmq : q ∈ candL j s.ph d := (candTo_mem _).2 ⟨(dist j s.ph q).toNat, by omega, by omega, hdq.symm, hsome⟩
      have hce : (candL j s.ph d).isEmpty = false := by
        cases h : candL j s.ph d with
        | nil => rw [h] at hmq; simp at hmq
        | cons => rfl
      obtain ⟨w1, w2⟩ := hw.on hon
      have hlo : ¬ at0 j.Longest s.ph ≤ s.se + 1 - s.si := by
        intro h
        have hny : (rowAt j.Phases s.ph).any (young j (s.se + 1) s.ls) = false := by
          rw [List.any_eq_false]
          intro y hy
          have hyb := (ho.phase hs.p0 hs.p1).2.2.1 y hy
          have hl := least_le ho hs.p0 hs.p1 hy
          unfold young
          cases hG : (ltAt s.ls y).Green with
          | false => simp
          | true =>
            have := w2 y hyb.1 hyb.2 hG
            simp; omega
        have : endS j d p (nextS s) = true := by
          show endsB j (s.se + 1) s.ph s.si s.ls d p = true
          unfold endsB
          rw [hce, hny, decide_eq_true h]
          simp
        rw [this] at hne; cases hne
      unfold turnT; omega

/-- What is known of who waits. -/
def WI (j : Jn) (x q : Int) (s : Sg) (since : Int) : Prop :=
  ∃ t0, Wt j s t0 ∧ (0 ≤ since → (ltAt s.ls x).Green = false ∧ s.se < t0 + turnT j ∧ t0 + (phi j x q s + 1) * turnT j ≤ since + (j.Skips * j.Phases.length + j.Phases.length) * turnT j)
theorem WI.bound {j : Jn} (ho : JOk j) {x q : Int} {s : Sg} {since : Int} (h : WI j x q s since) (h0 : 0 ≤ since) : s.se - since < boundJ j := by
  obtain ⟨t0, h1, h2⟩ := h
  obtain ⟨h3, h4, h5⟩ := h2 h0
  have hT := turnT_pos ho
  have hp := phi_nn (x := x) (q := q) (s := s) ho.p1
  have h6 := Int.mul_le_mul_of_nonneg_right (show 1 ≤ phi j x q s + 1 by omega) (show 0 ≤ turnT j by omega)
  have e : boundJ j = (j.Skips * j.Phases.length + j.Phases.length) * turnT j + turnT j := by
    unfold boundJ turnT
    rw [Int.add_mul (j.Skips) 1, Int.one_mul, Int.add_mul _ 1, Int.one_mul]
  omega
theorem wi_next {j : Jn} (ho : JOk j) {s : Sg} {d p : List Int} {x q since : Int} (hs : Safe j s) (hk : s.sk.length = j.Phases.length) (hk0 : ∀ y ∈ (tickS j d p s).sk, 0 ≤ y) (x0 : 0 ≤ x) (x1 : x < j.n)
    (q0 : 0 ≤ q) (q1 : q < j.Phases.length) (hq : x ∈ rowAt j.Phases q) (h : WI j x q s since) :
    WI j x q (tickS j d p s) (-1) ∧ ((ltAt (tickS j d p s).ls x).Green = false → x ∈ d → (since < 0 → WI j x q (tickS j d p s) (tickS j d p s).se) ∧ (0 ≤ since → WI j x q (tickS j d p s) since)) := by
  obtain ⟨t0, hw, h2⟩ := h
  have hT := turnT_pos ho
  constructor
  · have := tick_wt (d := d) (p := p) ho hs hw
    split at this
    · exact ⟨_, this, fun h => by omega⟩
    · exact ⟨_, this, fun h => by omega⟩
  · intro hng hd
    obtain ⟨t1, g1, g2, g3, g4⟩ := wait_tick (p := p) ho hs hw hk x0 x1 hd hng q0 q1 hq
    refine ⟨fun _ => ⟨t1, g1, fun _ => ⟨hng, g3, ?_⟩⟩, fun h0 => ⟨t1, g1, fun _ => ⟨hng, g3, ?_⟩⟩⟩
    · have hp := phi_le (x := x) (q := q) (s := tickS j d p s) ho hk0
      have := Int.mul_le_mul_of_nonneg_right (show phi j x q (tickS j d p s) + 1 ≤ j.Skips * j.Phases.length + j.Phases.length by omega) (show 0 ≤ turnT j by omega)
      omega
    · obtain ⟨h3, h4, h5⟩ := h2 h0
      have := g4 h3 h4
      omega
theorem wi_open {j : Jn} (ho : JOk j) (x q : Int) : WI j x q (openS j) (-1) := ⟨0, open_wt ho, fun h => by omega⟩
theorem served {j : Jn} (ho : JOk j) {x : Int} (x0 : 0 ≤ x) (x1 : x < j.n) : ∃ q : Int, 0 ≤ q ∧ q < j.Phases.length ∧ x ∈ rowAt j.Phases q := by
  have hall := ho.all x.toNat (by omega)
  rw [Int.toNat_of_nonneg x0] at hall
  obtain ⟨r, hr, hxr⟩ := List.mem_flatten.1 hall
  obtain ⟨i, hi⟩ := List.getElem?_of_mem hr
  have hil := (List.getElem?_eq_some_iff.1 hi).1
  exact ⟨i, by omega, by omega, by rw [rowAt_of hi]; exact hxr⟩

theorem c_StreetWaits (j : Jn) (l : List Td) (x : Int) (hi : JnIn j) (hl : l.length ≤ maxLen) (hx : I64 x) : PureCall Try.prog 6 [j.av, tL l, I x] (Bo true) := by
  obtain ⟨b, hcf, hfit⟩ := c_fit j hi.s hi.c hi.p hi.l hi.g
  have hk := c_known
  have hfw := c_few l hl
  cases hb : b && (l.all tdB && decide (l.length ≤ 300)) with
  | false =>
    cases b with
    | false =>
      refine PureCall.of_body Try.func6 rfl (by decide) (by simp [Try.ntmps6]) ?_
      simp only [Try.ntmps6, Try.results6]
      refine awp_sr rfl fun K hK => ?_
      simp -dsimp
      refine hK _ _ ?_; clear hK K
      refine awp_seq_k fun K1 hK1 => ?_
      refine awp_sr rfl fun K hK => ?_
      simp -dsimp
      refine callK_intro _ (hcf) (by simp) ?_
      simp -dsimp
      refine callK_may _ (fun hm => (absurd hm (by simp) : PureCall _ _ _ (Bo true))) (by simp) ?_
      simp -dsimp
      refine callK_may _ (fun hm => (absurd hm (by simp) : PureCall _ _ _ (Bo true))) (by simp) ?_
      simp -dsimp
      refine hK _ _ ?_; clear hK K
      refine awp_cond rfl (fun hc0 => ?_) (fun hc0 => ?_)
      · skip
        skip
        refine awp_sr rfl fun K hK => ?_
        simp -dsimp
        refine callK_intro _ (hk) (by simp) ?_
        simp -dsimp
        refine hK _ _ ?_; clear hK K
        exact awp_ret (by simp)
      · skip
        skip
        simp at hc0
    | true =>
      rw [Bool.true_and] at hb
      rw [hb] at hfw
      refine PureCall.of_body Try.func6 rfl (by decide) (by simp [Try.ntmps6]) ?_
      simp only [Try.ntmps6, Try.results6]
      refine awp_sr rfl fun K hK => ?_
      simp -dsimp
      refine hK _ _ ?_; clear hK K
      refine awp_seq_k fun K1 hK1 => ?_
      refine awp_sr rfl fun K hK => ?_
      simp -dsimp
      refine callK_intro _ (hcf) (by simp) ?_
      simp -dsimp
      refine callK_may _ (fun hm => hfw) (by simp) ?_
      simp -dsimp
      refine callK_may _ (fun hm => (absurd hm (by simp) : PureCall _ _ _ (Bo true))) (by simp) ?_
      simp -dsimp
      refine hK _ _ ?_; clear hK K
      refine awp_cond rfl (fun hc0 => ?_) (fun hc0 => ?_)
      · skip
        skip
        refine awp_sr rfl fun K hK => ?_
        simp -dsimp
        refine callK_intro _ (hk) (by simp) ?_
        simp -dsimp
        refine hK _ _ ?_; clear hK K
        exact awp_ret (by simp)
      · skip
        skip
        simp at hc0
  | true =>
    simp only [Bool.and_eq_true, decide_eq_true_eq] at hb
    obtain ⟨rfl, hall, hl3⟩ := hb
    rw [hall, decide_eq_true hl3] at hfw
    have hf := hfit rfl
    have hv := c_rValid j hf
    cases hj : jnB j with
    | false =>
      rw [hj] at hv
      refine PureCall.of_body Try.func6 rfl (by decide) (by simp [Try.ntmps6]) ?_
      simp only [Try.ntmps6, Try.results6]
      refine awp_sr rfl fun K hK => ?_
      simp -dsimp
      refine hK _ _ ?_; clear hK K
      refine awp_seq_k fun K1 hK1 => ?_
      refine awp_sr rfl fun K hK => ?_
      simp -dsimp
      refine callK_intro _ (hcf) (by simp) ?_
      simp -dsimp
      refine callK_may _ (fun hm => hfw) (by simp) ?_
      simp -dsimp
      refine callK_may _ (fun hm => hv) (by simp) ?_
      simp -dsimp
      refine hK _ _ ?_; clear hK K
      refine awp_cond rfl (fun hc0 => ?_) (fun hc0 => ?_)
      · skip
        skip
        refine awp_sr rfl fun K hK => ?_
        simp -dsimp
        refine callK_intro _ (hk) (by simp) ?_
        simp -dsimp
        refine hK _ _ ?_; clear hK K
        exact awp_ret (by simp)
      · skip
        skip
        simp at hc0
    | true =>
      have ho := jnB_ok hj
      rw [hj] at hv
      have hbd := c_Bound_t j hf hj
      have hop := m_Open j hf hj
      have hn2 := ho.n2
      have hnl : j.n = j.Streams.length := rfl
      have h0 := stIn_open ho
      have hwo := wi_open ho x
      obtain ⟨u0, hu0⟩ : ∃ u, openS j = u := ⟨_, rfl⟩
      rw [hu0] at hop h0
      simp only [hu0] at hwo
      have hr0 : runS j [] = u0 := by rw [← hu0]; rfl
      have wm1 : IntKind.i64.wrap (-1) = -1 := wrap_in (by omega) (by omega)
      have hbB : 0 ≤ boundJ j ∧ boundJ j ≤ 1000000 := by
        have h1 := long_bd ho; have h2 := most_bd ho; have h3 := ho.s1; have h4 := ho.s2; have h5 := ho.p2; have h6 := ho.p1
        have b1 : 0 ≤ (j.Skips + 1) * (j.Phases.length : Int) ∧ (j.Skips + 1) * (j.Phases.length : Int) ≤ 21 * 12 := ⟨Int.mul_nonneg (by omega) (by omega), Int.mul_le_mul (by omega) (by omega) (by omega) (by omega)⟩
        have b2 : 0 ≤ ((j.Skips + 1) * (j.Phases.length : Int) + 1) * (maxOf j.Longest + mostC j) ∧ ((j.Skips + 1) * (j.Phases.length : Int) + 1) * (maxOf j.Longest + mostC j) ≤ 253 * 660 := ⟨Int.mul_nonneg (by omega) (by omega), Int.mul_le_mul (by omega) (by omega) (by omega) (by omega)⟩
        unfold boundJ; omega
      refine PureCall.of_bodyG Try.func6 rfl (by decide) (by simp [Try.ntmps6]) ?_
      intro J hJ
      simp only [Try.ntmps6, Try.results6]
      refine gwp_sr rfl (by decide) rfl rfl fun K hK => ?_
      simp -dsimp
      refine hK _ _ ?_; clear hK K
      refine gwp_seq_k fun K1 hK1 => ?_
      refine gwp_sr rfl (by decide) rfl rfl fun K hK => ?_
      simp -dsimp
      refine callK_intro _ (hcf) (by simp) ?_
      simp -dsimp
      refine callK_may _ (fun hm => hfw) (by simp) ?_
      simp -dsimp
      refine callK_may _ (fun hm => hv) (by simp) ?_
      simp -dsimp
      refine hK _ _ ?_; clear hK K
      refine gwp_cond rfl (fun hc0 => ?_) (fun hc0 => ?_)
      · skip
        skip
        refine gwp_sr rfl (by decide) rfl rfl fun K hK => ?_
        simp -dsimp
        refine callK_intro _ (hk) (by simp) ?_
        simp -dsimp
        refine hK _ _ ?_; clear hK K
        exact gwp_ret (by simp)
      · skip
        skip
        simp at hc0
        obtain ⟨x0, x1'⟩ := hc0
        have x1 : x < j.n := by omega
        obtain ⟨q, q0, q1, hq⟩ := served ho x0 x1
        refine gwp_skip ?_
        simp only [thenA, inBlockA, reduceIte, Nat.reduceEqDiff, eq_self]
        refine hK1 _ _ ?_
        refine gwp_prune [1, 2, 3] (Or.inr (by simp)) ?_
        simp only [prune, List.map_cons, List.map_nil, Go.AM.look, Nat.reduceEqDiff, reduceIte]
        refine gwp_sr rfl (by decide) rfl rfl fun K hK => ?_
        simp -dsimp
        refine callK_intro _ (hbd) (by simp) ?_
        simp -dsimp
        refine hK _ _ ?_; clear hK K
        refine gwp_sr rfl (by decide) rfl rfl fun K hK => ?_
        simp -dsimp
        refine callK_mut [] [] [none, some 0, some 1, some 2] (hop) (by decide) rfl (by simp) (by simp) rfl (by simp) ?_
        simp -dsimp
        refine hK _ _ ?_; clear hK K
        refine gwp_seq_k fun K2 hK2 => ?_
        refine gwp_sr rfl (by decide) rfl rfl fun K hK => ?_
        simp -dsimp
        refine hK _ _ ?_; clear hK K
        refine gwp_cond rfl (fun hc1 => ?_) (fun hc1 => ?_)
        · skip
          skip
          simp at hc1
        · skip
          skip
          refine gwp_skip ?_
          simp only [thenA, inBlockA, reduceIte, Nat.reduceEqDiff, eq_self]
          refine hK2 _ _ ?_
          refine gwp_prune [1, 2, 3, 7, 9] (Or.inr (by simp)) ?_
          simp only [prune, List.map_cons, List.map_nil, Go.AM.look, Nat.reduceEqDiff, reduceIte]
          refine gwp_sr rfl (by decide) rfl rfl fun K hK => ?_
          simp -dsimp [wm1]
          refine hK _ _ ?_; clear hK K
          refine gwp_seq_k fun K3 hK3 => ?_
          refine gwp_sr rfl (by decide) rfl rfl fun K hK => ?_
          simp -dsimp
          refine hK _ _ ?_; clear hK K
          refine gwp_block ?_
          refine gwp_prune [1, 2, 3, 7, 9, 11, 12] (Or.inr (by simp)) ?_
          simp only [prune, List.map_cons, List.map_nil, Go.AM.look, Nat.reduceEqDiff, reduceIte]
          refine gwp_loop_l [1, 2, 3, 7, 9] (α := Nat × Int) (fun y => [(12, I y.1), (11, I y.2)]) (fun y => [some (.els 6 [j.cells]), sgAt j (runS j (l.take y.1)) 2 3 j.n j.Phases.length, rRow (runS j (l.take y.1)).ls, kRow (runS j (l.take y.1)).sk]) (fun y => y.1 ≤ l.length ∧ StIn j y.1 (runS j (l.take y.1)) ∧ WI j x q (runS j (l.take y.1)) y.2 ∧ -1 ≤ y.2 ∧ y.2 ≤ 1000000) (fun y => l.length - y.1) (0, -1) ?_ ?_ ?_
          · exact ⟨Nat.zero_le _, by simp only [List.take_zero, hr0]; exact h0, by simp only [List.take_zero, hr0]; exact hwo q, by simp only; omega, by simp only; omega⟩
          · exact gsub (sub_rb [some 0, some 1, some 2, some 3] rfl (by simp [hr0]) (by simp [hr0])) (by simp)
          rintro ⟨k, since⟩ ⟨k1, k2, k3, k4, k5⟩
          simp only at k1 k2 k3 k4 k5 ⊢
          simp only [List.cons_append, List.nil_append, prune, List.map_cons, List.map_nil, Go.AM.look, Nat.reduceEqDiff, reduceIte]
          refine gwp_seq_k fun K4 hK4 => ?_
          refine gwp_sr rfl (by decide) rfl rfl fun K hK => ?_
          simp -dsimp
          refine hK _ _ ?_; clear hK K
          refine gwp_cond rfl (fun hc2 => ?_) (fun hc2 => ?_)
          · skip
            skip
            have hkl : k < l.length := by simpa using hc2
            obtain ⟨t, ht⟩ : ∃ t, l[k]? = some t := ⟨_, List.getElem?_eq_getElem hkl⟩
            have htb : t.Dm.length ≤ 25 ∧ t.Pr.length ≤ 25 := by have := List.all_eq_true.1 hall t (List.mem_of_getElem? ht); simpa [tdB] using this
            have wk : IntKind.i64.wrap ((k : Int) + 1) = (k : Int) + 1 := wrap_in (by omega) (by omega)
            have hsn := runS_snoc (j := j) ht
            have hk2 := stIn_step ho k2 t
            generalize runS j (l.take k) = u at k2 k3 hsn hk2 ⊢
            have htk := stepS_tick hf ho k2 (t := t) (by omega) (by omega) (by omega)
            have hli := lights_in ho hk2 (by omega)
            have hst : stepS j u t = if okT j t.Dm t.Pr then tickS j t.Dm t.Pr u else u := rfl
            have hok := k2.ok (by omega)
            have hwn := fun hk0 => wi_next (d := t.Dm) (p := t.Pr) (x := x) (q := q) ho k2.2 hok.k hk0 x0 x1 q0 q1 hq k3
            generalize stepS j u t = v at hsn hk2 htk hli hst
            have hokv := hk2.ok (by omega)
            have hvl := hokv.l
            have hv0 := hokv.se0
            have hv1 := hokv.se1
            have tlv : List.take j.n (v.ls.map Lt.cells) = v.ls.map Lt.cells := List.take_of_length_le (by simp [hvl])
            have hnv : j.n ≤ v.ls.length := by omega
            have gx := ltAt_get (l := v.ls) (i := x) x0 (by omega)
            have hse := fun (ph on si R Sk Dm Pr : AV) => c_Second j ph on si R Sk Dm Pr v.se
            have hhas := c_rHas t.Dm x (by omega)
            have wd : IntKind.i64.wrap (v.se - since) = v.se - since := wrap_in (by omega) (by omega)
            have wd0 : IntKind.i64.wrap (v.se - v.se) = 0 := by rw [Int.sub_self]; exact wrap_in (by omega) (by omega)
            have hxn : x < (j.n : Int) := x1
            refine gwp_skip ?_
            simp only [thenA, inBlockA, reduceIte, Nat.reduceEqDiff, eq_self]
            refine hK4 _ _ ?_
            refine gwp_prune [1, 2, 3, 7, 9, 11, 12] (Or.inr (by simp)) ?_
            simp only [prune, List.map_cons, List.map_nil, Go.AM.look, Nat.reduceEqDiff, reduceIte]
            refine gwp_seq_k fun K5 hK5 => ?_
            refine gwp_block ?_
            refine gwp_seq_k fun K6 hK6 => ?_
            rcases Bool.eq_false_or_eq_true (okT j t.Dm t.Pr) with hq' | hq'
            all_goals rw [hq'] at htk hst
            · skip
              refine gwp_sd mixed rfl (by decide) rfl rfl fun K hK => ?_
              simp -dsimp [ht]
              refine callK_mut [1] [2, 3] [none, some 0, none, none, some 1, some 2] (htk) (by decide) rfl (by simp) (by simp) rfl (by simp) ?_
              simp -dsimp [ht]
              refine hK _ _ _ (by decide +kernel) ?_; clear hK K
              refine gwp_cond rfl (fun hc3 => ?_) (fun hc3 => ?_)
              · skip
                skip
                simp at hc3
              · skip
                skip
                simp only [if_true] at hst
                rw [← hst] at hwn
                obtain ⟨n1, n2⟩ := hwn (fun y hy => (hokv.kb y hy).1)
                refine gwp_skip ?_
                simp only [thenA, inBlockA, reduceIte, Nat.reduceEqDiff, eq_self]
                refine hK6 _ _ ?_
                refine gwp_prune [1, 2, 3, 7, 9, 11, 12] (Or.inr (by simp)) ?_
                simp only [prune, List.map_cons, List.map_nil, Go.AM.look, Nat.reduceEqDiff, reduceIte]
                refine gwp_sr rfl (by decide) rfl rfl fun K hK => ?_
                simp -dsimp
                refine callK_mut [1] [4, 5] [none, some 0, none, none, none, none, some 1, some 2, some 3] (hli) (by decide) rfl (by simp) (by simp) rfl (by simp) ?_
                simp -dsimp
                refine hK _ _ ?_; clear hK K
                refine gwp_seq_k fun K7 hK7 => ?_
                refine gwp_sr rfl (by decide) rfl rfl fun K hK => ?_
                simp -dsimp [← hnl]
                refine hK _ _ ?_; clear hK K
                refine gwp_cond rfl (fun hc4 => ?_) (fun hc4 => ?_)
                · skip
                  skip
                  simp at hc4
                · skip
                  skip
                  refine gwp_skip ?_
                  simp only [thenA, inBlockA, reduceIte, Nat.reduceEqDiff, eq_self]
                  refine hK7 _ _ ?_
                  refine gwp_prune [1, 2, 3, 7, 9, 11, 12, 13] (Or.inr (by simp)) ?_
                  simp only [prune, List.map_cons, List.map_nil, Go.AM.look, Nat.reduceEqDiff, reduceIte]
                  refine gwp_seq_k fun K8 hK8 => ?_
                  refine gwp_block ?_
                  refine gwp_sr rfl (by decide) rfl rfl fun K hK => ?_
                  simp -dsimp [gx, x0, hxn, hnv, ht]
                  refine idxK_intro (t.cells) (fun _ => by simp [ht]) ?_
                  simp -dsimp [gx, x0, hxn, hnv, ht]
                  refine callK_may _ (fun hm => hhas) (by simp) ?_
                  simp -dsimp [gx, x0, hxn, hnv, ht]
                  refine hK _ _ ?_; clear hK K
                  refine gwp_cond rfl (fun hc5 => ?_) (fun hc5 => ?_)
                  · skip
                    try simp at hc5
                    refine gwp_r rfl (by decide) rfl rfl fun K hK => ?_
                    simp -dsimp [wm1]
                    refine hK _ _ ?_; clear hK K
                    simp only [thenA, inBlockA, reduceIte, Nat.reduceEqDiff, eq_self]
                    refine hK8 _ _ ?_
                    refine gwp_prune [1, 2, 3, 7, 9, 11, 12] (Or.inr (by simp)) ?_
                    simp only [prune, List.map_cons, List.map_nil, Go.AM.look, Nat.reduceEqDiff, reduceIte]
                    refine gwp_sr rfl (by decide) rfl rfl fun K hK => ?_
                    simp -dsimp
                    refine callK_may _ (fun hm => hse _ _ _ _ _ _ _) (by simp) ?_
                    simp -dsimp
                    refine hK _ _ ?_; clear hK K
                    refine gwp_cond rfl (fun hc7 => ?_) (fun hc7 => ?_)
                    · skip
                      skip
                      simp at hc7
                    · skip
                      skip
                      refine gwp_skip ?_
                      simp only [thenA, inBlockA, reduceIte, Nat.reduceEqDiff, eq_self]
                      refine hK5 _ _ ?_
                      refine gwp_prune [1, 2, 3, 7, 9, 11, 12] (Or.inr (by simp)) ?_
                      simp only [prune, List.map_cons, List.map_nil, Go.AM.look, Nat.reduceEqDiff, reduceIte]
                      refine gwp_r rfl (by decide) rfl rfl fun K hK => ?_
                      simp -dsimp [wk]
                      refine hK _ _ ?_; clear hK K
                      simp only [thenA, inBlockA, reduceIte, Nat.reduceEqDiff, eq_self]
                      exact ⟨(k + 1, -1), ⟨by omega, by simp only; rw [hsn]; exact hk2, by simp only; rw [hsn]; exact n1, by simp only; omega, by simp only; omega⟩, by simp only; omega, gsub (sub_rb [some 0, some 1, some 6, some 7] rfl (by simp) (by simp [hsn])) (by simp)⟩
                  · skip
                    try simp at hc5
                    have hW := n2 hc5.1 hc5.2
                    refine gwp_sr rfl (by decide) rfl rfl fun K hK => ?_
                    simp -dsimp
                    refine hK _ _ ?_; clear hK K
                    refine gwp_cond rfl (fun hc6 => ?_) (fun hc6 => ?_)
                    · skip
                      try simp at hc6
                      refine gwp_r rfl (by decide) rfl rfl fun K hK => ?_
                      simp -dsimp
                      refine callK_intro _ (hse _ _ _ _ _ _ _) (by simp) ?_
                      simp -dsimp
                      refine hK _ _ ?_; clear hK K
                      simp only [thenA, inBlockA, reduceIte, Nat.reduceEqDiff, eq_self]
                      refine hK8 _ _ ?_
                      refine gwp_prune [1, 2, 3, 7, 9, 11, 12] (Or.inr (by simp)) ?_
                      simp only [prune, List.map_cons, List.map_nil, Go.AM.look, Nat.reduceEqDiff, reduceIte]
                      refine gwp_sr rfl (by decide) rfl rfl fun K hK => ?_
                      simp -dsimp [wd0]
                      refine callK_may _ (fun hm => hse _ _ _ _ _ _ _) (by simp) ?_
                      simp -dsimp [wd0]
                      refine hK _ _ ?_; clear hK K
                      refine gwp_cond rfl (fun hc7 => ?_) (fun hc7 => ?_)
                      · skip
                        skip
                        exfalso
                        have w00 : IntKind.i64.wrap 0 = 0 := wrap_in (by omega) (by omega)
                        simp [w00] at hc7
                        have := (hW.1 hc6).bound ho hc7.1
                        omega
                      · skip
                        skip
                        refine gwp_skip ?_
                        simp only [thenA, inBlockA, reduceIte, Nat.reduceEqDiff, eq_self]
                        refine hK5 _ _ ?_
                        refine gwp_prune [1, 2, 3, 7, 9, 11, 12] (Or.inr (by simp)) ?_
                        simp only [prune, List.map_cons, List.map_nil, Go.AM.look, Nat.reduceEqDiff, reduceIte]
                        refine gwp_r rfl (by decide) rfl rfl fun K hK => ?_
                        simp -dsimp [wk]
                        refine hK _ _ ?_; clear hK K
                        simp only [thenA, inBlockA, reduceIte, Nat.reduceEqDiff, eq_self]
                        exact ⟨(k + 1, v.se), ⟨by omega, by simp only; rw [hsn]; exact hk2, by simp only; rw [hsn]; exact hW.1 hc6, by simp only; omega, by simp only; omega⟩, by simp only; omega, gsub (sub_rb [some 0, some 1, some 6, some 7] rfl (by simp) (by simp [hsn])) (by simp)⟩
                    · skip
                      try simp at hc6
                      refine gwp_skip ?_
                      simp only [thenA, inBlockA, reduceIte, Nat.reduceEqDiff, eq_self]
                      refine hK8 _ _ ?_
                      refine gwp_prune [1, 2, 3, 7, 9, 11, 12] (Or.inr (by simp)) ?_
                      simp only [prune, List.map_cons, List.map_nil, Go.AM.look, Nat.reduceEqDiff, reduceIte]
                      refine gwp_sr rfl (by decide) rfl rfl fun K hK => ?_
                      simp -dsimp [wd]
                      refine callK_may _ (fun hm => hse _ _ _ _ _ _ _) (by simp) ?_
                      simp -dsimp [wd]
                      refine hK _ _ ?_; clear hK K
                      refine gwp_cond rfl (fun hc7 => ?_) (fun hc7 => ?_)
                      · skip
                        skip
                        exfalso
                        simp at hc7
                        have := (hW.2 hc6).bound ho hc7.1
                        omega
                      · skip
                        skip
                        refine gwp_skip ?_
                        simp only [thenA, inBlockA, reduceIte, Nat.reduceEqDiff, eq_self]
                        refine hK5 _ _ ?_
                        refine gwp_prune [1, 2, 3, 7, 9, 11, 12] (Or.inr (by simp)) ?_
                        simp only [prune, List.map_cons, List.map_nil, Go.AM.look, Nat.reduceEqDiff, reduceIte]
                        refine gwp_r rfl (by decide) rfl rfl fun K hK => ?_
                        simp -dsimp [wk]
                        refine hK _ _ ?_; clear hK K
                        simp only [thenA, inBlockA, reduceIte, Nat.reduceEqDiff, eq_self]
                        exact ⟨(k + 1, since), ⟨by omega, by simp only; rw [hsn]; exact hk2, by simp only; rw [hsn]; exact hW.2 hc6, by simp only; omega, by simp only; omega⟩, by simp only; omega, gsub (sub_rb [some 0, some 1, some 6, some 7] rfl (by simp) (by simp [hsn])) (by simp)⟩
            · skip
              refine gwp_sd mixed rfl (by decide) rfl rfl fun K hK => ?_
              simp -dsimp [ht]
              refine callK_mut [1] [2, 3] [none, some 0, none, none, some 1, some 2] (htk) (by decide) rfl (by simp) (by simp) rfl (by simp) ?_
              simp -dsimp [ht]
              refine hK _ _ _ (by decide +kernel) ?_; clear hK K
              refine gwp_cond rfl (fun hc3 => ?_) (fun hc3 => ?_)
              · skip
                skip
                simp only [Bool.false_eq_true, if_false] at hst
                refine gwp_exit ?_
                simp only [thenA, inBlockA, reduceIte, Nat.reduceEqDiff, eq_self]
                refine hK5 _ _ ?_
                refine gwp_prune [1, 2, 3, 7, 9, 11, 12] (Or.inr (by simp)) ?_
                simp only [prune, List.map_cons, List.map_nil, Go.AM.look, Nat.reduceEqDiff, reduceIte]
                refine gwp_r rfl (by decide) rfl rfl fun K hK => ?_
                simp -dsimp [wk]
                refine hK _ _ ?_; clear hK K
                simp only [thenA, inBlockA, reduceIte, Nat.reduceEqDiff, eq_self]
                exact ⟨(k + 1, since), ⟨by omega, by simp only; rw [hsn]; exact hk2, by simp only; rw [hsn, hst]; exact k3, by simp only; omega, by simp only; omega⟩, by simp only; omega, gsub (sub_rb [some 0, some 1, some 4, some 5] rfl (by simp) (by simp [hsn, hst])) (by simp)⟩
              · skip
                skip
                simp at hc3
          · skip
            skip
            refine gwp_exit ?_
            simp only [thenA, inBlockA, reduceIte, Nat.reduceEqDiff, eq_self]
            refine hK3 _ _ ?_
            refine gwp_prune [] (Or.inr (by simp)) ?_
            simp only [prune, List.map_cons, List.map_nil, Go.AM.look, Nat.reduceEqDiff, reduceIte]
            refine gwp_sr rfl (by decide) rfl rfl fun K hK => ?_
            simp -dsimp
            refine callK_intro _ (hk) (by simp) ?_
            simp -dsimp
            refine hK _ _ ?_; clear hK K
            exact gwp_ret (by simp)
end Go.Street
