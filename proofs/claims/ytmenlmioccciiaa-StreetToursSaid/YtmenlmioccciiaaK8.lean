/- Walks: the law StreetTours. -/
import Derived.Test.YtmenlmioccciiaaZW
import Derived.Test.YtmenlmioccciiaaZT
import Derived.Test.YtmenlmioccciiaaK7
namespace Go.Street
open Go.AM Go.Proofs
set_option maxRecDepth 100000
set_option maxHeartbeats 8000000
set_option linter.unusedVariables false
set_option linter.unusedSimpArgs false

def firstTo (t : List Int) (k : Nat) : Bool := (List.range k).all fun i => decide (i = 0) || decide (at0 t 0 < at0 t i)
theorem firstTo_succ {t : List Int} {k : Nat} (hk : 1 ≤ k) : firstTo t (k + 1) = (firstTo t k && decide (at0 t 0 < at0 t k)) := by
  unfold firstTo
  rw [List.range_succ, List.all_append]
  have : decide (k = 0) = false := decide_eq_false (by omega)
  simp [this]
theorem firstTo_end {t : List Int} {k : Nat} (h1 : 1 ≤ k) (h2 : k ≤ t.length ∨ k = 1) (h3 : ¬ k < t.length) : firstTo t k = firstB t := by
  rcases Nat.eq_zero_or_pos t.length with h | h
  · have e : k = 1 := by omega
    subst e
    unfold firstTo firstB
    rw [h]; rfl
  · have e : k = t.length := by omega
    rw [e]; rfl

theorem c_StreetTours (j : Jn) (l t : List Int) (hi : JnIn j) (hl : l.length ≤ maxLen) (ht : t.length ≤ maxLen) : PureCall Try.prog 3 [j.av, iL l, iL t] (Bo true) := by
  obtain ⟨b, hcf, hfit⟩ := c_fit j hi.s hi.c hi.p hi.l hi.g
  have hk := c_known
  have w00 : IntKind.i64.wrap 0 = 0 := wrap_in (by omega) (by omega)
  cases b with
  | false =>
    refine PureCall.of_body Try.func3 rfl (by decide) (by simp [Try.ntmps3]) ?_
    simp only [Try.ntmps3, Try.results3]
    refine awp_sr rfl fun K hK => ?_
    simp -dsimp
    refine hK _ _ ?_; clear hK K
    refine awp_seq_k fun K1 hK1 => ?_
    refine awp_sr rfl fun K hK => ?_
    simp -dsimp
    refine callK_intro _ (hcf) (by simp) ?_
    simp -dsimp
    refine hK _ _ ?_; clear hK K
    refine awp_cond rfl (fun hc0 => ?_) (fun hc0 => ?_)
    · skip
      skip
      refine awp_sr rfl fun K hK => ?_
      simp -dsimp
      refine callK_intro _ (hk) (by simp) ?_
      simp -dsimp
      refine hK _ _ ?_; clear hK K
      exact awp_ret (by simp)
    · skip
      skip
      simp at hc0
  | true =>
    have hf := hfit rfl
    have hv := c_rValid j hf
    cases hj : jnB j with
    | false =>
      rw [hj] at hv
      refine PureCall.of_body Try.func3 rfl (by decide) (by simp [Try.ntmps3]) ?_
      simp only [Try.ntmps3, Try.results3]
      refine awp_sr rfl fun K hK => ?_
      simp -dsimp
      refine hK _ _ ?_; clear hK K
      refine awp_seq_k fun K1 hK1 => ?_
      refine awp_sr rfl fun K hK => ?_
      simp -dsimp
      refine callK_intro _ (hcf) (by simp) ?_
      simp -dsimp
      refine hK _ _ ?_; clear hK K
      refine awp_cond rfl (fun hc0 => ?_) (fun hc0 => ?_)
      · skip
        skip
        refine awp_sr rfl fun K hK => ?_
        simp -dsimp
        refine callK_intro _ (hk) (by simp) ?_
        simp -dsimp
        refine hK _ _ ?_; clear hK K
        exact awp_ret (by simp)
      · skip
        skip
        simp at hc0
        refine awp_skip ?_
        simp only [thenA, inBlockA, reduceIte, Nat.reduceEqDiff, eq_self]
        refine hK1 _ _ ?_
        refine awp_prune [1, 2, 3] ?_
        simp only [prune, List.map_cons, List.map_nil, Go.AM.look, Nat.reduceEqDiff, reduceIte]
        refine awp_sr rfl fun K hK => ?_
        simp -dsimp
        refine callK_intro _ (c_Tour_f j l hf (by omega) (Or.inl hj)) (by simp) ?_
        simp -dsimp
        refine hK _ _ ?_; clear hK K
        refine awp_sr rfl fun K hK => ?_
        simp -dsimp
        refine callK_intro _ (c_Spread_f j t hf (by omega) (Or.inl hj)) (by simp) ?_
        simp -dsimp
        refine hK _ _ ?_; clear hK K
        refine awp_sr rfl fun K hK => ?_
        simp -dsimp
        refine callK_intro _ (hv) (by simp) ?_
        simp -dsimp
        refine hK _ _ ?_; clear hK K
        refine awp_seq_k fun K2 hK2 => ?_
        refine awp_sr rfl fun K hK => ?_
        simp -dsimp
        refine callK_may _ (fun hm => (absurd hm (by simp) : PureCall _ _ _ (Bo true))) (by simp) ?_
        simp -dsimp
        refine callK_may _ (fun hm => (absurd hm (by simp) : PureCall _ _ _ (Bo true))) (by simp) ?_
        simp -dsimp
        refine hK _ _ ?_; clear hK K
        refine awp_cond rfl (fun hc1 => ?_) (fun hc1 => ?_)
        · skip
          skip
          refine awp_sr rfl fun K hK => ?_
          simp -dsimp
          refine hK _ _ ?_; clear hK K
          refine awp_cond rfl (fun hc2 => ?_) (fun hc2 => ?_)
          · skip
            skip
            simp at hc2
          · skip
            skip
            refine awp_skip ?_
            simp only [thenA, inBlockA, reduceIte, Nat.reduceEqDiff, eq_self]
            refine hK2 _ _ ?_
            refine awp_prune [2, 3, 10, 11, 12] ?_
            simp only [prune, List.map_cons, List.map_nil, Go.AM.look, Nat.reduceEqDiff, reduceIte]
            refine awp_sr rfl fun K hK => ?_
            simp -dsimp
            refine hK _ _ ?_; clear hK K
            refine awp_seq_k fun K3 hK3 => ?_
            refine awp_sr rfl fun K hK => ?_
            simp -dsimp
            refine hK _ _ ?_; clear hK K
            refine awp_block ?_
            refine awp_prune [2, 3, 10, 11, 12, 14, 15] ?_
            simp only [prune, List.map_cons, List.map_nil, Go.AM.look, Nat.reduceEqDiff, reduceIte]
            refine awp_loop_l [2, 3, 10, 11, 12] (α := Nat) (fun k => [(14, Bo (firstTo t k)), (15, I k)]) (fun _ => [some (.els 6 [j.cells]), some (.els 3 [[I 0, .v (.slice none 0 0), .v (.slice none 0 0)]])]) (fun k => 1 ≤ k ∧ (k ≤ t.length ∨ k = 1)) (fun k => t.length - k) 1 ?_ ?_ ?_
            · exact ⟨Nat.le_refl _, Or.inr rfl⟩
            · have e : firstTo t 1 = true := rfl
              exact sub_rb [some 0, some 1] rfl (by simp [e]) (by simp)
            rintro k ⟨k1, k2⟩
            simp only [List.cons_append, List.nil_append, prune, List.map_cons, List.map_nil, Go.AM.look, Nat.reduceEqDiff, reduceIte]
            refine awp_seq_k fun K4 hK4 => ?_
            refine awp_sr rfl fun K hK => ?_
            simp -dsimp
            refine hK _ _ ?_; clear hK K
            refine awp_cond rfl (fun hc4 => ?_) (fun hc4 => ?_)
            · skip
              try simp at hc4
              have gk := at0_nat (l := t) (k := k) (by omega)
              have g0 := at0_nat (l := t) (k := 0) (by omega)
              have wk : IntKind.i64.wrap ((k : Int) + 1) = (k : Int) + 1 := wrap_in (by omega) (by omega)
              have hfs := firstTo_succ (t := t) k1
              refine awp_skip ?_
              simp only [thenA, inBlockA, reduceIte, Nat.reduceEqDiff, eq_self]
              refine hK4 _ _ ?_
              refine awp_prune [2, 3, 10, 11, 12, 14, 15] ?_
              simp only [prune, List.map_cons, List.map_nil, Go.AM.look, Nat.reduceEqDiff, reduceIte]
              refine awp_seq_k fun K5 hK5 => ?_
              refine awp_block ?_
              refine awp_draw mixed rfl fun K hK => ?_
              simp -dsimp
              refine idxK_intro (nCell (at0 t k)) (fun _ => by simp [gk]) ?_
              simp -dsimp
              refine idxK_intro (nCell (at0 t 0)) (fun _ => by simpa using g0) ?_
              simp -dsimp
              refine hK _ _ _ (by decide +kernel) ?_; clear hK K
              simp only [thenA, inBlockA, reduceIte, Nat.reduceEqDiff, eq_self]
              refine hK5 _ _ ?_
              refine awp_prune [2, 3, 10, 11, 12, 14, 15] ?_
              simp only [prune, List.map_cons, List.map_nil, Go.AM.look, Nat.reduceEqDiff, reduceIte]
              refine awp_r rfl fun K hK => ?_
              simp -dsimp [wk]
              refine hK _ _ ?_; clear hK K
              simp only [thenA, inBlockA, reduceIte, Nat.reduceEqDiff, eq_self]
              exact ⟨k + 1, ⟨by omega, Or.inl (by omega)⟩, by omega, sub_rb [some 0, some 1] rfl (by simp [hfs]) (by simp)⟩
            · skip
              try simp at hc4
              refine awp_exit ?_
              simp only [thenA, inBlockA, reduceIte, Nat.reduceEqDiff, eq_self]
              refine hK3 _ _ ?_
              refine awp_prune [2, 3, 10, 11, 12, 14] ?_
              simp only [prune, List.map_cons, List.map_nil, Go.AM.look, Nat.reduceEqDiff, reduceIte]
              refine awp_seq_k fun K6 hK6 => ?_
              refine awp_sr rfl fun K hK => ?_
              simp -dsimp
              refine callK_may _ (fun hm => (absurd hm (by simp) : PureCall _ _ _ (Bo true))) (by simp) ?_
              simp -dsimp
              refine hK _ _ ?_; clear hK K
              refine awp_cond rfl (fun hc5 => ?_) (fun hc5 => ?_)
              · skip
                skip
                refine awp_sr rfl fun K hK => ?_
                simp -dsimp [w00]
                refine callK_may _ (fun hm => hk) (by simp) ?_
                simp -dsimp [w00]
                refine hK _ _ ?_; clear hK K
                exact awp_ret (by simp [w00])
              · skip
                skip
                simp at hc5
        · skip
          skip
          simp at hc1
    | true =>
      have ho := jnB_ok hj
      have hnl : j.n = j.Streams.length := rfl
      have hn1 := ho.n1; have hn2 := ho.n2
      rw [hj] at hv
      refine PureCall.of_body Try.func3 rfl (by decide) (by simp [Try.ntmps3]) ?_
      simp only [Try.ntmps3, Try.results3]
      refine awp_sr rfl fun K hK => ?_
      simp -dsimp
      refine hK _ _ ?_; clear hK K
      refine awp_seq_k fun K1 hK1 => ?_
      refine awp_sr rfl fun K hK => ?_
      simp -dsimp
      refine callK_intro _ (hcf) (by simp) ?_
      simp -dsimp
      refine hK _ _ ?_; clear hK K
      refine awp_cond rfl (fun hc0 => ?_) (fun hc0 => ?_)
      · skip
        skip
        refine awp_sr rfl fun K hK => ?_
        simp -dsimp
        refine callK_intro _ (hk) (by simp) ?_
        simp -dsimp
        refine hK _ _ ?_; clear hK K
        exact awp_ret (by simp)
      · skip
        skip
        simp at hc0
        have hsl := c_rSet j l hf ho (by omega)
        have hst := c_rSet j t hf ho (by omega)
        have hrl := c_rRising l j.n (by omega) (by omega) (by omega)
        rw [hnl] at hrl
        refine awp_skip ?_
        simp only [thenA, inBlockA, reduceIte, Nat.reduceEqDiff, eq_self]
        refine hK1 _ _ ?_
        refine awp_prune [1, 2, 3] ?_
        simp only [prune, List.map_cons, List.map_nil, Go.AM.look, Nat.reduceEqDiff, reduceIte]
        rcases Bool.eq_false_or_eq_true (touredB j l && sortedB l) with hA | hA
        all_goals simp only [Bool.and_eq_true, Bool.and_eq_false_iff] at hA
        have htb := toured_bd hA.1
        have hl6 : l.length ≤ 6 := by omega
        have hris := sorted_ris hA.1
        have hbest := (tour_best ho hA.1).resolve_right (by omega)
        have g0l : l[0]? = some (at0 l 0) := at0_nat (l := l) (k := 0) (by omega)
        have et : l.take 1 = [at0 l 0] := by cases l with | nil => simp at g0l | cons x l => rfl
        have htne := toursF_ne (toured_nodup hA.1) 6 (l.take 1) (by rw [et]; simp) (fun x hx => List.mem_of_mem_take hx) (by rw [et]; simp; omega)
        have hrt := c_rTour j l hf ho htb.2.2 (by omega) hl6 htne
        have hbm := bestL_mem (j := j) htne
        have hbi := toursF_in (l := l) 6 (l.take 1) (fun x hx => List.mem_of_mem_take hx) _ hbm
        have hct := c_Tour_t j l hf hj hA.1 hA.2 _ _ hbest rfl
        simp only at hct
        generalize bestL j (toursF l 6 (l.take 1)) = B at hrt hbi hct
        have hlB := c_rLength j B ho (fun x hx => htb.2.2 x (hbi.2 x hx)) (by omega)
        have hsB := c_rSame B B (by omega)
        rw [hA.1] at hsl
        rw [hA.2, hnl] at hris
        rw [← hris] at hrl
        rotate_left
        have hctf := c_Tour_f j l hf (by omega) (Or.inr hA)
        rotate_left
        · skip
          refine awp_sr rfl fun K hK => ?_
          simp -dsimp
          refine callK_intro _ (hct) (by simp) ?_
          simp -dsimp
          refine hK _ _ ?_; clear hK K
          rcases Bool.eq_false_or_eq_true (touredB j t && firstB t) with hB | hB
          all_goals simp only [Bool.and_eq_true, Bool.and_eq_false_iff] at hB
          have hcs := c_Spread_t j t hf hj hB.1 (by have := first_min hB.1; rw [hB.2] at this; exact of_decide_eq_true this.symm)
          have hrs := c_rSpread j t hf ho hB.1
          have hPB : (spreadP j t).Begins.length ≤ 100000 := by simp only [spreadP, List.length_map, srt_len]; omega
          have hPL : (spreadP j t).Lasts.length ≤ 100000 := by simp only [spreadP, List.length_map, srt_len]; omega
          generalize spreadP j t = P at hcs hrs hPB hPL
          have hsb := c_rSame P.Begins P.Begins hPB
          have hsc := c_rSame P.Lasts P.Lasts hPL
          rotate_left
          have hcsf := c_Spread_f j t hf (by omega) (Or.inr (by cases htt : touredB j t with | false => exact Or.inl rfl | true => right; have := first_min htt; rw [hB.resolve_left (by simp [htt])] at this; exact of_decide_eq_false this.symm))
          rotate_left
          · skip
            refine awp_sr rfl fun K hK => ?_
            simp -dsimp
            refine callK_intro _ (hcs) (by simp) ?_
            simp -dsimp
            refine hK _ _ ?_; clear hK K
            refine awp_sr rfl fun K hK => ?_
            simp -dsimp
            refine callK_intro _ (hv) (by simp) ?_
            simp -dsimp
            refine hK _ _ ?_; clear hK K
            refine awp_seq_k fun K2 hK2 => ?_
            refine awp_sr rfl fun K hK => ?_
            simp -dsimp
            refine callK_may _ (fun hm => hsl) (by simp) ?_
            simp -dsimp
            refine callK_may _ (fun hm => hrl) (by simp) ?_
            simp -dsimp
            refine hK _ _ ?_; clear hK K
            refine awp_cond rfl (fun hc1 => ?_) (fun hc1 => ?_)
            · skip
              skip
              simp at hc1
            · skip
              skip
              refine awp_sr rfl fun K hK => ?_
              simp -dsimp
              refine callK_intro _ (hrt) (by simp) ?_
              simp -dsimp
              refine hK _ _ ?_; clear hK K
              refine awp_sr rfl fun K hK => ?_
              simp -dsimp
              refine callK_may _ (fun hm => hsB) (by simp) ?_
              simp -dsimp
              refine callK_may _ (fun hm => hlB) (by simp) ?_
              simp -dsimp
              refine hK _ _ ?_; clear hK K
              refine awp_cond rfl (fun hc3 => ?_) (fun hc3 => ?_)
              · skip
                skip
                simp at hc3
              · skip
                skip
                refine awp_skip ?_
                simp only [thenA, inBlockA, reduceIte, Nat.reduceEqDiff, eq_self]
                refine hK2 _ _ ?_
                refine awp_prune [2, 3, 10, 11, 12] ?_
                simp only [prune, List.map_cons, List.map_nil, Go.AM.look, Nat.reduceEqDiff, reduceIte]
                refine awp_sr rfl fun K hK => ?_
                simp -dsimp
                refine hK _ _ ?_; clear hK K
                refine awp_seq_k fun K3 hK3 => ?_
                refine awp_sr rfl fun K hK => ?_
                simp -dsimp
                refine hK _ _ ?_; clear hK K
                refine awp_block ?_
                refine awp_prune [2, 3, 10, 11, 12, 14, 15] ?_
                simp only [prune, List.map_cons, List.map_nil, Go.AM.look, Nat.reduceEqDiff, reduceIte]
                refine awp_loop_l [2, 3, 10, 11, 12] (α := Nat) (fun k => [(14, Bo (firstTo t k)), (15, I k)]) (fun _ => [some (.els 6 [j.cells]), some (.els 3 [[I P.Cycle, iL P.Begins, iL P.Lasts]])]) (fun k => 1 ≤ k ∧ (k ≤ t.length ∨ k = 1)) (fun k => t.length - k) 1 ?_ ?_ ?_
                · exact ⟨Nat.le_refl _, Or.inr rfl⟩
                · have e : firstTo t 1 = true := rfl
                  exact sub_rb [some 0, some 1] rfl (by simp [e]) (by simp)
                rintro k ⟨k1, k2⟩
                simp only [List.cons_append, List.nil_append, prune, List.map_cons, List.map_nil, Go.AM.look, Nat.reduceEqDiff, reduceIte]
                refine awp_seq_k fun K4 hK4 => ?_
                refine awp_sr rfl fun K hK => ?_
                simp -dsimp
                refine hK _ _ ?_; clear hK K
                refine awp_cond rfl (fun hc4 => ?_) (fun hc4 => ?_)
                · skip
                  try simp at hc4
                  have gk := at0_nat (l := t) (k := k) (by omega)
                  have g0 := at0_nat (l := t) (k := 0) (by omega)
                  have wk : IntKind.i64.wrap ((k : Int) + 1) = (k : Int) + 1 := wrap_in (by omega) (by omega)
                  have hfs := firstTo_succ (t := t) k1
                  refine awp_skip ?_
                  simp only [thenA, inBlockA, reduceIte, Nat.reduceEqDiff, eq_self]
                  refine hK4 _ _ ?_
                  refine awp_prune [2, 3, 10, 11, 12, 14, 15] ?_
                  simp only [prune, List.map_cons, List.map_nil, Go.AM.look, Nat.reduceEqDiff, reduceIte]
                  refine awp_seq_k fun K5 hK5 => ?_
                  refine awp_block ?_
                  refine awp_draw mixed rfl fun K hK => ?_
                  simp -dsimp
                  refine idxK_intro (nCell (at0 t k)) (fun _ => by simp [gk]) ?_
                  simp -dsimp
                  refine idxK_intro (nCell (at0 t 0)) (fun _ => by simpa using g0) ?_
                  simp -dsimp
                  refine hK _ _ _ (by decide +kernel) ?_; clear hK K
                  simp only [thenA, inBlockA, reduceIte, Nat.reduceEqDiff, eq_self]
                  refine hK5 _ _ ?_
                  refine awp_prune [2, 3, 10, 11, 12, 14, 15] ?_
                  simp only [prune, List.map_cons, List.map_nil, Go.AM.look, Nat.reduceEqDiff, reduceIte]
                  refine awp_r rfl fun K hK => ?_
                  simp -dsimp [wk]
                  refine hK _ _ ?_; clear hK K
                  simp only [thenA, inBlockA, reduceIte, Nat.reduceEqDiff, eq_self]
                  exact ⟨k + 1, ⟨by omega, Or.inl (by omega)⟩, by omega, sub_rb [some 0, some 1] rfl (by simp [hfs]) (by simp)⟩
                · skip
                  try simp at hc4
                  have hfe := firstTo_end k1 k2 (by omega)
                  refine awp_exit ?_
                  simp only [thenA, inBlockA, reduceIte, Nat.reduceEqDiff, eq_self]
                  refine hK3 _ _ ?_
                  refine awp_prune [2, 3, 10, 11, 12, 14] ?_
                  simp only [prune, List.map_cons, List.map_nil, Go.AM.look, Nat.reduceEqDiff, reduceIte]
                  refine awp_seq_k fun K6 hK6 => ?_
                  refine awp_sr rfl fun K hK => ?_
                  simp -dsimp
                  refine callK_may _ (fun hm => hst) (by simp) ?_
                  simp -dsimp
                  refine hK _ _ ?_; clear hK K
                  refine awp_cond rfl (fun hc5 => ?_) (fun hc5 => ?_)
                  · skip
                    rw [hfe] at hc5
                    simp [hB.1, hB.2] at hc5
                  · skip
                    rw [hfe] at hc5
                    refine awp_skip ?_
                    simp only [thenA, inBlockA, reduceIte, Nat.reduceEqDiff, eq_self]
                    refine hK6 _ _ ?_
                    refine awp_prune [2, 3, 10, 11] ?_
                    simp only [prune, List.map_cons, List.map_nil, Go.AM.look, Nat.reduceEqDiff, reduceIte]
                    refine awp_sr rfl fun K hK => ?_
                    simp -dsimp
                    refine callK_intro _ (hrs) (by simp) ?_
                    simp -dsimp
                    refine hK _ _ ?_; clear hK K
                    refine awp_sr rfl fun K hK => ?_
                    simp -dsimp
                    refine callK_may _ (fun hm => hsb) (by simp) ?_
                    simp -dsimp
                    refine callK_may _ (fun hm => hsc) (by simp) ?_
                    simp -dsimp
                    refine callK_may _ (fun hm => hk) (by simp) ?_
                    simp -dsimp
                    refine hK _ _ ?_; clear hK K
                    exact awp_ret (by simp)
          · skip
            refine awp_sr rfl fun K hK => ?_
            simp -dsimp
            refine callK_intro _ (hcsf) (by simp) ?_
            simp -dsimp
            refine hK _ _ ?_; clear hK K
            refine awp_sr rfl fun K hK => ?_
            simp -dsimp
            refine callK_intro _ (hv) (by simp) ?_
            simp -dsimp
            refine hK _ _ ?_; clear hK K
            refine awp_seq_k fun K7 hK7 => ?_
            refine awp_sr rfl fun K hK => ?_
            simp -dsimp
            refine callK_may _ (fun hm => hsl) (by simp) ?_
            simp -dsimp
            refine callK_may _ (fun hm => hrl) (by simp) ?_
            simp -dsimp
            refine hK _ _ ?_; clear hK K
            refine awp_cond rfl (fun hc1 => ?_) (fun hc1 => ?_)
            · skip
              skip
              simp at hc1
            · skip
              skip
              refine awp_sr rfl fun K hK => ?_
              simp -dsimp
              refine callK_intro _ (hrt) (by simp) ?_
              simp -dsimp
              refine hK _ _ ?_; clear hK K
              refine awp_sr rfl fun K hK => ?_
              simp -dsimp
              refine callK_may _ (fun hm => hsB) (by simp) ?_
              simp -dsimp
              refine callK_may _ (fun hm => hlB) (by simp) ?_
              simp -dsimp
              refine hK _ _ ?_; clear hK K
              refine awp_cond rfl (fun hc3 => ?_) (fun hc3 => ?_)
              · skip
                skip
                simp at hc3
              · skip
                skip
                refine awp_skip ?_
                simp only [thenA, inBlockA, reduceIte, Nat.reduceEqDiff, eq_self]
                refine hK7 _ _ ?_
                refine awp_prune [2, 3, 10, 11, 12] ?_
                simp only [prune, List.map_cons, List.map_nil, Go.AM.look, Nat.reduceEqDiff, reduceIte]
                refine awp_sr rfl fun K hK => ?_
                simp -dsimp
                refine hK _ _ ?_; clear hK K
                refine awp_seq_k fun K8 hK8 => ?_
                refine awp_sr rfl fun K hK => ?_
                simp -dsimp
                refine hK _ _ ?_; clear hK K
                refine awp_block ?_
                refine awp_prune [2, 3, 10, 11, 12, 14, 15] ?_
                simp only [prune, List.map_cons, List.map_nil, Go.AM.look, Nat.reduceEqDiff, reduceIte]
                refine awp_loop_l [2, 3, 10, 11, 12] (α := Nat) (fun k => [(14, Bo (firstTo t k)), (15, I k)]) (fun _ => [some (.els 6 [j.cells]), some (.els 3 [[I 0, .v (.slice none 0 0), .v (.slice none 0 0)]])]) (fun k => 1 ≤ k ∧ (k ≤ t.length ∨ k = 1)) (fun k => t.length - k) 1 ?_ ?_ ?_
                · exact ⟨Nat.le_refl _, Or.inr rfl⟩
                · have e : firstTo t 1 = true := rfl
                  exact sub_rb [some 0, some 1] rfl (by simp [e]) (by simp)
                rintro k ⟨k1, k2⟩
                simp only [List.cons_append, List.nil_append, prune, List.map_cons, List.map_nil, Go.AM.look, Nat.reduceEqDiff, reduceIte]
                refine awp_seq_k fun K9 hK9 => ?_
                refine awp_sr rfl fun K hK => ?_
                simp -dsimp
                refine hK _ _ ?_; clear hK K
                refine awp_cond rfl (fun hc4 => ?_) (fun hc4 => ?_)
                · skip
                  try simp at hc4
                  have gk := at0_nat (l := t) (k := k) (by omega)
                  have g0 := at0_nat (l := t) (k := 0) (by omega)
                  have wk : IntKind.i64.wrap ((k : Int) + 1) = (k : Int) + 1 := wrap_in (by omega) (by omega)
                  have hfs := firstTo_succ (t := t) k1
                  refine awp_skip ?_
                  simp only [thenA, inBlockA, reduceIte, Nat.reduceEqDiff, eq_self]
                  refine hK9 _ _ ?_
                  refine awp_prune [2, 3, 10, 11, 12, 14, 15] ?_
                  simp only [prune, List.map_cons, List.map_nil, Go.AM.look, Nat.reduceEqDiff, reduceIte]
                  refine awp_seq_k fun K10 hK10 => ?_
                  refine awp_block ?_
                  refine awp_draw mixed rfl fun K hK => ?_
                  simp -dsimp
                  refine idxK_intro (nCell (at0 t k)) (fun _ => by simp [gk]) ?_
                  simp -dsimp
                  refine idxK_intro (nCell (at0 t 0)) (fun _ => by simpa using g0) ?_
                  simp -dsimp
                  refine hK _ _ _ (by decide +kernel) ?_; clear hK K
                  simp only [thenA, inBlockA, reduceIte, Nat.reduceEqDiff, eq_self]
                  refine hK10 _ _ ?_
                  refine awp_prune [2, 3, 10, 11, 12, 14, 15] ?_
                  simp only [prune, List.map_cons, List.map_nil, Go.AM.look, Nat.reduceEqDiff, reduceIte]
                  refine awp_r rfl fun K hK => ?_
                  simp -dsimp [wk]
                  refine hK _ _ ?_; clear hK K
                  simp only [thenA, inBlockA, reduceIte, Nat.reduceEqDiff, eq_self]
                  exact ⟨k + 1, ⟨by omega, Or.inl (by omega)⟩, by omega, sub_rb [some 0, some 1] rfl (by simp [hfs]) (by simp)⟩
                · skip
                  try simp at hc4
                  have hfe := firstTo_end k1 k2 (by omega)
                  refine awp_exit ?_
                  simp only [thenA, inBlockA, reduceIte, Nat.reduceEqDiff, eq_self]
                  refine hK8 _ _ ?_
                  refine awp_prune [2, 3, 10, 11, 12, 14] ?_
                  simp only [prune, List.map_cons, List.map_nil, Go.AM.look, Nat.reduceEqDiff, reduceIte]
                  refine awp_seq_k fun K11 hK11 => ?_
                  refine awp_sr rfl fun K hK => ?_
                  simp -dsimp
                  refine callK_may _ (fun hm => hst) (by simp) ?_
                  simp -dsimp
                  refine hK _ _ ?_; clear hK K
                  refine awp_cond rfl (fun hc5 => ?_) (fun hc5 => ?_)
                  · skip
                    rw [hfe] at hc5
                    refine awp_sr rfl fun K hK => ?_
                    simp -dsimp [w00]
                    refine callK_may _ (fun hm => hk) (by simp) ?_
                    simp -dsimp [w00]
                    refine hK _ _ ?_; clear hK K
                    exact awp_ret (by simp [w00])
                  · skip
                    rw [hfe] at hc5
                    exfalso; simp at hc5; rcases hB with h | h; (rw [h] at hc5; simp at hc5); (rw [h] at hc5; simp at hc5)
        · skip
          refine awp_sr rfl fun K hK => ?_
          simp -dsimp
          refine callK_intro _ (hctf) (by simp) ?_
          simp -dsimp
          refine hK _ _ ?_; clear hK K
          rcases Bool.eq_false_or_eq_true (touredB j t && firstB t) with hB | hB
          all_goals simp only [Bool.and_eq_true, Bool.and_eq_false_iff] at hB
          have hcs := c_Spread_t j t hf hj hB.1 (by have := first_min hB.1; rw [hB.2] at this; exact of_decide_eq_true this.symm)
          have hrs := c_rSpread j t hf ho hB.1
          have hPB : (spreadP j t).Begins.length ≤ 100000 := by simp only [spreadP, List.length_map, srt_len]; omega
          have hPL : (spreadP j t).Lasts.length ≤ 100000 := by simp only [spreadP, List.length_map, srt_len]; omega
          generalize spreadP j t = P at hcs hrs hPB hPL
          have hsb := c_rSame P.Begins P.Begins hPB
          have hsc := c_rSame P.Lasts P.Lasts hPL
          rotate_left
          have hcsf := c_Spread_f j t hf (by omega) (Or.inr (by cases htt : touredB j t with | false => exact Or.inl rfl | true => right; have := first_min htt; rw [hB.resolve_left (by simp [htt])] at this; exact of_decide_eq_false this.symm))
          rotate_left
          · skip
            refine awp_sr rfl fun K hK => ?_
            simp -dsimp
            refine callK_intro _ (hcs) (by simp) ?_
            simp -dsimp
            refine hK _ _ ?_; clear hK K
            refine awp_sr rfl fun K hK => ?_
            simp -dsimp
            refine callK_intro _ (hv) (by simp) ?_
            simp -dsimp
            refine hK _ _ ?_; clear hK K
            refine awp_seq_k fun K12 hK12 => ?_
            refine awp_sr rfl fun K hK => ?_
            simp -dsimp
            refine callK_may _ (fun hm => hsl) (by simp) ?_
            simp -dsimp
            refine callK_may _ (fun hm => hrl) (by simp) ?_
            simp -dsimp
            refine hK _ _ ?_; clear hK K
            refine awp_cond rfl (fun hc1 => ?_) (fun hc1 => ?_)
            · skip
              skip
              refine awp_sr rfl fun K hK => ?_
              simp -dsimp
              refine hK _ _ ?_; clear hK K
              refine awp_cond rfl (fun hc2 => ?_) (fun hc2 => ?_)
              · skip
                skip
                simp at hc2
              · skip
                skip
                refine awp_skip ?_
                simp only [thenA, inBlockA, reduceIte, Nat.reduceEqDiff, eq_self]
                refine hK12 _ _ ?_
                refine awp_prune [2, 3, 10, 11, 12] ?_
                simp only [prune, List.map_cons, List.map_nil, Go.AM.look, Nat.reduceEqDiff, reduceIte]
                refine awp_sr rfl fun K hK => ?_
                simp -dsimp
                refine hK _ _ ?_; clear hK K
                refine awp_seq_k fun K13 hK13 => ?_
                refine awp_sr rfl fun K hK => ?_
                simp -dsimp
                refine hK _ _ ?_; clear hK K
                refine awp_block ?_
                refine awp_prune [2, 3, 10, 11, 12, 14, 15] ?_
                simp only [prune, List.map_cons, List.map_nil, Go.AM.look, Nat.reduceEqDiff, reduceIte]
                refine awp_loop_l [2, 3, 10, 11, 12] (α := Nat) (fun k => [(14, Bo (firstTo t k)), (15, I k)]) (fun _ => [some (.els 6 [j.cells]), some (.els 3 [[I P.Cycle, iL P.Begins, iL P.Lasts]])]) (fun k => 1 ≤ k ∧ (k ≤ t.length ∨ k = 1)) (fun k => t.length - k) 1 ?_ ?_ ?_
                · exact ⟨Nat.le_refl _, Or.inr rfl⟩
                · have e : firstTo t 1 = true := rfl
                  exact sub_rb [some 0, some 1] rfl (by simp [e]) (by simp)
                rintro k ⟨k1, k2⟩
                simp only [List.cons_append, List.nil_append, prune, List.map_cons, List.map_nil, Go.AM.look, Nat.reduceEqDiff, reduceIte]
                refine awp_seq_k fun K14 hK14 => ?_
                refine awp_sr rfl fun K hK => ?_
                simp -dsimp
                refine hK _ _ ?_; clear hK K
                refine awp_cond rfl (fun hc4 => ?_) (fun hc4 => ?_)
                · skip
                  try simp at hc4
                  have gk := at0_nat (l := t) (k := k) (by omega)
                  have g0 := at0_nat (l := t) (k := 0) (by omega)
                  have wk : IntKind.i64.wrap ((k : Int) + 1) = (k : Int) + 1 := wrap_in (by omega) (by omega)
                  have hfs := firstTo_succ (t := t) k1
                  refine awp_skip ?_
                  simp only [thenA, inBlockA, reduceIte, Nat.reduceEqDiff, eq_self]
                  refine hK14 _ _ ?_
                  refine awp_prune [2, 3, 10, 11, 12, 14, 15] ?_
                  simp only [prune, List.map_cons, List.map_nil, Go.AM.look, Nat.reduceEqDiff, reduceIte]
                  refine awp_seq_k fun K15 hK15 => ?_
                  refine awp_block ?_
                  refine awp_draw mixed rfl fun K hK => ?_
                  simp -dsimp
                  refine idxK_intro (nCell (at0 t k)) (fun _ => by simp [gk]) ?_
                  simp -dsimp
                  refine idxK_intro (nCell (at0 t 0)) (fun _ => by simpa using g0) ?_
                  simp -dsimp
                  refine hK _ _ _ (by decide +kernel) ?_; clear hK K
                  simp only [thenA, inBlockA, reduceIte, Nat.reduceEqDiff, eq_self]
                  refine hK15 _ _ ?_
                  refine awp_prune [2, 3, 10, 11, 12, 14, 15] ?_
                  simp only [prune, List.map_cons, List.map_nil, Go.AM.look, Nat.reduceEqDiff, reduceIte]
                  refine awp_r rfl fun K hK => ?_
                  simp -dsimp [wk]
                  refine hK _ _ ?_; clear hK K
                  simp only [thenA, inBlockA, reduceIte, Nat.reduceEqDiff, eq_self]
                  exact ⟨k + 1, ⟨by omega, Or.inl (by omega)⟩, by omega, sub_rb [some 0, some 1] rfl (by simp [hfs]) (by simp)⟩
                · skip
                  try simp at hc4
                  have hfe := firstTo_end k1 k2 (by omega)
                  refine awp_exit ?_
                  simp only [thenA, inBlockA, reduceIte, Nat.reduceEqDiff, eq_self]
                  refine hK13 _ _ ?_
                  refine awp_prune [2, 3, 10, 11, 12, 14] ?_
                  simp only [prune, List.map_cons, List.map_nil, Go.AM.look, Nat.reduceEqDiff, reduceIte]
                  refine awp_seq_k fun K16 hK16 => ?_
                  refine awp_sr rfl fun K hK => ?_
                  simp -dsimp
                  refine callK_may _ (fun hm => hst) (by simp) ?_
                  simp -dsimp
                  refine hK _ _ ?_; clear hK K
                  refine awp_cond rfl (fun hc5 => ?_) (fun hc5 => ?_)
                  · skip
                    rw [hfe] at hc5
                    simp [hB.1, hB.2] at hc5
                  · skip
                    rw [hfe] at hc5
                    refine awp_skip ?_
                    simp only [thenA, inBlockA, reduceIte, Nat.reduceEqDiff, eq_self]
                    refine hK16 _ _ ?_
                    refine awp_prune [2, 3, 10, 11] ?_
                    simp only [prune, List.map_cons, List.map_nil, Go.AM.look, Nat.reduceEqDiff, reduceIte]
                    refine awp_sr rfl fun K hK => ?_
                    simp -dsimp
                    refine callK_intro _ (hrs) (by simp) ?_
                    simp -dsimp
                    refine hK _ _ ?_; clear hK K
                    refine awp_sr rfl fun K hK => ?_
                    simp -dsimp
                    refine callK_may _ (fun hm => hsb) (by simp) ?_
                    simp -dsimp
                    refine callK_may _ (fun hm => hsc) (by simp) ?_
                    simp -dsimp
                    refine callK_may _ (fun hm => hk) (by simp) ?_
                    simp -dsimp
                    refine hK _ _ ?_; clear hK K
                    exact awp_ret (by simp)
            · skip
              skip
              exfalso
              simp at hc1
              have := sorted_ris hc1.1
              rw [hnl, hc1.2] at this
              rcases hA with h | h
              · rw [hc1.1] at h; cases h
              · rw [this] at h; cases h
          · skip
            refine awp_sr rfl fun K hK => ?_
            simp -dsimp
            refine callK_intro _ (hcsf) (by simp) ?_
            simp -dsimp
            refine hK _ _ ?_; clear hK K
            refine awp_sr rfl fun K hK => ?_
            simp -dsimp
            refine callK_intro _ (hv) (by simp) ?_
            simp -dsimp
            refine hK _ _ ?_; clear hK K
            refine awp_seq_k fun K17 hK17 => ?_
            refine awp_sr rfl fun K hK => ?_
            simp -dsimp
            refine callK_may _ (fun hm => hsl) (by simp) ?_
            simp -dsimp
            refine callK_may _ (fun hm => hrl) (by simp) ?_
            simp -dsimp
            refine hK _ _ ?_; clear hK K
            refine awp_cond rfl (fun hc1 => ?_) (fun hc1 => ?_)
            · skip
              skip
              refine awp_sr rfl fun K hK => ?_
              simp -dsimp
              refine hK _ _ ?_; clear hK K
              refine awp_cond rfl (fun hc2 => ?_) (fun hc2 => ?_)
              · skip
                skip
                simp at hc2
              · skip
                skip
                refine awp_skip ?_
                simp only [thenA, inBlockA, reduceIte, Nat.reduceEqDiff, eq_self]
                refine hK17 _ _ ?_
                refine awp_prune [2, 3, 10, 11, 12] ?_
                simp only [prune, List.map_cons, List.map_nil, Go.AM.look, Nat.reduceEqDiff, reduceIte]
                refine awp_sr rfl fun K hK => ?_
                simp -dsimp
                refine hK _ _ ?_; clear hK K
                refine awp_seq_k fun K18 hK18 => ?_
                refine awp_sr rfl fun K hK => ?_
                simp -dsimp
                refine hK _ _ ?_; clear hK K
                refine awp_block ?_
                refine awp_prune [2, 3, 10, 11, 12, 14, 15] ?_
                simp only [prune, List.map_cons, List.map_nil, Go.AM.look, Nat.reduceEqDiff, reduceIte]
                refine awp_loop_l [2, 3, 10, 11, 12] (α := Nat) (fun k => [(14, Bo (firstTo t k)), (15, I k)]) (fun _ => [some (.els 6 [j.cells]), some (.els 3 [[I 0, .v (.slice none 0 0), .v (.slice none 0 0)]])]) (fun k => 1 ≤ k ∧ (k ≤ t.length ∨ k = 1)) (fun k => t.length - k) 1 ?_ ?_ ?_
                · exact ⟨Nat.le_refl _, Or.inr rfl⟩
                · have e : firstTo t 1 = true := rfl
                  exact sub_rb [some 0, some 1] rfl (by simp [e]) (by simp)
                rintro k ⟨k1, k2⟩
                simp only [List.cons_append, List.nil_append, prune, List.map_cons, List.map_nil, Go.AM.look, Nat.reduceEqDiff, reduceIte]
                refine awp_seq_k fun K19 hK19 => ?_
                refine awp_sr rfl fun K hK => ?_
                simp -dsimp
                refine hK _ _ ?_; clear hK K
                refine awp_cond rfl (fun hc4 => ?_) (fun hc4 => ?_)
                · skip
                  try simp at hc4
                  have gk := at0_nat (l := t) (k := k) (by omega)
                  have g0 := at0_nat (l := t) (k := 0) (by omega)
                  have wk : IntKind.i64.wrap ((k : Int) + 1) = (k : Int) + 1 := wrap_in (by omega) (by omega)
                  have hfs := firstTo_succ (t := t) k1
                  refine awp_skip ?_
                  simp only [thenA, inBlockA, reduceIte, Nat.reduceEqDiff, eq_self]
                  refine hK19 _ _ ?_
                  refine awp_prune [2, 3, 10, 11, 12, 14, 15] ?_
                  simp only [prune, List.map_cons, List.map_nil, Go.AM.look, Nat.reduceEqDiff, reduceIte]
                  refine awp_seq_k fun K20 hK20 => ?_
                  refine awp_block ?_
                  refine awp_draw mixed rfl fun K hK => ?_
                  simp -dsimp
                  refine idxK_intro (nCell (at0 t k)) (fun _ => by simp [gk]) ?_
                  simp -dsimp
                  refine idxK_intro (nCell (at0 t 0)) (fun _ => by simpa using g0) ?_
                  simp -dsimp
                  refine hK _ _ _ (by decide +kernel) ?_; clear hK K
                  simp only [thenA, inBlockA, reduceIte, Nat.reduceEqDiff, eq_self]
                  refine hK20 _ _ ?_
                  refine awp_prune [2, 3, 10, 11, 12, 14, 15] ?_
                  simp only [prune, List.map_cons, List.map_nil, Go.AM.look, Nat.reduceEqDiff, reduceIte]
                  refine awp_r rfl fun K hK => ?_
                  simp -dsimp [wk]
                  refine hK _ _ ?_; clear hK K
                  simp only [thenA, inBlockA, reduceIte, Nat.reduceEqDiff, eq_self]
                  exact ⟨k + 1, ⟨by omega, Or.inl (by omega)⟩, by omega, sub_rb [some 0, some 1] rfl (by simp [hfs]) (by simp)⟩
                · skip
                  try simp at hc4
                  have hfe := firstTo_end k1 k2 (by omega)
                  refine awp_exit ?_
                  simp only [thenA, inBlockA, reduceIte, Nat.reduceEqDiff, eq_self]
                  refine hK18 _ _ ?_
                  refine awp_prune [2, 3, 10, 11, 12, 14] ?_
                  simp only [prune, List.map_cons, List.map_nil, Go.AM.look, Nat.reduceEqDiff, reduceIte]
                  refine awp_seq_k fun K21 hK21 => ?_
                  refine awp_sr rfl fun K hK => ?_
                  simp -dsimp
                  refine callK_may _ (fun hm => hst) (by simp) ?_
                  simp -dsimp
                  refine hK _ _ ?_; clear hK K
                  refine awp_cond rfl (fun hc5 => ?_) (fun hc5 => ?_)
                  · skip
                    rw [hfe] at hc5
                    refine awp_sr rfl fun K hK => ?_
                    simp -dsimp [w00]
                    refine callK_may _ (fun hm => hk) (by simp) ?_
                    simp -dsimp [w00]
                    refine hK _ _ ?_; clear hK K
                    exact awp_ret (by simp [w00])
                  · skip
                    rw [hfe] at hc5
                    exfalso; simp at hc5; rcases hB with h | h; (rw [h] at hc5; simp at hc5); (rw [h] at hc5; simp at hc5)
            · skip
              skip
              exfalso
              simp at hc1
              have := sorted_ris hc1.1
              rw [hnl, hc1.2] at this
              rcases hA with h | h
              · rw [hc1.1] at h; cases h
              · rw [this] at h; cases h
end Go.Street
