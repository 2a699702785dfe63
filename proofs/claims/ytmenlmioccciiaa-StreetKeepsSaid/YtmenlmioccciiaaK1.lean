/- Walks: the law StreetKeeps. -/
import Derived.Test.YtmenlmioccciiaaK0
namespace Go.Street
open Go.AM Go.Proofs Go.Tram
set_option maxRecDepth 100000
set_option maxHeartbeats 8000000
set_option linter.unusedVariables false
set_option linter.unusedSimpArgs false

theorem c_StreetKeeps (j : Jn) (l : List Td) (hi : JnIn j) (hl : l.length ≤ maxLen) : PureCall Try.prog 5 [j.av, tL l] (Bo true) := by
  obtain ⟨b, hcf, hfit⟩ := c_fit j hi.s hi.c hi.p hi.l hi.g
  have hk := c_known
  have hfw := c_few l hl
  cases hb : b && (l.all tdB && decide (l.length ≤ 300)) with
  | false =>
    cases b with
    | false =>
      refine PureCall.of_body Try.func5 rfl (by decide) (by simp [Try.ntmps5]) ?_
      simp only [Try.ntmps5, Try.results5]
      refine awp_sr rfl fun K hK => ?_
      simp -dsimp
      refine hK _ _ ?_; clear hK K
      refine awp_seq_k fun K1 hK1 => ?_
      refine awp_sr rfl fun K hK => ?_
      simp -dsimp
      refine callK_intro _ (hcf) (by simp) ?_
      simp -dsimp
      refine callK_may _ (fun hm => (absurd hm (by simp) : PureCall _ _ _ (Bo true))) (by simp) ?_
      simp -dsimp
      refine callK_may _ (fun hm => (absurd hm (by simp) : PureCall _ _ _ (Bo true))) (by simp) ?_
      simp -dsimp
      refine hK _ _ ?_; clear hK K
      refine awp_cond rfl (fun hc0 => ?_) (fun hc0 => ?_)
      · skip
        skip
        refine awp_sr rfl fun K hK => ?_
        simp -dsimp
        refine callK_intro _ (hk) (by simp) ?_
        simp -dsimp
        refine hK _ _ ?_; clear hK K
        exact awp_ret (by simp)
      · skip
        skip
        simp at hc0
    | true =>
      rw [Bool.true_and] at hb
      rw [hb] at hfw
      refine PureCall.of_body Try.func5 rfl (by decide) (by simp [Try.ntmps5]) ?_
      simp only [Try.ntmps5, Try.results5]
      refine awp_sr rfl fun K hK => ?_
      simp -dsimp
      refine hK _ _ ?_; clear hK K
      refine awp_seq_k fun K1 hK1 => ?_
      refine awp_sr rfl fun K hK => ?_
      simp -dsimp
      refine callK_intro _ (hcf) (by simp) ?_
      simp -dsimp
      refine callK_may _ (fun hm => hfw) (by simp) ?_
      simp -dsimp
      refine callK_may _ (fun hm => (absurd hm (by simp) : PureCall _ _ _ (Bo true))) (by simp) ?_
      simp -dsimp
      refine hK _ _ ?_; clear hK K
      refine awp_cond rfl (fun hc0 => ?_) (fun hc0 => ?_)
      · skip
        skip
        refine awp_sr rfl fun K hK => ?_
        simp -dsimp
        refine callK_intro _ (hk) (by simp) ?_
        simp -dsimp
        refine hK _ _ ?_; clear hK K
        exact awp_ret (by simp)
      · skip
        skip
        simp at hc0
  | true =>
    simp only [Bool.and_eq_true, decide_eq_true_eq] at hb
    obtain ⟨rfl, hall, hl3⟩ := hb
    rw [hall, decide_eq_true hl3] at hfw
    have hf := hfit rfl
    have hv := c_rValid j hf
    cases hj : jnB j with
    | false =>
      rw [hj] at hv
      refine PureCall.of_body Try.func5 rfl (by decide) (by simp [Try.ntmps5]) ?_
      simp only [Try.ntmps5, Try.results5]
      refine awp_sr rfl fun K hK => ?_
      simp -dsimp
      refine hK _ _ ?_; clear hK K
      refine awp_seq_k fun K1 hK1 => ?_
      refine awp_sr rfl fun K hK => ?_
      simp -dsimp
      refine callK_intro _ (hcf) (by simp) ?_
      simp -dsimp
      refine callK_may _ (fun hm => hfw) (by simp) ?_
      simp -dsimp
      refine callK_may _ (fun hm => hv) (by simp) ?_
      simp -dsimp
      refine hK _ _ ?_; clear hK K
      refine awp_cond rfl (fun hc0 => ?_) (fun hc0 => ?_)
      · skip
        skip
        refine awp_sr rfl fun K hK => ?_
        simp -dsimp
        refine callK_intro _ (hk) (by simp) ?_
        simp -dsimp
        refine hK _ _ ?_; clear hK K
        exact awp_ret (by simp)
      · skip
        skip
        simp at hc0
    | true =>
      have ho := jnB_ok hj
      rw [hj] at hv
      have hop := m_Open j hf hj
      have hn2 := ho.n2
      have hnl : j.n = j.Streams.length := rfl
      have h0 := stIn_open ho
      obtain ⟨u0, hu0⟩ : ∃ u, openS j = u := ⟨_, rfl⟩
      rw [hu0] at hop h0
      have hr0 : runS j [] = u0 := by rw [← hu0]; rfl
      have hls : u0.ls.length = j.n := (h0.ok (by omega)).l
      have hks : u0.sk.length = j.Phases.length := (h0.ok (by omega)).k
      have hl0 := lights_in ho h0 (by omega)
      have tl0 : List.take j.n (u0.ls.map Lt.cells) = u0.ls.map Lt.cells := List.take_of_length_le (by simp [hls])
      refine PureCall.of_bodyG Try.func5 rfl (by decide) (by simp [Try.ntmps5]) ?_
      intro J hJ
      simp only [Try.ntmps5, Try.results5]
      refine gwp_sr rfl (by decide) rfl rfl fun K hK => ?_
      simp -dsimp
      refine hK _ _ ?_; clear hK K
      refine gwp_seq_k fun K1 hK1 => ?_
      refine gwp_sr rfl (by decide) rfl rfl fun K hK => ?_
      simp -dsimp
      refine callK_intro _ (hcf) (by simp) ?_
      simp -dsimp
      refine callK_may _ (fun hm => hfw) (by simp) ?_
      simp -dsimp
      refine callK_may _ (fun hm => hv) (by simp) ?_
      simp -dsimp
      refine hK _ _ ?_; clear hK K
      refine gwp_cond rfl (fun hc0 => ?_) (fun hc0 => ?_)
      · skip
        skip
        simp at hc0
      · skip
        skip
        refine gwp_skip ?_
        simp only [thenA, inBlockA, reduceIte, Nat.reduceEqDiff, eq_self]
        refine hK1 _ _ ?_
        refine gwp_prune [1, 2] (Or.inr (by simp)) ?_
        simp only [prune, List.map_cons, List.map_nil, Go.AM.look, Nat.reduceEqDiff, reduceIte]
        refine gwp_sr rfl (by decide) rfl rfl fun K hK => ?_
        simp -dsimp
        refine callK_mut [] [] [none, some 0, some 1, some 2] (hop) (by decide) rfl (by simp) (by simp) rfl (by simp) ?_
        simp -dsimp
        refine hK _ _ ?_; clear hK K
        refine gwp_seq_k fun K2 hK2 => ?_
        refine gwp_sr rfl (by decide) rfl rfl fun K hK => ?_
        simp -dsimp
        refine hK _ _ ?_; clear hK K
        refine gwp_cond rfl (fun hc1 => ?_) (fun hc1 => ?_)
        · skip
          skip
          simp at hc1
        · skip
          skip
          refine gwp_skip ?_
          simp only [thenA, inBlockA, reduceIte, Nat.reduceEqDiff, eq_self]
          refine hK2 _ _ ?_
          refine gwp_prune [1, 2, 5] (Or.inr (by simp)) ?_
          simp only [prune, List.map_cons, List.map_nil, Go.AM.look, Nat.reduceEqDiff, reduceIte]
          refine gwp_sr rfl (by decide) rfl rfl fun K hK => ?_
          simp -dsimp [← hnl]
          refine hK _ _ ?_; clear hK K
          refine gwp_sr rfl (by decide) rfl rfl fun K hK => ?_
          simp -dsimp
          refine callK_mut [1] [2, 3] [none, some 0, none, none, some 1, some 2, some 3] (hl0) (by decide) rfl (by simp) (by simp) rfl (by simp) ?_
          simp -dsimp
          refine hK _ _ ?_; clear hK K
          refine gwp_seq_k fun K3 hK3 => ?_
          refine gwp_weak (gsub (sub_rf (T' := [(1, tL l), (2, .ptr 0 0 0), (5, .ptr 1 0 0), (7, I j.n), (8, lL u0.ls)]) (H' := [some (.els 6 [j.cells]), sgAt j u0 2 3 j.n j.Phases.length, rRow u0.ls, kRow u0.sk]) [some 0, some 1, some 4, some 5] rfl (by simp [tl0, hls]) (by simp)) (by simp)) ?_
          · skip
            refine gwp_sr rfl (by decide) rfl rfl fun K hK => ?_
            simp -dsimp
            refine hK _ _ ?_; clear hK K
            refine gwp_block ?_
            refine gwp_prune [1, 2, 5, 7, 8, 9] (Or.inr (by simp)) ?_
            simp only [prune, List.map_cons, List.map_nil, Go.AM.look, Nat.reduceEqDiff, reduceIte]
            refine gwp_loop_l [1, 2, 5, 7] (α := Nat) (fun k => [(9, I k), (8, lL (runS j (l.take k)).ls)]) (fun k => [some (.els 6 [j.cells]), sgAt j (runS j (l.take k)) 2 3 j.n j.Phases.length, rRow (runS j (l.take k)).ls, kRow (runS j (l.take k)).sk]) (fun k => k ≤ l.length ∧ StIn j k (runS j (l.take k))) (fun k => l.length - k) 0 ?_ ?_ ?_
            · exact ⟨Nat.zero_le _, by rw [List.take_zero, hr0]; exact h0⟩
            · exact gsub (sub_rb [some 0, some 1, some 2, some 3] rfl (by simp [hr0]) (by simp [hr0])) (by simp)
            rintro k ⟨k1, k2⟩
            simp only [List.cons_append, List.nil_append, prune, List.map_cons, List.map_nil, Go.AM.look, Nat.reduceEqDiff, reduceIte]
            refine gwp_seq_k fun K4 hK4 => ?_
            refine gwp_sr rfl (by decide) rfl rfl fun K hK => ?_
            simp -dsimp
            refine hK _ _ ?_; clear hK K
            refine gwp_cond rfl (fun hc2 => ?_) (fun hc2 => ?_)
            · skip
              skip
              have hkl : k < l.length := by simpa using hc2
              obtain ⟨t, ht⟩ : ∃ t, l[k]? = some t := ⟨_, List.getElem?_eq_getElem hkl⟩
              have htb : t.Dm.length ≤ 25 ∧ t.Pr.length ≤ 25 := by have := List.all_eq_true.1 hall t (List.mem_of_getElem? ht); simpa [tdB] using this
              have wk : IntKind.i64.wrap ((k : Int) + 1) = (k : Int) + 1 := wrap_in (by omega) (by omega)
              have hsn := runS_snoc (j := j) ht
              have hk2 := stIn_step ho k2 t
              generalize runS j (l.take k) = u at k2 hsn hk2 ⊢
              have htk := stepS_tick hf ho k2 (t := t) (by omega) (by omega) (by omega)
              have hli := lights_in ho hk2 (by omega)
              have hst : stepS j u t = if okT j t.Dm t.Pr then tickS j t.Dm t.Pr u else u := rfl
              have hkeep := tick_keeps (d := t.Dm) (p := t.Pr) ho k2.2
              generalize stepS j u t = v at hsn hk2 htk hli hst
              have hok := k2.ok (by omega)
              have hokv := hk2.ok (by omega)
              have hul := hok.l
              have hvl := hokv.l
              have tlv : List.take j.n (v.ls.map Lt.cells) = v.ls.map Lt.cells := List.take_of_length_le (by simp [hvl])
              have hnv : j.n ≤ v.ls.length := by omega
              have hse := fun (ph on si R Sk Dm Pr : AV) => c_Second j ph on si R Sk Dm Pr v.se
              refine gwp_skip ?_
              simp only [thenA, inBlockA, reduceIte, Nat.reduceEqDiff, eq_self]
              refine hK4 _ _ ?_
              refine gwp_prune [1, 2, 5, 7, 8, 9] (Or.inr (by simp)) ?_
              simp only [prune, List.map_cons, List.map_nil, Go.AM.look, Nat.reduceEqDiff, reduceIte]
              refine gwp_seq_k fun K5 hK5 => ?_
              refine gwp_block ?_
              refine gwp_seq_k fun K6 hK6 => ?_
              rcases Bool.eq_false_or_eq_true (okT j t.Dm t.Pr) with hq | hq
              all_goals rw [hq] at htk hst
              · skip
                refine gwp_sd mixed rfl (by decide) rfl rfl fun K hK => ?_
                simp -dsimp [ht]
                refine callK_mut [1] [2, 3] [none, some 0, none, none, some 1, some 2] (htk) (by decide) rfl (by simp) (by simp) rfl (by simp) ?_
                simp -dsimp [ht]
                refine hK _ _ _ (by decide +kernel) ?_; clear hK K
                refine gwp_cond rfl (fun hc3 => ?_) (fun hc3 => ?_)
                · skip
                  skip
                  simp at hc3
                · skip
                  skip
                  simp only [if_true] at hst
                  rw [← hst] at hkeep
                  have hkT := hkeep.2.2
                  have hkS := hkeep.1
                  refine gwp_skip ?_
                  simp only [thenA, inBlockA, reduceIte, Nat.reduceEqDiff, eq_self]
                  refine hK6 _ _ ?_
                  refine gwp_prune [1, 2, 5, 7, 8, 9] (Or.inr (by simp)) ?_
                  simp only [prune, List.map_cons, List.map_nil, Go.AM.look, Nat.reduceEqDiff, reduceIte]
                  refine gwp_sr rfl (by decide) rfl rfl fun K hK => ?_
                  simp -dsimp
                  refine callK_mut [1] [4, 5] [none, some 0, none, none, none, none, some 1, some 2, some 3] (hli) (by decide) rfl (by simp) (by simp) rfl (by simp) ?_
                  simp -dsimp
                  refine hK _ _ ?_; clear hK K
                  refine gwp_sr rfl (by decide) rfl rfl fun K hK => ?_
                  simp -dsimp
                  refine callK_intro _ (hse _ _ _ _ _ _ _) (by simp) ?_
                  simp -dsimp
                  refine hK _ _ ?_; clear hK K
                  refine gwp_seq_k fun K7 hK7 => ?_
                  refine gwp_sr rfl (by decide) rfl rfl fun K hK => ?_
                  simp -dsimp [hul]
                  refine hK _ _ ?_; clear hK K
                  refine gwp_cond rfl (fun hc4 => ?_) (fun hc4 => ?_)
                  · skip
                    skip
                    simp [hul] at hc4
                  · skip
                    skip
                    refine gwp_skip ?_
                    simp only [thenA, inBlockA, reduceIte, Nat.reduceEqDiff, eq_self]
                    refine hK7 _ _ ?_
                    refine gwp_prune [1, 2, 5, 7, 8, 9, 10, 11] (Or.inr (by simp)) ?_
                    simp only [prune, List.map_cons, List.map_nil, Go.AM.look, Nat.reduceEqDiff, reduceIte]
                    refine gwp_seq_k fun K8 hK8 => ?_
                    refine gwp_weak (gsub (sub_rf (T' := [(1, tL l), (2, .ptr 0 0 0), (5, .ptr 1 0 0), (7, I j.n), (8, lL u.ls), (9, I k), (10, lL v.ls), (11, I v.se)]) (H' := [some (.els 6 [j.cells]), sgAt j v 2 3 j.n j.Phases.length, rRow v.ls, kRow v.sk]) [some 0, some 1, some 6, some 7] rfl (by simp [tlv, hnv]) (by simp)) (by simp)) ?_
                    · skip
                      refine gwp_sr rfl (by decide) rfl rfl fun K hK => ?_
                      simp -dsimp
                      refine hK _ _ ?_; clear hK K
                      refine gwp_block ?_
                      refine gwp_prune [1, 2, 5, 7, 8, 9, 10, 11, 12] (Or.inr (by simp)) ?_
                      simp only [prune, List.map_cons, List.map_nil, Go.AM.look, Nat.reduceEqDiff, reduceIte]
                      refine gwp_loop_l [1, 2, 5, 7, 8, 9, 10, 11] (α := Nat) (fun a => [(12, I a)]) (fun _ => [some (.els 6 [j.cells]), sgAt j v 2 3 j.n j.Phases.length, rRow v.ls, kRow v.sk]) (fun a => a ≤ j.n) (fun a => j.n - a) 0 ?_ ?_ ?_
                      · exact Nat.zero_le _
                      · exact gsub (sub_same (by simp)) (by simp)
                      rintro a a1
                      simp only [List.cons_append, List.nil_append, prune, List.map_cons, List.map_nil, Go.AM.look, Nat.reduceEqDiff, reduceIte]
                      refine gwp_seq_k fun K9 hK9 => ?_
                      refine gwp_sr rfl (by decide) rfl rfl fun K hK => ?_
                      simp -dsimp
                      refine hK _ _ ?_; clear hK K
                      refine gwp_cond rfl (fun hc5 => ?_) (fun hc5 => ?_)
                      · skip
                        skip
                        have ha : a < j.n := by simpa using hc5
                        have wa : IntKind.i64.wrap ((a : Int) + 1) = (a : Int) + 1 := wrap_in (by omega) (by omega)
                        have gA := ltAt_nat (l := u.ls) (k := a) (by omega)
                        have gN := ltAt_nat (l := v.ls) (k := a) (by omega)
                        have gs := strm_get (j := j) (s := (a : Int)) (by omega) (by omega)
                        have hT := hkT a (by omega) (by omega)
                        simp only [Int.toNat_natCast] at gs
                        have hbA := hok.lb _ (List.mem_of_getElem? gA)
                        unfold smallT at hbA
                        have hse0 := hokv.se0
                        have hse1 := hokv.se1
                        have wd : IntKind.i64.wrap (v.se - (ltAt u.ls a).Since) = v.se - (ltAt u.ls a).Since := wrap_in (by omega) (by omega)
                        have hne : (ltAt u.ls a = ltAt v.ls a) ↔ ((ltAt u.ls a).Green = (ltAt v.ls a).Green ∧ (ltAt u.ls a).Since = (ltAt v.ls a).Since) := by cases ltAt u.ls a; cases ltAt v.ls a; simp
                        refine gwp_skip ?_
                        simp only [thenA, inBlockA, reduceIte, Nat.reduceEqDiff, eq_self]
                        refine hK9 _ _ ?_
                        refine gwp_prune [1, 2, 5, 7, 8, 9, 10, 11, 12] (Or.inr (by simp)) ?_
                        simp only [prune, List.map_cons, List.map_nil, Go.AM.look, Nat.reduceEqDiff, reduceIte]
                        refine gwp_seq_k fun K10 hK10 => ?_
                        refine gwp_block ?_
                        refine gwp_seq_k fun K11 hK11 => ?_
                        refine gwp_sd mixed rfl (by decide) rfl rfl fun K hK => ?_
                        simp -dsimp [gA, wd]
                        refine idxK_intro ((ltAt v.ls a).cells) (fun _ => by simp [gN]) ?_
                        simp -dsimp [gA, wd]
                        refine idxK_intro ((ltAt v.ls a).cells) (fun _ => by simp [gN]) ?_
                        simp -dsimp [gA, wd]
                        refine idxK_intro ((ltAt u.ls a).cells) (fun _ => by simp [gA]) ?_
                        simp -dsimp [gA, wd]
                        refine idxK_intro ((strm j a).cells) (fun _ => by simp [gs]) ?_
                        simp -dsimp [gA, wd]
                        refine idxK_intro ((ltAt u.ls a).cells) (fun _ => by simp [gA]) ?_
                        simp -dsimp [gA, wd]
                        refine idxK_intro ((ltAt v.ls a).cells) (fun _ => by simp [gN]) ?_
                        simp -dsimp [gA, wd]
                        refine ⟨fun w => (eq_bool _ _ _ _ _ w und_bool kt_bool).1, _, fun w => (eq_bool _ (.tmp 0) (.tmp 0) _ _ w und_bool kt_bool).2, ?_⟩
                        simp -dsimp [wd]
                        refine idxK_intro ((ltAt u.ls a).cells) (fun _ => by simp [gA]) ?_
                        simp -dsimp [gA, wd]
                        refine idxK_intro ((ltAt v.ls a).cells) (fun _ => by simp [gN]) ?_
                        simp -dsimp [gA, wd]
                        refine hK _ _ _ (by decide +kernel) ?_; clear hK K
                        refine gwp_cond rfl (fun hc6 => ?_) (fun hc6 => ?_)
                        · skip
                          skip
                          exfalso
                          rcases hT with h | ⟨h1, h2, h3⟩ | ⟨h1, h2, h3⟩
                          · rw [h] at hc6; simp at hc6
                          · rw [h1, h2] at hc6; simp at hc6; omega
                          · rw [h1, h2] at hc6; simp at hc6
                        · skip
                          skip
                          refine gwp_skip ?_
                          simp only [thenA, inBlockA, reduceIte, Nat.reduceEqDiff, eq_self]
                          refine hK11 _ _ ?_
                          refine gwp_prune [1, 2, 5, 7, 8, 9, 10, 11, 12] (Or.inr (by simp)) ?_
                          simp only [prune, List.map_cons, List.map_nil, Go.AM.look, Nat.reduceEqDiff, reduceIte]
                          refine gwp_sr rfl (by decide) rfl rfl fun K hK => ?_
                          simp -dsimp
                          refine hK _ _ ?_; clear hK K
                          refine gwp_block ?_
                          refine gwp_prune [1, 2, 5, 7, 8, 9, 10, 11, 12, 13] (Or.inr (by simp)) ?_
                          simp only [prune, List.map_cons, List.map_nil, Go.AM.look, Nat.reduceEqDiff, reduceIte]
                          refine gwp_loop_l [1, 2, 5, 7, 8, 9, 10, 11, 12] (α := Nat) (fun b => [(13, I b)]) (fun _ => [some (.els 6 [j.cells]), sgAt j v 2 3 j.n j.Phases.length, rRow v.ls, kRow v.sk]) (fun b => b ≤ j.n) (fun b => j.n - b) 0 ?_ ?_ ?_
                          · exact Nat.zero_le _
                          · exact gsub (sub_same (by simp)) (by simp)
                          rintro b b1
                          simp only [List.cons_append, List.nil_append, prune, List.map_cons, List.map_nil, Go.AM.look, Nat.reduceEqDiff, reduceIte]
                          refine gwp_seq_k fun K12 hK12 => ?_
                          refine gwp_sr rfl (by decide) rfl rfl fun K hK => ?_
                          simp -dsimp
                          refine hK _ _ ?_; clear hK K
                          refine gwp_cond rfl (fun hc7 => ?_) (fun hc7 => ?_)
                          · skip
                            skip
                            have hb : b < j.n := by simpa using hc7
                            have wb : IntKind.i64.wrap ((b : Int) + 1) = (b : Int) + 1 := wrap_in (by omega) (by omega)
                            have gB := ltAt_nat (l := u.ls) (k := b) (by omega)
                            have gM := ltAt_nat (l := v.ls) (k := b) (by omega)
                            have hTb := hkT b (by omega) (by omega)
                            have gr := (ho.sqr.row (a := (a : Int)) (by omega) (by omega)).1
                            have gc := ho.sqr.get (a := (a : Int)) (b := (b : Int)) (by omega) (by omega) (by omega) (by omega)
                            simp only [Int.toNat_natCast] at gr gc
                            have hbN := hokv.lb _ (List.mem_of_getElem? gN)
                            unfold smallT at hbN
                            have wd2 : IntKind.i64.wrap (v.se - (ltAt v.ls a).Since) = v.se - (ltAt v.ls a).Since := wrap_in (by omega) (by omega)
                            have hcf := c_rConf j a b ho.sqr (by omega) (by omega) (by omega) (by omega)
                            refine gwp_skip ?_
                            simp only [thenA, inBlockA, reduceIte, Nat.reduceEqDiff, eq_self]
                            refine hK12 _ _ ?_
                            refine gwp_prune [1, 2, 5, 7, 8, 9, 10, 11, 12, 13] (Or.inr (by simp)) ?_
                            simp only [prune, List.map_cons, List.map_nil, Go.AM.look, Nat.reduceEqDiff, reduceIte]
                            refine gwp_seq_k fun K13 hK13 => ?_
                            refine gwp_block ?_
                            refine gwp_seq_k fun K14 hK14 => ?_
                            refine gwp_sr rfl (by decide) rfl rfl fun K hK => ?_
                            simp -dsimp
                            refine callK_intro _ (hcf) (by simp) ?_
                            simp -dsimp
                            refine idxK_intro ((ltAt v.ls b).cells) (fun _ => by simp [gM]) ?_
                            simp -dsimp
                            refine hK _ _ ?_; clear hK K
                            refine gwp_cond rfl (fun hc8 => ?_) (fun hc8 => ?_)
                            · skip
                              skip
                              refine gwp_exit ?_
                              simp only [thenA, inBlockA, reduceIte, Nat.reduceEqDiff, eq_self]
                              refine hK13 _ _ ?_
                              refine gwp_prune [1, 2, 5, 7, 8, 9, 10, 11, 12, 13] (Or.inr (by simp)) ?_
                              simp only [prune, List.map_cons, List.map_nil, Go.AM.look, Nat.reduceEqDiff, reduceIte]
                              refine gwp_r rfl (by decide) rfl rfl fun K hK => ?_
                              simp -dsimp [wb]
                              refine hK _ _ ?_; clear hK K
                              simp only [thenA, inBlockA, reduceIte, Nat.reduceEqDiff, eq_self]
                              exact ⟨b + 1, by omega, by omega, gsub (sub_rb [some 0, some 1, some 2, some 3] rfl (by simp) (by simp)) (by simp)⟩
                            · skip
                              skip
                              refine gwp_skip ?_
                              simp only [thenA, inBlockA, reduceIte, Nat.reduceEqDiff, eq_self]
                              refine hK14 _ _ ?_
                              refine gwp_prune [1, 2, 5, 7, 8, 9, 10, 11, 12, 13] (Or.inr (by simp)) ?_
                              simp only [prune, List.map_cons, List.map_nil, Go.AM.look, Nat.reduceEqDiff, reduceIte]
                              refine gwp_sd mixed rfl (by decide) rfl rfl fun K hK => ?_
                              simp -dsimp [gN, wd2]
                              refine idxK_intro ((ltAt u.ls b).cells) (fun _ => by simp [gB]) ?_
                              simp -dsimp [gN, wd2]
                              refine idxK_intro ((ltAt v.ls a).cells) (fun _ => by simp [gN]) ?_
                              simp -dsimp [gN, wd2]
                              refine idxK_intro (rCell (rowAt j.Clears a)) (fun _ => by simp [gr]) ?_
                              simp -dsimp [gN, wd2]
                              refine idxK_intro (nCell (clr j a b)) (fun _ => by simp [gc]) ?_
                              simp -dsimp [gN, wd2]
                              refine hK _ _ _ (by decide +kernel) ?_; clear hK K
                              refine gwp_cond rfl (fun hc9 => ?_) (fun hc9 => ?_)
                              · skip
                                skip
                                exfalso
                                simp only [Bool.or_eq_false_iff, Bool.not_eq_false'] at hc8
                                have hin := hkS.grn b (by omega) (by omega) hc8.2
                                cases hGa : (ltAt v.ls a).Green with
                                | true =>
                                  have hia := hkS.grn a (by omega) (by omega) hGa
                                  have := phase_free ho hkS.p0 hkS.p1 a hia b hin
                                  rw [this] at hc8; simp at hc8
                                | false =>
                                  rw [hGa] at hc9
                                  simp at hc9
                                  rcases hTb with h | ⟨h1, h2, h3⟩ | ⟨h1, h2, h3⟩
                                  · rw [← h, hc8.2] at hc9; simp at hc9
                                  · rw [h1] at hc9; simp at hc9
                                  · have := (h3 a (by omega) (by omega) hc8.1).2; omega
                              · skip
                                skip
                                refine gwp_skip ?_
                                simp only [thenA, inBlockA, reduceIte, Nat.reduceEqDiff, eq_self]
                                refine hK13 _ _ ?_
                                refine gwp_prune [1, 2, 5, 7, 8, 9, 10, 11, 12, 13] (Or.inr (by simp)) ?_
                                simp only [prune, List.map_cons, List.map_nil, Go.AM.look, Nat.reduceEqDiff, reduceIte]
                                refine gwp_r rfl (by decide) rfl rfl fun K hK => ?_
                                simp -dsimp [wb]
                                refine hK _ _ ?_; clear hK K
                                simp only [thenA, inBlockA, reduceIte, Nat.reduceEqDiff, eq_self]
                                exact ⟨b + 1, by omega, by omega, gsub (sub_rb [some 0, some 1, some 2, some 3] rfl (by simp) (by simp)) (by simp)⟩
                          · skip
                            skip
                            refine gwp_exit ?_
                            simp only [thenA, inBlockA, reduceIte, Nat.reduceEqDiff, eq_self]
                            refine hK10 _ _ ?_
                            refine gwp_prune [1, 2, 5, 7, 8, 9, 10, 11, 12] (Or.inr (by simp)) ?_
                            simp only [prune, List.map_cons, List.map_nil, Go.AM.look, Nat.reduceEqDiff, reduceIte]
                            refine gwp_r rfl (by decide) rfl rfl fun K hK => ?_
                            simp -dsimp [wa]
                            refine hK _ _ ?_; clear hK K
                            simp only [thenA, inBlockA, reduceIte, Nat.reduceEqDiff, eq_self]
                            exact ⟨a + 1, by omega, by omega, gsub (sub_rb [some 0, some 1, some 2, some 3] rfl (by simp) (by simp)) (by simp)⟩
                      · skip
                        skip
                        refine gwp_exit ?_
                        simp only [thenA, inBlockA, reduceIte, Nat.reduceEqDiff, eq_self]
                        refine hK8 _ _ ?_
                        refine gwp_prune [1, 2, 5, 7, 9, 10] (Or.inr (by simp)) ?_
                        simp only [prune, List.map_cons, List.map_nil, Go.AM.look, Nat.reduceEqDiff, reduceIte]
                        refine gwp_r rfl (by decide) rfl rfl fun K hK => ?_
                        simp -dsimp
                        refine hK _ _ ?_; clear hK K
                        simp only [thenA, inBlockA, reduceIte, Nat.reduceEqDiff, eq_self]
                        refine hK5 _ _ ?_
                        refine gwp_prune [1, 2, 5, 7, 8, 9] (Or.inr (by simp)) ?_
                        simp only [prune, List.map_cons, List.map_nil, Go.AM.look, Nat.reduceEqDiff, reduceIte]
                        refine gwp_r rfl (by decide) rfl rfl fun K hK => ?_
                        simp -dsimp [wk]
                        refine hK _ _ ?_; clear hK K
                        simp only [thenA, inBlockA, reduceIte, Nat.reduceEqDiff, eq_self]
                        exact ⟨k + 1, ⟨by omega, by rw [hsn]; exact hk2⟩, by omega, gsub (sub_rb [some 0, some 1, some 2, some 3] rfl (by simp [hsn]) (by simp [hsn])) (by simp)⟩
              · skip
                refine gwp_sd mixed rfl (by decide) rfl rfl fun K hK => ?_
                simp -dsimp [ht]
                refine callK_mut [1] [2, 3] [none, some 0, none, none, some 1, some 2] (htk) (by decide) rfl (by simp) (by simp) rfl (by simp) ?_
                simp -dsimp [ht]
                refine hK _ _ _ (by decide +kernel) ?_; clear hK K
                refine gwp_cond rfl (fun hc3 => ?_) (fun hc3 => ?_)
                · skip
                  skip
                  simp only [Bool.false_eq_true, if_false] at hst
                  refine gwp_exit ?_
                  simp only [thenA, inBlockA, reduceIte, Nat.reduceEqDiff, eq_self]
                  refine hK5 _ _ ?_
                  refine gwp_prune [1, 2, 5, 7, 8, 9] (Or.inr (by simp)) ?_
                  simp only [prune, List.map_cons, List.map_nil, Go.AM.look, Nat.reduceEqDiff, reduceIte]
                  refine gwp_r rfl (by decide) rfl rfl fun K hK => ?_
                  simp -dsimp [wk]
                  refine hK _ _ ?_; clear hK K
                  simp only [thenA, inBlockA, reduceIte, Nat.reduceEqDiff, eq_self]
                  exact ⟨k + 1, ⟨by omega, by rw [hsn]; exact hk2⟩, by omega, gsub (sub_rb [some 0, some 1, some 4, some 5] rfl (by simp [hsn, hst]) (by simp [hsn])) (by simp)⟩
                · skip
                  skip
                  simp at hc3
            · skip
              skip
              refine gwp_exit ?_
              simp only [thenA, inBlockA, reduceIte, Nat.reduceEqDiff, eq_self]
              refine hK3 _ _ ?_
              refine gwp_prune [] (Or.inr (by simp)) ?_
              simp only [prune, List.map_cons, List.map_nil, Go.AM.look, Nat.reduceEqDiff, reduceIte]
              refine gwp_sr rfl (by decide) rfl rfl fun K hK => ?_
              simp -dsimp
              refine callK_intro _ (hk) (by simp) ?_
              simp -dsimp
              refine hK _ _ ?_; clear hK K
              exact gwp_ret (by simp)
end Go.Street
