/- Walks: the law StreetSignals. -/
import Derived.Test.YtmenlmioccciiaaK0
import Derived.Test.YtmenlmioccciiaaZR
namespace Go.Street
open Go.AM Go.Proofs Go.Tram
set_option maxRecDepth 100000
set_option maxHeartbeats 8000000
set_option linter.unusedVariables false
set_option linter.unusedSimpArgs false

abbrev xAt (j : Jn) (s : Sg) (a b nR nK : Nat) : Option ARow := some (.els 12 [rC j (I s.se) (I s.ph) (Bo s.on) (I s.si) (.row a 0 nR) (.row b 0 nK)])
theorem c_StreetSignals (j : Jn) (l : List Td) (hi : JnIn j) (hl : l.length ≤ maxLen) : PureCall Try.prog 4 [j.av, tL l] (Bo true) := by
  obtain ⟨b, hcf, hfit⟩ := c_fit j hi.s hi.c hi.p hi.l hi.g
  have hk := c_known
  have hfw := c_few l hl
  cases hb : b && (l.all tdB && decide (l.length ≤ 300)) with
  | false =>
    cases b with
    | false =>
      refine PureCall.of_body Try.func4 rfl (by decide) (by simp [Try.ntmps4]) ?_
      simp only [Try.ntmps4, Try.results4]
      refine awp_sr rfl fun K hK => ?_
      simp -dsimp
      refine hK _ _ ?_; clear hK K
      refine awp_seq_k fun K1 hK1 => ?_
      refine awp_sr rfl fun K hK => ?_
      simp -dsimp
      refine callK_intro _ (hcf) (by simp) ?_
      simp -dsimp
      refine callK_may _ (fun hm => (absurd hm (by simp) : PureCall _ _ _ (Bo true))) (by simp) ?_
      simp -dsimp
      refine callK_may _ (fun hm => (absurd hm (by simp) : PureCall _ _ _ (Bo true))) (by simp) ?_
      simp -dsimp
      refine hK _ _ ?_; clear hK K
      refine awp_cond rfl (fun hc0 => ?_) (fun hc0 => ?_)
      · skip
        skip
        refine awp_sr rfl fun K hK => ?_
        simp -dsimp
        refine callK_intro _ (hk) (by simp) ?_
        simp -dsimp
        refine hK _ _ ?_; clear hK K
        exact awp_ret (by simp)
      · skip
        skip
        simp at hc0
    | true =>
      rw [Bool.true_and] at hb
      rw [hb] at hfw
      refine PureCall.of_body Try.func4 rfl (by decide) (by simp [Try.ntmps4]) ?_
      simp only [Try.ntmps4, Try.results4]
      refine awp_sr rfl fun K hK => ?_
      simp -dsimp
      refine hK _ _ ?_; clear hK K
      refine awp_seq_k fun K1 hK1 => ?_
      refine awp_sr rfl fun K hK => ?_
      simp -dsimp
      refine callK_intro _ (hcf) (by simp) ?_
      simp -dsimp
      refine callK_may _ (fun hm => hfw) (by simp) ?_
      simp -dsimp
      refine callK_may _ (fun hm => (absurd hm (by simp) : PureCall _ _ _ (Bo true))) (by simp) ?_
      simp -dsimp
      refine hK _ _ ?_; clear hK K
      refine awp_cond rfl (fun hc0 => ?_) (fun hc0 => ?_)
      · skip
        skip
        refine awp_sr rfl fun K hK => ?_
        simp -dsimp
        refine callK_intro _ (hk) (by simp) ?_
        simp -dsimp
        refine hK _ _ ?_; clear hK K
        exact awp_ret (by simp)
      · skip
        skip
        simp at hc0
  | true =>
    simp only [Bool.and_eq_true, decide_eq_true_eq] at hb
    obtain ⟨rfl, hall, hl3⟩ := hb
    rw [hall, decide_eq_true hl3] at hfw
    have hf := hfit rfl
    have hv := c_rValid j hf
    cases hj : jnB j with
    | false =>
      rw [hj] at hv
      refine PureCall.of_body Try.func4 rfl (by decide) (by simp [Try.ntmps4]) ?_
      simp only [Try.ntmps4, Try.results4]
      refine awp_sr rfl fun K hK => ?_
      simp -dsimp
      refine hK _ _ ?_; clear hK K
      refine awp_seq_k fun K1 hK1 => ?_
      refine awp_sr rfl fun K hK => ?_
      simp -dsimp
      refine callK_intro _ (hcf) (by simp) ?_
      simp -dsimp
      refine callK_may _ (fun hm => hfw) (by simp) ?_
      simp -dsimp
      refine callK_may _ (fun hm => hv) (by simp) ?_
      simp -dsimp
      refine hK _ _ ?_; clear hK K
      refine awp_cond rfl (fun hc0 => ?_) (fun hc0 => ?_)
      · skip
        skip
        refine awp_sr rfl fun K hK => ?_
        simp -dsimp
        refine callK_intro _ (hk) (by simp) ?_
        simp -dsimp
        refine hK _ _ ?_; clear hK K
        exact awp_ret (by simp)
      · skip
        skip
        simp at hc0
    | true =>
      have ho := jnB_ok hj
      rw [hj] at hv
      have hop := m_Open j hf hj
      have hrop := m_rOpen j hf ho
      have hn2 := ho.n2
      have e0 : openS j = runS j (l.take 0) := rfl
      rw [e0] at hop hrop
      have h0 := stIn_open ho
      rw [e0] at h0
      have hls : (runS j (l.take 0)).ls.length = j.n := (h0.ok (by omega)).l
      have hks : (runS j (l.take 0)).sk.length = j.Phases.length := (h0.ok (by omega)).k
      refine PureCall.of_bodyG Try.func4 rfl (by decide) (by simp [Try.ntmps4]) ?_
      intro J hJ
      simp only [Try.ntmps4, Try.results4]
      refine gwp_sr rfl (by decide) rfl rfl fun K hK => ?_
      simp -dsimp
      refine hK _ _ ?_; clear hK K
      refine gwp_seq_k fun K1 hK1 => ?_
      refine gwp_sr rfl (by decide) rfl rfl fun K hK => ?_
      simp -dsimp
      refine callK_intro _ (hcf) (by simp) ?_
      simp -dsimp
      refine callK_may _ (fun hm => hfw) (by simp) ?_
      simp -dsimp
      refine callK_may _ (fun hm => hv) (by simp) ?_
      simp -dsimp
      refine hK _ _ ?_; clear hK K
      refine gwp_cond rfl (fun hc0 => ?_) (fun hc0 => ?_)
      · skip
        skip
        simp at hc0
      · skip
        skip
        refine gwp_skip ?_
        simp only [thenA, inBlockA, reduceIte, Nat.reduceEqDiff, eq_self]
        refine hK1 _ _ ?_
        refine gwp_prune [1, 2] (Or.inr (by simp)) ?_
        simp only [prune, List.map_cons, List.map_nil, Go.AM.look, Nat.reduceEqDiff, reduceIte]
        refine gwp_sr rfl (by decide) rfl rfl fun K hK => ?_
        simp -dsimp
        refine callK_mut [] [] [none, some 0, some 1, some 2] (hop) (by decide) rfl (by simp) (by simp) rfl (by simp) ?_
        simp -dsimp
        refine hK _ _ ?_; clear hK K
        refine gwp_seq_k fun K2 hK2 => ?_
        refine gwp_sr rfl (by decide) rfl rfl fun K hK => ?_
        simp -dsimp
        refine hK _ _ ?_; clear hK K
        refine gwp_cond rfl (fun hc1 => ?_) (fun hc1 => ?_)
        · skip
          skip
          simp at hc1
        · skip
          skip
          refine gwp_skip ?_
          simp only [thenA, inBlockA, reduceIte, Nat.reduceEqDiff, eq_self]
          refine hK2 _ _ ?_
          refine gwp_prune [1, 2, 5] (Or.inr (by simp)) ?_
          simp only [prune, List.map_cons, List.map_nil, Go.AM.look, Nat.reduceEqDiff, reduceIte]
          refine gwp_sr rfl (by decide) rfl rfl fun K hK => ?_
          simp -dsimp
          refine callK_mut [] [] [none, none, none, none, some 0, some 1, some 2] (hrop) (by decide) rfl (by simp) (by simp) rfl (by simp) ?_
          simp -dsimp
          refine hK _ _ ?_; clear hK K
          refine gwp_seq_k fun K3 hK3 => ?_
          refine gwp_sr rfl (by decide) rfl rfl fun K hK => ?_
          simp -dsimp
          refine hK _ _ ?_; clear hK K
          refine gwp_block ?_
          refine gwp_prune [1, 2, 5, 7, 8] (Or.inr (by simp)) ?_
          simp only [prune, List.map_cons, List.map_nil, Go.AM.look, Nat.reduceEqDiff, reduceIte]
          refine gwp_loop_l [1, 2, 5, 7] (α := Nat) (fun k => [(8, I k)]) (fun k => [some (.els 6 [j.cells]), sgAt j (runS j (l.take k)) 2 3 j.n j.Phases.length, rRow (runS j (l.take k)).ls, kRow (runS j (l.take k)).sk, xAt j (runS j (l.take k)) 5 6 j.n j.Phases.length, rRow (runS j (l.take k)).ls, kRow (runS j (l.take k)).sk]) (fun k => k ≤ l.length ∧ StIn j k (runS j (l.take k))) (fun k => l.length - k) 0 ?_ ?_ ?_
          · exact ⟨Nat.zero_le _, h0⟩
          · exact gsub (sub_rb [some 0, some 1, some 2, some 3, some 4, some 5, some 6] rfl (by simp) (by simp)) (by simp)
          rintro k ⟨k1, k2⟩
          simp only [List.cons_append, List.nil_append, prune, List.map_cons, List.map_nil, Go.AM.look, Nat.reduceEqDiff, reduceIte]
          refine gwp_seq_k fun K4 hK4 => ?_
          refine gwp_sr rfl (by decide) rfl rfl fun K hK => ?_
          simp -dsimp
          refine hK _ _ ?_; clear hK K
          refine gwp_cond rfl (fun hc2 => ?_) (fun hc2 => ?_)
          · skip
            skip
            have hkl : k < l.length := by simpa using hc2
            obtain ⟨t, ht⟩ : ∃ t, l[k]? = some t := ⟨_, List.getElem?_eq_getElem hkl⟩
            have htb : t.Dm.length ≤ 25 ∧ t.Pr.length ≤ 25 := by have := List.all_eq_true.1 hall t (List.mem_of_getElem? ht); simpa [tdB] using this
            have wk : IntKind.i64.wrap ((k : Int) + 1) = (k : Int) + 1 := wrap_in (by omega) (by omega)
            have hsn := runS_snoc (j := j) ht
            have hk2 := stIn_step ho k2 t
            generalize runS j (l.take k) = u at k2 hsn hk2 ⊢
            have hok := k2.ok (by omega)
            have hto := c_rTold j t.Dm t.Pr hf ho (by omega) (by omega)
            have htk := stepS_tick hf ho k2 (t := t) (by omega) (by omega) (by omega)
            have hrt := m_rTick j t.Dm t.Pr u hf ho hok k2.2 (by omega) (by omega)
            rw [hok.l, hok.k] at hrt
            have hli := lights_in ho hk2 (by omega)
            have hst : stepS j u t = if okT j t.Dm t.Pr then tickS j t.Dm t.Pr u else u := rfl
            generalize stepS j u t = v at hsn hk2 htk hli hst
            have hokv := hk2.ok (by omega)
            have hvl := hokv.l
            have tl : List.take j.n (v.ls.map Lt.cells) = v.ls.map Lt.cells := List.take_of_length_le (by simp [hvl])
            have hnv : j.n ≤ v.ls.length := by omega
            have hsl := c_rSameL v.ls v.ls (by omega)
            have hph := fun (R Sk Dm Pr : AV) => c_Phase j (I v.se) (I v.si) R Sk Dm Pr v.ph v.on
            have hse := fun (ph on si R Sk Dm Pr : AV) => c_Second j ph on si R Sk Dm Pr v.se
            refine gwp_skip ?_
            simp only [thenA, inBlockA, reduceIte, Nat.reduceEqDiff, eq_self]
            refine hK4 _ _ ?_
            refine gwp_prune [1, 2, 5, 7, 8] (Or.inr (by simp)) ?_
            simp only [prune, List.map_cons, List.map_nil, Go.AM.look, Nat.reduceEqDiff, reduceIte]
            refine gwp_seq_k fun K5 hK5 => ?_
            refine gwp_block ?_
            refine gwp_sr rfl (by decide) rfl rfl fun K hK => ?_
            simp -dsimp
            refine hK _ _ ?_; clear hK K
            refine gwp_seq_k fun K6 hK6 => ?_
            refine gwp_sd mixed rfl (by decide) rfl rfl fun K hK => ?_
            simp -dsimp [ht]
            refine callK_intro _ (hto) (by simp) ?_
            simp -dsimp [ht]
            refine hK _ _ _ (by decide +kernel) ?_; clear hK K
            refine gwp_cond rfl (fun hc3 => ?_) (fun hc3 => ?_)
            · skip
              skip
              rw [hc3] at htk hst
              simp only [if_true] at hst htk
              rw [← hst] at hrt
              refine gwp_sd mixed rfl (by decide) rfl rfl fun K hK => ?_
              simp -dsimp [ht]
              refine callK_mut [4] [5, 6] [none, none, none, none, some 0, none, none, some 1, some 2] (hrt) (by decide) rfl (by simp) (by simp) rfl (by simp) ?_
              simp -dsimp [ht]
              refine hK _ _ _ (by decide +kernel) ?_; clear hK K
              refine gwp_r rfl (by decide) rfl rfl fun K hK => ?_
              simp -dsimp
              refine hK _ _ ?_; clear hK K
              simp only [thenA, inBlockA, reduceIte, Nat.reduceEqDiff, eq_self]
              refine hK6 _ _ ?_
              refine gwp_prune [1, 2, 5, 7, 8, 9] (Or.inr (by simp)) ?_
              simp only [prune, List.map_cons, List.map_nil, Go.AM.look, Nat.reduceEqDiff, reduceIte]
              refine gwp_seq_k fun K7 hK7 => ?_
              refine gwp_sd mixed rfl (by decide) rfl rfl fun K hK => ?_
              simp -dsimp [ht]
              refine callK_mut [1] [2, 3] [none, some 0, none, none, none, none, none, none, none, some 1, some 2] (htk) (by decide) rfl (by simp) (by simp) rfl (by simp) ?_
              simp -dsimp [ht]
              refine hK _ _ _ (by decide +kernel) ?_; clear hK K
              refine gwp_cond rfl (fun hc4 => ?_) (fun hc4 => ?_)
              · skip
                skip
                simp at hc4
              · skip
                skip
                refine gwp_skip ?_
                simp only [thenA, inBlockA, reduceIte, Nat.reduceEqDiff, eq_self]
                refine hK7 _ _ ?_
                refine gwp_prune [1, 2, 5, 7, 8] (Or.inr (by simp)) ?_
                simp only [prune, List.map_cons, List.map_nil, Go.AM.look, Nat.reduceEqDiff, reduceIte]
                refine gwp_sr rfl (by decide) rfl rfl fun K hK => ?_
                simp -dsimp
                refine callK_intro _ (hph _ _ _ _) (by simp) ?_
                simp -dsimp
                refine hK _ _ ?_; clear hK K
                refine gwp_sd mixed rfl (by decide) rfl rfl fun K hK => ?_
                simp -dsimp [tl, hnv]
                refine ⟨fun w => ne_guard _ _ _ _ _ w und_bool, _, fun w => ne_bool _ _ _ w kt_bool, ?_⟩
                simp -dsimp
                refine callK_may _ (fun hm => hse _ _ _ _ _ _ _) (by simp) ?_
                simp -dsimp [tl, hnv]
                refine callK_mut [1] [9, 10] [none, some 0, none, none, none, none, none, none, none, none, none, some 1, some 2, some 3] (hli) (by decide) rfl (by simp) (by simp) rfl (by simp) ?_
                simp -dsimp [tl, hnv]
                refine callK_may _ (fun hm => hsl) (by simp) ?_
                simp -dsimp [tl, hnv]
                refine hK _ _ _ (by decide +kernel) ?_; clear hK K
                refine gwp_cond rfl (fun hc5 => ?_) (fun hc5 => ?_)
                · skip
                  skip
                  simp at hc5
                · skip
                  skip
                  refine gwp_skip ?_
                  simp only [thenA, inBlockA, reduceIte, Nat.reduceEqDiff, eq_self]
                  refine hK5 _ _ ?_
                  refine gwp_prune [1, 2, 5, 7, 8] (Or.inr (by simp)) ?_
                  simp only [prune, List.map_cons, List.map_nil, Go.AM.look, Nat.reduceEqDiff, reduceIte]
                  refine gwp_r rfl (by decide) rfl rfl fun K hK => ?_
                  simp -dsimp [wk]
                  refine hK _ _ ?_; clear hK K
                  simp only [thenA, inBlockA, reduceIte, Nat.reduceEqDiff, eq_self]
                  exact ⟨k + 1, ⟨by omega, by rw [hsn]; exact hk2⟩, by omega, gsub (sub_rb [some 0, some 1, some 11, some 12, some 4, some 7, some 8] rfl (by simp) (by simp [hsn])) (by simp)⟩
            · skip
              skip
              rw [hc3] at htk hst
              simp only [Bool.false_eq_true, if_false] at hst htk
              subst hst
              refine gwp_skip ?_
              simp only [thenA, inBlockA, reduceIte, Nat.reduceEqDiff, eq_self]
              refine hK6 _ _ ?_
              refine gwp_prune [1, 2, 5, 7, 8, 9] (Or.inr (by simp)) ?_
              simp only [prune, List.map_cons, List.map_nil, Go.AM.look, Nat.reduceEqDiff, reduceIte]
              refine gwp_seq_k fun K8 hK8 => ?_
              refine gwp_sd mixed rfl (by decide) rfl rfl fun K hK => ?_
              simp -dsimp [ht]
              refine callK_mut [1] [2, 3] [none, some 0, none, none, none, none, none, some 1, some 2] (htk) (by decide) rfl (by simp) (by simp) rfl (by simp) ?_
              simp -dsimp [ht]
              refine hK _ _ _ (by decide +kernel) ?_; clear hK K
              refine gwp_cond rfl (fun hc4 => ?_) (fun hc4 => ?_)
              · skip
                skip
                simp at hc4
              · skip
                skip
                refine gwp_skip ?_
                simp only [thenA, inBlockA, reduceIte, Nat.reduceEqDiff, eq_self]
                refine hK8 _ _ ?_
                refine gwp_prune [1, 2, 5, 7, 8] (Or.inr (by simp)) ?_
                simp only [prune, List.map_cons, List.map_nil, Go.AM.look, Nat.reduceEqDiff, reduceIte]
                refine gwp_sr rfl (by decide) rfl rfl fun K hK => ?_
                simp -dsimp
                refine callK_intro _ (hph _ _ _ _) (by simp) ?_
                simp -dsimp
                refine hK _ _ ?_; clear hK K
                refine gwp_sd mixed rfl (by decide) rfl rfl fun K hK => ?_
                simp -dsimp [tl, hnv]
                refine ⟨fun w => ne_guard _ _ _ _ _ w und_bool, _, fun w => ne_bool _ _ _ w kt_bool, ?_⟩
                simp -dsimp
                refine callK_may _ (fun hm => hse _ _ _ _ _ _ _) (by simp) ?_
                simp -dsimp [tl, hnv]
                refine callK_mut [1] [7, 8] [none, some 0, none, none, none, none, none, none, none, some 1, some 2, some 3] (hli) (by decide) rfl (by simp) (by simp) rfl (by simp) ?_
                simp -dsimp [tl, hnv]
                refine callK_may _ (fun hm => hsl) (by simp) ?_
                simp -dsimp [tl, hnv]
                refine hK _ _ _ (by decide +kernel) ?_; clear hK K
                refine gwp_cond rfl (fun hc5 => ?_) (fun hc5 => ?_)
                · skip
                  skip
                  simp at hc5
                · skip
                  skip
                  refine gwp_skip ?_
                  simp only [thenA, inBlockA, reduceIte, Nat.reduceEqDiff, eq_self]
                  refine hK5 _ _ ?_
                  refine gwp_prune [1, 2, 5, 7, 8] (Or.inr (by simp)) ?_
                  simp only [prune, List.map_cons, List.map_nil, Go.AM.look, Nat.reduceEqDiff, reduceIte]
                  refine gwp_r rfl (by decide) rfl rfl fun K hK => ?_
                  simp -dsimp [wk]
                  refine hK _ _ ?_; clear hK K
                  simp only [thenA, inBlockA, reduceIte, Nat.reduceEqDiff, eq_self]
                  exact ⟨k + 1, ⟨by omega, by rw [hsn]; exact hk2⟩, by omega, gsub (sub_rb [some 0, some 1, some 9, some 10, some 4, some 5, some 6] rfl (by simp) (by simp [hsn])) (by simp)⟩
          · skip
            skip
            refine gwp_exit ?_
            simp only [thenA, inBlockA, reduceIte, Nat.reduceEqDiff, eq_self]
            refine hK3 _ _ ?_
            refine gwp_prune [] (Or.inr (by simp)) ?_
            simp only [prune, List.map_cons, List.map_nil, Go.AM.look, Nat.reduceEqDiff, reduceIte]
            refine gwp_sr rfl (by decide) rfl rfl fun K hK => ?_
            simp -dsimp
            refine callK_intro _ (hk) (by simp) ?_
            simp -dsimp
            refine hK _ _ ?_; clear hK K
            exact gwp_ret (by simp)
end Go.Street
