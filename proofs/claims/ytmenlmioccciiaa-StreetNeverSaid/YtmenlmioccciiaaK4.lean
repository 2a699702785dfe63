/- Walks: the law StreetNever. -/
import Derived.Test.YtmenlmioccciiaaZW
import Derived.Test.YtmenlmioccciiaaZT
import Derived.Test.YtmenlmioccciiaaZO
namespace Go.Street
open Go.AM Go.Proofs
set_option maxRecDepth 100000
set_option maxHeartbeats 8000000
set_option linter.unusedVariables false
set_option linter.unusedSimpArgs false

/-- By a program that is right, who conflicts is not green in the clearing time. -/
theorem never {j : Jn} {p : Pg} (h : RightP j p) {a b : Nat} (ha : a < j.n) (hb : b < j.n) (hc : conf j a b = true) {t d : Int} (hg : grnB p a t = true) (d1 : d ≤ clr j a b) (d0 : 0 ≤ d) : grnB p b (t + d) = false := by
  obtain ⟨h1, h2⟩ := h.cf a b ha hb hc
  have hsm := h.pg.sm
  have hC := hsm.c
  have g1 := gapF_bd hsm (a : Int) (b : Int)
  have g2 := gapF_bd hsm (b : Int) (a : Int)
  have la := hsm.rl a (by omega) (by omega)
  have lb := hsm.rl b (by omega) (by omega)
  simp only [grnB, decide_eq_true_eq] at hg
  simp only [grnB, decide_eq_false_iff_not]
  have e1 := Int.mul_ediv_add_emod (t - at0 p.Begins a) p.Cycle
  have e2 := Int.mul_ediv_add_emod (at0 p.Begins b - at0 p.Begins a - at0 p.Lasts a) p.Cycle
  have u0 : 0 ≤ (t - at0 p.Begins a) % p.Cycle := Int.emod_nonneg _ (by omega)
  have hgf : gapF p a b = (at0 p.Begins b - at0 p.Begins a - at0 p.Lasts a) % p.Cycle := rfl
  rw [← hgf] at e2
  generalize (t - at0 p.Begins a) % p.Cycle = u at e1 u0 hg
  generalize (t - at0 p.Begins a) / p.Cycle = q at e1
  generalize (at0 p.Begins b - at0 p.Begins a - at0 p.Lasts a) / p.Cycle = r at e2
  generalize gapF p a b = g at h1 h2 g1 e2
  have e3 : t + d - at0 p.Begins b = (u + d - at0 p.Lasts a - g + p.Cycle) + p.Cycle * (q - r - 1) := by
    rw [Int.mul_sub, Int.mul_sub, Int.mul_one]; omega
  rw [e3, Int.add_mul_emod_self_left, Int.emod_eq_of_lt (by omega) (by omega)]
  omega

theorem c_StreetNever (j : Jn) (p : Pg) (hi : JnIn j) (hp : PgIn p) : PureCall Try.prog 9 [j.av, p.av] (Bo true) := by
  obtain ⟨b, hcf, hfit⟩ := c_fit j hi.s hi.c hi.p hi.l hi.g
  have hk := c_known
  cases b with
  | false =>
    refine PureCall.of_body Try.func9 rfl (by decide) (by simp [Try.ntmps9]) ?_
    simp only [Try.ntmps9, Try.results9]
    refine awp_sr rfl fun K hK => ?_
    simp -dsimp
    refine hK _ _ ?_; clear hK K
    refine awp_seq_k fun K1 hK1 => ?_
    refine awp_sr rfl fun K hK => ?_
    simp -dsimp
    refine callK_intro _ (hcf) (by simp) ?_
    simp -dsimp
    refine callK_may _ (fun hm => (absurd hm (by simp) : PureCall _ _ _ (Bo true))) (by simp) ?_
    simp -dsimp
    refine callK_may _ (fun hm => (absurd hm (by simp) : PureCall _ _ _ (Bo true))) (by simp) ?_
    simp -dsimp
    refine callK_may _ (fun hm => (absurd hm (by simp) : PureCall _ _ _ (Bo true))) (by simp) ?_
    simp -dsimp
    refine hK _ _ ?_; clear hK K
    refine awp_cond rfl (fun hc0 => ?_) (fun hc0 => ?_)
    · skip
      skip
      refine awp_sr rfl fun K hK => ?_
      simp -dsimp
      refine callK_intro _ (hk) (by simp) ?_
      simp -dsimp
      refine hK _ _ ?_; clear hK K
      exact awp_ret (by simp)
    · skip
      skip
      simp at hc0
  | true =>
    have hf := hfit rfl
    have hv := c_rValid j hf
    cases hj : jnB j with
    | false =>
      rw [hj] at hv
      refine PureCall.of_body Try.func9 rfl (by decide) (by simp [Try.ntmps9]) ?_
      simp only [Try.ntmps9, Try.results9]
      refine awp_sr rfl fun K hK => ?_
      simp -dsimp
      refine hK _ _ ?_; clear hK K
      refine awp_seq_k fun K1 hK1 => ?_
      refine awp_sr rfl fun K hK => ?_
      simp -dsimp
      refine callK_intro _ (hcf) (by simp) ?_
      simp -dsimp
      refine callK_may _ (fun hm => hv) (by simp) ?_
      simp -dsimp
      refine callK_may _ (fun hm => (absurd hm (by simp) : PureCall _ _ _ (Bo true))) (by simp) ?_
      simp -dsimp
      refine callK_may _ (fun hm => (absurd hm (by simp) : PureCall _ _ _ (Bo true))) (by simp) ?_
      simp -dsimp
      refine hK _ _ ?_; clear hK K
      refine awp_cond rfl (fun hc0 => ?_) (fun hc0 => ?_)
      · skip
        skip
        refine awp_sr rfl fun K hK => ?_
        simp -dsimp
        refine callK_intro _ (hk) (by simp) ?_
        simp -dsimp
        refine hK _ _ ?_; clear hK K
        exact awp_ret (by simp)
      · skip
        skip
        simp at hc0
    | true =>
      have ho := jnB_ok hj
      have hn2 := ho.n2
      have hnl : j.n = j.Streams.length := rfl
      rw [hj] at hv
      obtain ⟨bp, hcp, hbp⟩ := c_rProgram j.n p (by omega)
      rw [hnl] at hcp
      have hr := c_Right j p hf
      refine PureCall.of_body Try.func9 rfl (by decide) (by simp [Try.ntmps9]) ?_
      simp only [Try.ntmps9, Try.results9]
      refine awp_sr rfl fun K hK => ?_
      simp -dsimp
      refine hK _ _ ?_; clear hK K
      refine awp_seq_k fun K1 hK1 => ?_
      refine awp_sr rfl fun K hK => ?_
      simp -dsimp
      refine callK_intro _ (hcf) (by simp) ?_
      simp -dsimp
      refine callK_may _ (fun hm => hv) (by simp) ?_
      simp -dsimp
      refine callK_may _ (fun hm => hcp) (by simp) ?_
      simp -dsimp
      refine callK_may _ (fun hm => hr) (by simp) ?_
      simp -dsimp
      refine hK _ _ ?_; clear hK K
      refine awp_cond rfl (fun hc0 => ?_) (fun hc0 => ?_)
      · skip
        skip
        refine awp_sr rfl fun K hK => ?_
        simp -dsimp
        refine callK_intro _ (hk) (by simp) ?_
        simp -dsimp
        refine hK _ _ ?_; clear hK K
        exact awp_ret (by simp)
      · skip
        skip
        simp [hj] at hc0
        obtain ⟨⟨hq1, hC4⟩, hRP⟩ := hc0
        have hsm := hRP.pg.sm
        have hCr := hsm.c
        refine awp_skip ?_
        simp only [thenA, inBlockA, reduceIte, Nat.reduceEqDiff, eq_self]
        refine hK1 _ _ ?_
        refine awp_prune [2, 3] ?_
        simp only [prune, List.map_cons, List.map_nil, Go.AM.look, Nat.reduceEqDiff, reduceIte]
        refine awp_seq_k fun K2 hK2 => ?_
        refine awp_sr rfl fun K hK => ?_
        simp -dsimp
        refine hK _ _ ?_; clear hK K
        refine awp_block ?_
        refine awp_prune [2, 3, 5] ?_
        simp only [prune, List.map_cons, List.map_nil, Go.AM.look, Nat.reduceEqDiff, reduceIte]
        refine awp_loop_l [2, 3] (α := Nat) (fun a => [(5, I a)]) (fun _ => [some (.els 6 [j.cells]), some (.els 3 [p.cells])]) (fun a => a ≤ j.n) (fun a => j.n - a) 0 ?_ ?_ ?_
        · exact Nat.zero_le _
        · exact sub_same (by simp)
        rintro a a1
        simp only [List.cons_append, List.nil_append, prune, List.map_cons, List.map_nil, Go.AM.look, Nat.reduceEqDiff, reduceIte]
        refine awp_seq_k fun K3 hK3 => ?_
        refine awp_sr rfl fun K hK => ?_
        simp -dsimp
        refine hK _ _ ?_; clear hK K
        refine awp_cond rfl (fun hc1 => ?_) (fun hc1 => ?_)
        · skip
          try simp at hc1
          have ha : a < j.n := hc1
          have wa : IntKind.i64.wrap ((a : Int) + 1) = (a : Int) + 1 := wrap_in (by omega) (by omega)
          have gr := (ho.sqr.row (a := (a : Int)) (by omega) (by omega)).1
          simp only [Int.toNat_natCast] at gr
          refine awp_skip ?_
          simp only [thenA, inBlockA, reduceIte, Nat.reduceEqDiff, eq_self]
          refine hK3 _ _ ?_
          refine awp_prune [2, 3, 5] ?_
          simp only [prune, List.map_cons, List.map_nil, Go.AM.look, Nat.reduceEqDiff, reduceIte]
          refine awp_seq_k fun K4 hK4 => ?_
          refine awp_block ?_
          refine awp_sr rfl fun K hK => ?_
          simp -dsimp
          refine hK _ _ ?_; clear hK K
          refine awp_block ?_
          refine awp_prune [2, 3, 5, 6] ?_
          simp only [prune, List.map_cons, List.map_nil, Go.AM.look, Nat.reduceEqDiff, reduceIte]
          refine awp_loop_l [2, 3, 5] (α := Nat) (fun b => [(6, I b)]) (fun _ => [some (.els 6 [j.cells]), some (.els 3 [p.cells])]) (fun b => b ≤ j.n) (fun b => j.n - b) 0 ?_ ?_ ?_
          · exact Nat.zero_le _
          · exact sub_same (by simp)
          rintro b b1
          simp only [List.cons_append, List.nil_append, prune, List.map_cons, List.map_nil, Go.AM.look, Nat.reduceEqDiff, reduceIte]
          refine awp_seq_k fun K5 hK5 => ?_
          refine awp_sr rfl fun K hK => ?_
          simp -dsimp
          refine hK _ _ ?_; clear hK K
          refine awp_cond rfl (fun hc2 => ?_) (fun hc2 => ?_)
          · skip
            try simp at hc2
            have hb : b < j.n := hc2
            have wb : IntKind.i64.wrap ((b : Int) + 1) = (b : Int) + 1 := wrap_in (by omega) (by omega)
            have gc := ho.sqr.get (a := (a : Int)) (b := (b : Int)) (by omega) (by omega) (by omega) (by omega)
            have hcb := ho.cl (a : Int) (b : Int) (by omega) (by omega) (by omega) (by omega)
            simp only [Int.toNat_natCast] at gc
            refine awp_skip ?_
            simp only [thenA, inBlockA, reduceIte, Nat.reduceEqDiff, eq_self]
            refine hK5 _ _ ?_
            refine awp_prune [2, 3, 5, 6] ?_
            simp only [prune, List.map_cons, List.map_nil, Go.AM.look, Nat.reduceEqDiff, reduceIte]
            refine awp_seq_k fun K6 hK6 => ?_
            refine awp_block ?_
            refine awp_seq_k fun K7 hK7 => ?_
            refine awp_sr rfl fun K hK => ?_
            simp -dsimp
            refine callK_intro _ (c_rConf j a b ho.sqr (by omega) (by omega) (by omega) (by omega)) (by simp) ?_
            simp -dsimp
            refine hK _ _ ?_; clear hK K
            refine awp_cond rfl (fun hc3 => ?_) (fun hc3 => ?_)
            · skip
              try simp at hc3
              refine awp_exit ?_
              simp only [thenA, inBlockA, reduceIte, Nat.reduceEqDiff, eq_self]
              refine hK6 _ _ ?_
              refine awp_prune [2, 3, 5, 6] ?_
              simp only [prune, List.map_cons, List.map_nil, Go.AM.look, Nat.reduceEqDiff, reduceIte]
              refine awp_r rfl fun K hK => ?_
              simp -dsimp [wb]
              refine hK _ _ ?_; clear hK K
              simp only [thenA, inBlockA, reduceIte, Nat.reduceEqDiff, eq_self]
              exact ⟨b + 1, by omega, by omega, sub_rb [some 0, some 1] rfl (by simp) (by simp)⟩
            · skip
              try simp at hc3
              refine awp_skip ?_
              simp only [thenA, inBlockA, reduceIte, Nat.reduceEqDiff, eq_self]
              refine hK7 _ _ ?_
              refine awp_prune [2, 3, 5, 6] ?_
              simp only [prune, List.map_cons, List.map_nil, Go.AM.look, Nat.reduceEqDiff, reduceIte]
              refine awp_sr rfl fun K hK => ?_
              simp -dsimp
              refine hK _ _ ?_; clear hK K
              refine awp_block ?_
              refine awp_prune [2, 3, 5, 6, 7] ?_
              simp only [prune, List.map_cons, List.map_nil, Go.AM.look, Nat.reduceEqDiff, reduceIte]
              refine awp_loop_l [2, 3, 5, 6] (α := Nat) (fun t => [(7, I t)]) (fun _ => [some (.els 6 [j.cells]), some (.els 3 [p.cells])]) (fun t => (t : Int) ≤ p.Cycle) (fun t => p.Cycle.toNat - t) 0 ?_ ?_ ?_
              · show ((0 : Nat) : Int) ≤ p.Cycle; omega
              · exact sub_same (by simp)
              rintro t t1
              simp only [List.cons_append, List.nil_append, prune, List.map_cons, List.map_nil, Go.AM.look, Nat.reduceEqDiff, reduceIte]
              refine awp_seq_k fun K8 hK8 => ?_
              refine awp_sr rfl fun K hK => ?_
              simp -dsimp
              refine hK _ _ ?_; clear hK K
              refine awp_cond rfl (fun hc4 => ?_) (fun hc4 => ?_)
              · skip
                try simp at hc4
                have wt : IntKind.i64.wrap ((t : Int) + 1) = (t : Int) + 1 := wrap_in (by omega) (by omega)
                refine awp_skip ?_
                simp only [thenA, inBlockA, reduceIte, Nat.reduceEqDiff, eq_self]
                refine hK8 _ _ ?_
                refine awp_prune [2, 3, 5, 6, 7] ?_
                simp only [prune, List.map_cons, List.map_nil, Go.AM.look, Nat.reduceEqDiff, reduceIte]
                refine awp_seq_k fun K9 hK9 => ?_
                refine awp_block ?_
                refine awp_seq_k fun K10 hK10 => ?_
                refine awp_sr rfl fun K hK => ?_
                simp -dsimp
                refine callK_intro _ (c_rGreen j.n p a t hsm (by omega) (by omega) (by omega) (by omega)) (by simp) ?_
                simp -dsimp
                refine hK _ _ ?_; clear hK K
                refine awp_cond rfl (fun hc5 => ?_) (fun hc5 => ?_)
                · skip
                  try simp at hc5
                  refine awp_exit ?_
                  simp only [thenA, inBlockA, reduceIte, Nat.reduceEqDiff, eq_self]
                  refine hK9 _ _ ?_
                  refine awp_prune [2, 3, 5, 6, 7] ?_
                  simp only [prune, List.map_cons, List.map_nil, Go.AM.look, Nat.reduceEqDiff, reduceIte]
                  refine awp_r rfl fun K hK => ?_
                  simp -dsimp [wt]
                  refine hK _ _ ?_; clear hK K
                  simp only [thenA, inBlockA, reduceIte, Nat.reduceEqDiff, eq_self]
                  exact ⟨t + 1, by omega, by omega, sub_rb [some 0, some 1] rfl (by simp) (by simp)⟩
                · skip
                  try simp at hc5
                  refine awp_skip ?_
                  simp only [thenA, inBlockA, reduceIte, Nat.reduceEqDiff, eq_self]
                  refine hK10 _ _ ?_
                  refine awp_prune [2, 3, 5, 6, 7] ?_
                  simp only [prune, List.map_cons, List.map_nil, Go.AM.look, Nat.reduceEqDiff, reduceIte]
                  refine awp_sr rfl fun K hK => ?_
                  simp -dsimp
                  refine hK _ _ ?_; clear hK K
                  refine awp_block ?_
                  refine awp_prune [2, 3, 5, 6, 7, 8] ?_
                  simp only [prune, List.map_cons, List.map_nil, Go.AM.look, Nat.reduceEqDiff, reduceIte]
                  refine awp_loop_l [2, 3, 5, 6, 7] (α := Nat) (fun d => [(8, I d)]) (fun _ => [some (.els 6 [j.cells]), some (.els 3 [p.cells])]) (fun d => (d : Int) ≤ 1000) (fun d => 1000 - d) 0 ?_ ?_ ?_
                  · simp
                  · exact sub_same (by simp)
                  rintro d d1
                  simp only [List.cons_append, List.nil_append, prune, List.map_cons, List.map_nil, Go.AM.look, Nat.reduceEqDiff, reduceIte]
                  refine awp_seq_k fun K11 hK11 => ?_
                  refine awp_sr rfl fun K hK => ?_
                  simp -dsimp [gr, gc]
                  refine hK _ _ ?_; clear hK K
                  refine awp_cond rfl (fun hc6 => ?_) (fun hc6 => ?_)
                  · skip
                    try simp at hc6
                    have wd : IntKind.i64.wrap ((d : Int) + 1) = (d : Int) + 1 := wrap_in (by omega) (by omega)
                    have wtd : IntKind.i64.wrap ((t : Int) + (d : Int)) = (t : Int) + d := wrap_in (by omega) (by omega)
                    have hnv := never hRP ha hb hc3 hc5 hc6 (by omega)
                    have hgr := c_rGreen j.n p b ((t : Int) + d) hsm (by omega) (by omega) (by omega) (by omega)
                    rw [hnv] at hgr
                    refine awp_skip ?_
                    simp only [thenA, inBlockA, reduceIte, Nat.reduceEqDiff, eq_self]
                    refine hK11 _ _ ?_
                    refine awp_prune [2, 3, 5, 6, 7, 8] ?_
                    simp only [prune, List.map_cons, List.map_nil, Go.AM.look, Nat.reduceEqDiff, reduceIte]
                    refine awp_seq_k fun K12 hK12 => ?_
                    refine awp_block ?_
                    refine awp_sr rfl fun K hK => ?_
                    simp -dsimp [wtd]
                    refine callK_intro _ (hgr) (by simp) ?_
                    simp -dsimp [wtd]
                    refine hK _ _ ?_; clear hK K
                    refine awp_cond rfl (fun hc7 => ?_) (fun hc7 => ?_)
                    · skip
                      skip
                      simp at hc7
                    · skip
                      skip
                      refine awp_skip ?_
                      simp only [thenA, inBlockA, reduceIte, Nat.reduceEqDiff, eq_self]
                      refine hK12 _ _ ?_
                      refine awp_prune [2, 3, 5, 6, 7, 8] ?_
                      simp only [prune, List.map_cons, List.map_nil, Go.AM.look, Nat.reduceEqDiff, reduceIte]
                      refine awp_r rfl fun K hK => ?_
                      simp -dsimp [wd]
                      refine hK _ _ ?_; clear hK K
                      simp only [thenA, inBlockA, reduceIte, Nat.reduceEqDiff, eq_self]
                      exact ⟨d + 1, by omega, by omega, sub_rb [some 0, some 1] rfl (by simp) (by simp)⟩
                  · skip
                    try simp at hc6
                    refine awp_exit ?_
                    simp only [thenA, inBlockA, reduceIte, Nat.reduceEqDiff, eq_self]
                    refine hK9 _ _ ?_
                    refine awp_prune [2, 3, 5, 6, 7] ?_
                    simp only [prune, List.map_cons, List.map_nil, Go.AM.look, Nat.reduceEqDiff, reduceIte]
                    refine awp_r rfl fun K hK => ?_
                    simp -dsimp [wt]
                    refine hK _ _ ?_; clear hK K
                    simp only [thenA, inBlockA, reduceIte, Nat.reduceEqDiff, eq_self]
                    exact ⟨t + 1, by omega, by omega, sub_rb [some 0, some 1] rfl (by simp) (by simp)⟩
              · skip
                try simp at hc4
                refine awp_exit ?_
                simp only [thenA, inBlockA, reduceIte, Nat.reduceEqDiff, eq_self]
                refine hK6 _ _ ?_
                refine awp_prune [2, 3, 5, 6] ?_
                simp only [prune, List.map_cons, List.map_nil, Go.AM.look, Nat.reduceEqDiff, reduceIte]
                refine awp_r rfl fun K hK => ?_
                simp -dsimp [wb]
                refine hK _ _ ?_; clear hK K
                simp only [thenA, inBlockA, reduceIte, Nat.reduceEqDiff, eq_self]
                exact ⟨b + 1, by omega, by omega, sub_rb [some 0, some 1] rfl (by simp) (by simp)⟩
          · skip
            try simp at hc2
            refine awp_exit ?_
            simp only [thenA, inBlockA, reduceIte, Nat.reduceEqDiff, eq_self]
            refine hK4 _ _ ?_
            refine awp_prune [2, 3, 5] ?_
            simp only [prune, List.map_cons, List.map_nil, Go.AM.look, Nat.reduceEqDiff, reduceIte]
            refine awp_r rfl fun K hK => ?_
            simp -dsimp [wa]
            refine hK _ _ ?_; clear hK K
            simp only [thenA, inBlockA, reduceIte, Nat.reduceEqDiff, eq_self]
            exact ⟨a + 1, by omega, by omega, sub_rb [some 0, some 1] rfl (by simp) (by simp)⟩
        · skip
          try simp at hc1
          refine awp_exit ?_
          simp only [thenA, inBlockA, reduceIte, Nat.reduceEqDiff, eq_self]
          refine hK2 _ _ ?_
          refine awp_prune [] ?_
          simp only [prune, List.map_cons, List.map_nil, Go.AM.look, Nat.reduceEqDiff, reduceIte]
          refine awp_sr rfl fun K hK => ?_
          simp -dsimp
          refine callK_intro _ (hk) (by simp) ?_
          simp -dsimp
          refine hK _ _ ?_; clear hK K
          exact awp_ret (by simp)
end Go.Street
