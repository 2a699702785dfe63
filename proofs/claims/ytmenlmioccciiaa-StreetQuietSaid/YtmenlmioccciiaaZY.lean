/- Walks: the law StreetQuiet. -/
import Derived.Test.YtmenlmioccciiaaK0
namespace Go.Street
open Go.AM Go.Proofs Go.Tram
set_option maxRecDepth 100000
set_option maxHeartbeats 8000000
set_option linter.unusedVariables false
set_option linter.unusedSimpArgs false

/-! Nothing changes. -/
theorem cand_one {j : Jn} {ph : Int} {d : List Int} (h : d = [] ∨ j.Phases.length ≤ 1) : candL j ph d = [] := by
  rcases h with rfl | h
  · refine List.eq_nil_iff_forall_not_mem.2 fun q hq => ?_
    obtain ⟨i, _, _, _, hs⟩ := (candTo_mem _).1 hq
    simp [someB] at hs
  · unfold candL
    rw [show j.Phases.length - 1 = 0 by omega]; rfl
def quS (j : Jn) (k : Nat) : Sg := { openS j with se := (k : Int) - 1 }
theorem quS_tick {j : Jn} {d : List Int} (h : d = [] ∨ j.Phases.length ≤ 1) (k : Nat) : tickS j d [] (quS j k) = quS j (k + 1) := by
  have he : endS j d [] (nextS (quS j k)) = false := by
    simp only [endS, endsB, cand_one h, List.isEmpty_nil, Bool.not_true, Bool.false_and]
  unfold tickS
  rw [if_pos (show (quS j k).on = true from rfl), he]
  simp only [Bool.false_eq_true, if_false, nextS, quS]
  congr 1
  omega
theorem quS_in {j : Jn} (ho : JOk j) (k : Nat) : SgOk j (quS j k) ∨ 1000 < k := by
  rcases Nat.lt_or_ge 1000 k with h | h
  · exact Or.inr h
  · have := openS_ok ho
    exact Or.inl ⟨this.l, this.k, this.kb, by show -1 ≤ (k : Int) - 1; omega, by show (k : Int) - 1 ≤ _; omega, this.si, this.lb, this.p0, this.p1⟩

theorem c_StreetQuiet (j : Jn) (n : Int) (d : List Int) (hi : JnIn j) (hn : I64 n) (hd : d.length ≤ maxLen) : PureCall Try.prog 7 [j.av, I n, iL d] (Bo true) := by
  obtain ⟨b, hcf, hfit⟩ := c_fit j hi.s hi.c hi.p hi.l hi.g
  have hk := c_known
  cases b with
  | false =>
    refine PureCall.of_body Try.func7 rfl (by decide) (by simp [Try.ntmps7]) ?_
    simp only [Try.ntmps7, Try.results7]
    refine awp_sr rfl fun K hK => ?_
    simp -dsimp
    refine hK _ _ ?_; clear hK K
    refine awp_seq_k fun K1 hK1 => ?_
    refine awp_sr rfl fun K hK => ?_
    simp -dsimp
    refine callK_intro _ (hcf) (by simp) ?_
    simp -dsimp
    refine callK_may _ (fun hm => (absurd hm (by simp) : PureCall _ _ _ (Bo true))) (by simp) ?_
    simp -dsimp
    refine callK_may _ (fun hm => (absurd hm (by simp) : PureCall _ _ _ (Bo true))) (by simp) ?_
    simp -dsimp
    refine hK _ _ ?_; clear hK K
    refine awp_cond rfl (fun hc0 => ?_) (fun hc0 => ?_)
    · skip
      skip
      refine awp_sr rfl fun K hK => ?_
      simp -dsimp
      refine callK_intro _ (hk) (by simp) ?_
      simp -dsimp
      refine hK _ _ ?_; clear hK K
      exact awp_ret (by simp)
    · skip
      skip
      simp at hc0
  | true =>
    have hf := hfit rfl
    have hv := c_rValid j hf
    cases hj : jnB j with
    | false =>
      rw [hj] at hv
      refine PureCall.of_body Try.func7 rfl (by decide) (by simp [Try.ntmps7]) ?_
      simp only [Try.ntmps7, Try.results7]
      refine awp_sr rfl fun K hK => ?_
      simp -dsimp
      refine hK _ _ ?_; clear hK K
      refine awp_seq_k fun K1 hK1 => ?_
      refine awp_sr rfl fun K hK => ?_
      simp -dsimp
      refine callK_intro _ (hcf) (by simp) ?_
      simp -dsimp
      refine callK_may _ (fun hm => hv) (by simp) ?_
      simp -dsimp
      refine callK_may _ (fun hm => (absurd hm (by simp) : PureCall _ _ _ (Bo true))) (by simp) ?_
      simp -dsimp
      refine hK _ _ ?_; clear hK K
      refine awp_cond rfl (fun hc0 => ?_) (fun hc0 => ?_)
      · skip
        skip
        refine awp_sr rfl fun K hK => ?_
        simp -dsimp
        refine callK_intro _ (hk) (by simp) ?_
        simp -dsimp
        refine hK _ _ ?_; clear hK K
        exact awp_ret (by simp)
      · skip
        skip
        simp at hc0
    | true =>
      have ho := jnB_ok hj
      rw [hj] at hv
      have hri := fun hdl : d.length ≤ 1000 => c_rRising d j.n hdl (by have := ho.n1; omega) (by have := ho.n2; omega)
      have hop := m_Open j hf hj
      have hnl : j.n = j.Streams.length := rfl
      have hn2 := ho.n2
      rw [hnl] at hri
      have e0 : openS j = quS j 0 := rfl
      refine PureCall.of_bodyG Try.func7 rfl (by decide) (by simp [Try.ntmps7]) ?_
      intro J hJ
      simp only [Try.ntmps7, Try.results7]
      refine gwp_sr rfl (by decide) rfl rfl fun K hK => ?_
      simp -dsimp
      refine hK _ _ ?_; clear hK K
      refine gwp_seq_k fun K1 hK1 => ?_
      refine gwp_sr rfl (by decide) rfl rfl fun K hK => ?_
      simp -dsimp
      refine callK_intro _ (hcf) (by simp) ?_
      simp -dsimp
      refine callK_may _ (fun hm => hv) (by simp) ?_
      simp -dsimp
      refine callK_may _ (fun hm => hri (by simp at hm; omega)) (by simp) ?_
      simp -dsimp
      refine hK _ _ ?_; clear hK K
      refine gwp_cond rfl (fun hc0 => ?_) (fun hc0 => ?_)
      · skip
        skip
        refine gwp_sr rfl (by decide) rfl rfl fun K hK => ?_
        simp -dsimp
        refine callK_intro _ (hk) (by simp) ?_
        simp -dsimp
        refine hK _ _ ?_; clear hK K
        exact gwp_ret (by simp)
      · skip
        skip
        simp at hc0
        obtain ⟨⟨⟨⟨hn0, hn3⟩, hdl⟩, hrs⟩, hpd⟩ := hc0
        have hq : d = [] ∨ j.Phases.length ≤ 1 := by
          cases d with
          | nil => exact Or.inl rfl
          | cons x d => right; have := hpd (by simp); omega
        have hon := quS_in ho
        have hql : ∀ k, (quS j k).ls.length = j.n := fun k => (openS_ok ho).l
        have hqk : ∀ k, (quS j k).sk.length = j.Phases.length := fun k => (openS_ok ho).k
        have hti : ∀ k : Nat, k ≤ 1000 → MutCall Try.prog 28 [.ptr 0 0 0, iL d, .v (.slice none 0 0)] [sgRow j (quS j k) j.n j.Phases.length .any .any] [rRow (quS j k).ls, kRow (quS j k).sk] (I 0) [sgRow j (quS j (k + 1)) j.n j.Phases.length .any .any] [rRow (quS j (k + 1)).ls, kRow (quS j (k + 1)).sk] := by
          intro k hk
          have hokt : okT j d [] = true := by
            simp only [okT, Bool.and_eq_true]
            exact ⟨⟨by rw [← risB_told]; exact hrs, rfl⟩, rfl⟩
          have := m_Tick j d [] (quS j k) hf ho ((hon k).resolve_right (by omega)) (by omega) (by simp) hokt
          rw [hql, hqk, quS_tick hq] at this
          exact MutCall.wkA this ⟨Or.inl rfl, Or.inl rfl, Or.inr (Or.inl ⟨1, rfl, rfl⟩), trivial⟩
        have hli : ∀ k : Nat, k ≤ 1000 → MutCall Try.prog 32 [.ptr 0 0 0] [sgRow j (quS j k) j.n j.Phases.length .any .any] [rRow (quS j k).ls, kRow (quS j k).sk] (.row 3 0 j.n) [sgRow j (quS j k) j.n j.Phases.length .any .any] [rRow (quS j k).ls, kRow (quS j k).sk, rRow (quS j k).ls] := by
          intro k hk
          have := m_Lights j (quS j k) ((hon k).resolve_right (by omega)) (by omega)
          rwa [hql, hqk] at this
        rw [e0] at hop
        refine gwp_skip ?_
        simp only [thenA, inBlockA, reduceIte, Nat.reduceEqDiff, eq_self]
        refine hK1 _ _ ?_
        refine gwp_prune [1, 2, 3] (Or.inr (by simp)) ?_
        simp only [prune, List.map_cons, List.map_nil, Go.AM.look, Nat.reduceEqDiff, reduceIte]
        refine gwp_sr rfl (by decide) rfl rfl fun K hK => ?_
        simp -dsimp
        refine callK_mut [] [] [none, some 0, some 1, some 2] (hop) (by decide) rfl (by simp) (by simp) rfl (by simp) ?_
        simp -dsimp
        refine hK _ _ ?_; clear hK K
        refine gwp_seq_k fun K2 hK2 => ?_
        refine gwp_sr rfl (by decide) rfl rfl fun K hK => ?_
        simp -dsimp
        refine hK _ _ ?_; clear hK K
        refine gwp_cond rfl (fun hc1 => ?_) (fun hc1 => ?_)
        · skip
          skip
          simp at hc1
        · skip
          skip
          refine gwp_skip ?_
          simp only [thenA, inBlockA, reduceIte, Nat.reduceEqDiff, eq_self]
          refine hK2 _ _ ?_
          refine gwp_prune [1, 2, 7] (Or.inr (by simp)) ?_
          simp only [prune, List.map_cons, List.map_nil, Go.AM.look, Nat.reduceEqDiff, reduceIte]
          refine gwp_sr rfl (by decide) rfl rfl fun K hK => ?_
          simp -dsimp
          refine callK_mut [1] [2, 3] [none, some 0, none, none, some 1, some 2, some 3] (hli 0 (by omega)) (by decide) rfl (by simp) (by simp) rfl (by simp) ?_
          simp -dsimp
          refine hK _ _ ?_; clear hK K
          refine gwp_seq_k fun K3 hK3 => ?_
          refine gwp_sr rfl (by decide) rfl rfl fun K hK => ?_
          simp -dsimp
          refine hK _ _ ?_; clear hK K
          refine gwp_block ?_
          refine gwp_prune [1, 2, 7, 9, 10] (Or.inr (by simp)) ?_
          simp only [prune, List.map_cons, List.map_nil, Go.AM.look, Nat.reduceEqDiff, reduceIte]
          refine gwp_loop_l [1, 2, 7, 9] (α := Nat) (fun k => [(10, I k)]) (fun k => [some (.els 6 [j.cells]), sgAt j (quS j k) 4 5 j.n j.Phases.length, none, none, rRow (quS j k).ls, kRow (quS j k).sk, rRow (quS j 0).ls]) (fun k => (k : Int) ≤ n) (fun k => n.toNat - k) 0 ?_ ?_ ?_
          · simpa using hn0
          · exact gsub (sub_rb [some 0, some 1, none, none, some 4, some 5, some 6] rfl (by simp) (by simp)) (by simp)
          rintro k k1
          simp only [List.cons_append, List.nil_append, prune, List.map_cons, List.map_nil, Go.AM.look, Nat.reduceEqDiff, reduceIte]
          refine gwp_seq_k fun K4 hK4 => ?_
          refine gwp_sr rfl (by decide) rfl rfl fun K hK => ?_
          simp -dsimp
          refine hK _ _ ?_; clear hK K
          refine gwp_cond rfl (fun hc2 => ?_) (fun hc2 => ?_)
          · skip
            try simp at hc2
            have wk : IntKind.i64.wrap ((k : Int) + 1) = (k : Int) + 1 := wrap_in (by omega) (by omega)
            refine gwp_skip ?_
            simp only [thenA, inBlockA, reduceIte, Nat.reduceEqDiff, eq_self]
            refine hK4 _ _ ?_
            refine gwp_prune [1, 2, 7, 9, 10] (Or.inr (by simp)) ?_
            simp only [prune, List.map_cons, List.map_nil, Go.AM.look, Nat.reduceEqDiff, reduceIte]
            refine gwp_seq_k fun K5 hK5 => ?_
            refine gwp_block ?_
            refine gwp_sr rfl (by decide) rfl rfl fun K hK => ?_
            simp -dsimp
            refine callK_mut [1] [4, 5] [none, some 0, none, none, none, none, none, some 1, some 2] (hti k (by omega)) (by decide) rfl (by simp) (by simp) rfl (by simp) ?_
            simp -dsimp
            refine hK _ _ ?_; clear hK K
            refine gwp_cond rfl (fun hc3 => ?_) (fun hc3 => ?_)
            · skip
              skip
              simp at hc3
            · skip
              skip
              refine gwp_skip ?_
              simp only [thenA, inBlockA, reduceIte, Nat.reduceEqDiff, eq_self]
              refine hK5 _ _ ?_
              refine gwp_prune [1, 2, 7, 9, 10] (Or.inr (by simp)) ?_
              simp only [prune, List.map_cons, List.map_nil, Go.AM.look, Nat.reduceEqDiff, reduceIte]
              refine gwp_r rfl (by decide) rfl rfl fun K hK => ?_
              simp -dsimp [wk]
              refine hK _ _ ?_; clear hK K
              simp only [thenA, inBlockA, reduceIte, Nat.reduceEqDiff, eq_self]
              exact ⟨k + 1, by omega, by omega, gsub (sub_rb [some 0, some 1, none, none, some 7, some 8, some 6] rfl (by simp) (by simp)) (by simp)⟩
          · skip
            try simp at hc2
            have hkn : (k : Int) = n := by omega
            have hp1 : (quS j k).ph = 0 := rfl
            have hp2 : (quS j k).on = true := rfl
            have hp3 : (quS j k).se = (k : Int) - 1 := rfl
            have hp4 : (quS j k).ls = (quS j 0).ls := rfl
            have tl : List.take j.n ((quS j 0).ls.map Lt.cells) = (quS j 0).ls.map Lt.cells := List.take_of_length_le (by simp [hql])
            have hph := fun (R Sk Dm Pr : AV) => c_Phase j (I (quS j k).se) (I (quS j k).si) R Sk Dm Pr (quS j k).ph (quS j k).on
            have hse := fun (ph on si R Sk Dm Pr : AV) => c_Second j ph on si R Sk Dm Pr (quS j k).se
            have hsl := c_rSameL (quS j 0).ls (quS j 0).ls (by rw [hql]; omega)
            have wn : IntKind.i64.wrap (n - 1) = n - 1 := wrap_in (by omega) (by omega)
            have hlk := hli k (by omega)
            rw [hp4] at hlk
            refine gwp_exit ?_
            simp only [thenA, inBlockA, reduceIte, Nat.reduceEqDiff, eq_self]
            refine hK3 _ _ ?_
            refine gwp_prune [1, 7, 9] (Or.inr (by simp)) ?_
            simp only [prune, List.map_cons, List.map_nil, Go.AM.look, Nat.reduceEqDiff, reduceIte]
            refine gwp_sr rfl (by decide) rfl rfl fun K hK => ?_
            simp -dsimp
            refine callK_intro _ (hph _ _ _ _) (by simp) ?_
            simp -dsimp
            refine hK _ _ ?_; clear hK K
            refine gwp_sr rfl (by decide) rfl rfl fun K hK => ?_
            simp -dsimp [hp4, tl, hql, wn]
            refine callK_mut [1] [4, 5] [none, some 0, none, none, none, none, none, some 1, some 2, some 3] (hlk) (by decide) rfl (by simp) (by simp) rfl (by simp) ?_
            simp -dsimp [hp4, tl, hql, wn]
            refine callK_intro _ (hsl) (by simp) ?_
            simp -dsimp [hp4, tl, hql, wn]
            refine callK_may _ (fun hm => hse _ _ _ _ _ _ _) (by simp) ?_
            simp -dsimp [hp4, tl, hql, wn]
            refine callK_may _ (fun hm => hk) (by simp) ?_
            simp -dsimp [hp4, tl, hql, wn]
            refine hK _ _ ?_; clear hK K
            have hlast : (quS j k).se = n - 1 := by rw [hp3]; omega
            exact gwp_ret (by simp [hp1, hp2, hlast])
end Go.Street
