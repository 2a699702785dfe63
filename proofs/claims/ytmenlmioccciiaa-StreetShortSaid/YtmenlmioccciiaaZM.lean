/- Walks: the specification tells what is as defined, and the bound. -/
import Derived.Test.YtmenlmioccciiaaZL
namespace Go.Street
open Go.AM Go.Proofs
set_option maxRecDepth 10000
set_option maxHeartbeats 8000000
set_option linter.unusedVariables false
set_option linter.unusedSimpArgs false

theorem c_rValid (j : Jn) (hf : Fit j) : PureCall Try.prog 16 [j.av] (Bo (jnB j)) := by
  have f1 := hf.s; have f2 := hf.c; have f3 := hf.p; have f4 := hf.l; have f5 := hf.g
  have hnl : j.n = j.Streams.length := rfl
  have wm1 : IntKind.i64.wrap (-1) = -1 := wrap_in (by omega) (by omega)
  refine PureCall.of_body Try.func16 rfl (by decide) (by simp [Try.ntmps16]) ?_
  simp only [Try.ntmps16, Try.results16]
  refine awp_sr rfl fun K hK => ?_
  simp -dsimp
  refine hK _ _ ?_; clear hK K
  refine awp_sr rfl fun K hK => ?_
  simp -dsimp
  refine hK _ _ ?_; clear hK K
  refine awp_seq_k fun K1 hK1 => ?_
  refine awp_sr rfl fun K hK => ?_
  simp -dsimp
  refine callK_intro _ (c_rin _ _ _) (by simp) ?_
  simp -dsimp
  refine callK_may _ (fun hm => c_rin _ _ _) (by simp) ?_
  simp -dsimp
  refine callK_may _ (fun hm => c_rin _ _ _) (by simp) ?_
  simp -dsimp
  refine hK _ _ ?_; clear hK K
  refine awp_cond rfl (fun hc0 => ?_) (fun hc0 => ?_)
  · skip
    skip
    refine awp_sr rfl fun K hK => ?_
    simp -dsimp
    refine hK _ _ ?_; clear hK K
    have hb : jnB j = false := jnB_ff fun h => by
      have h1 := h.n; have h2 := h.cl; have h3 := h.p; have h4 := h.ll; have h5 := h.sk; have h6 := h.gl
      simp only [hnl] at h1 h2
      simp [h1, h2, h3, h4, h5] at hc0
      omega
    exact awp_ret (by simp [hb])
  · skip
    skip
    simp at hc0
    obtain ⟨⟨⟨⟨⟨hn, hcl⟩, hp⟩, hll⟩, hsk⟩, hgl⟩ := hc0
    refine awp_skip ?_
    simp only [thenA, inBlockA, reduceIte, Nat.reduceEqDiff, eq_self]
    refine hK1 _ _ ?_
    refine awp_prune [1, 3] ?_
    simp only [prune, List.map_cons, List.map_nil, Go.AM.look, Nat.reduceEqDiff, reduceIte]
    refine awp_seq_k fun K2 hK2 => ?_
    refine awp_sr rfl fun K hK => ?_
    simp -dsimp
    refine hK _ _ ?_; clear hK K
    refine awp_block ?_
    refine awp_prune [1, 3, 4] ?_
    simp only [prune, List.map_cons, List.map_nil, Go.AM.look, Nat.reduceEqDiff, reduceIte]
    refine awp_loop_l [1, 3] (α := Nat) (fun k => [(4, I k)]) (fun _ => [some (.els 6 [j.cells])]) (fun k => k ≤ j.n ∧ ∀ a : Nat, a < k → strmB (strm j a) = true ∧ (rowAt j.Clears a).length = j.n) (fun k => j.n - k) 0 ?_ ?_ ?_
    · exact ⟨Nat.zero_le _, fun a h => by omega⟩
    · exact sub_same (by simp)
    rintro k ⟨k1, k2⟩
    simp only [List.cons_append, List.nil_append, prune, List.map_cons, List.map_nil, Go.AM.look, Nat.reduceEqDiff, reduceIte]
    refine awp_seq_k fun K3 hK3 => ?_
    refine awp_sr rfl fun K hK => ?_
    simp -dsimp
    refine hK _ _ ?_; clear hK K
    refine awp_cond rfl (fun hc1 => ?_) (fun hc1 => ?_)
    · skip
      try simp at hc1
      have hkn : k < j.n := hc1
      have gs := strm_get (j := j) (s := (k : Int)) (by omega) (by omega)
      have gr := rowAt_nat (m := j.Clears) (k := k) (by omega)
      have wk : IntKind.i64.wrap ((k : Int) + 1) = (k : Int) + 1 := wrap_in (by omega) (by omega)
      simp only [Int.toNat_natCast] at gs
      refine awp_skip ?_
      simp only [thenA, inBlockA, reduceIte, Nat.reduceEqDiff, eq_self]
      refine hK3 _ _ ?_
      refine awp_prune [1, 3, 4] ?_
      simp only [prune, List.map_cons, List.map_nil, Go.AM.look, Nat.reduceEqDiff, reduceIte]
      refine awp_seq_k fun K4 hK4 => ?_
      refine awp_block ?_
      refine awp_sr rfl fun K hK => ?_
      simp -dsimp [gs]
      refine idxK_intro ((strm j k).cells) (fun _ => by simp [gs]) ?_
      simp -dsimp [gs]
      refine idxK_intro ((strm j k).cells) (fun _ => by simp [gs]) ?_
      simp -dsimp [gs]
      refine callK_may _ (fun hm => c_rin _ _ _) (by simp) ?_
      simp -dsimp [gs]
      refine idxK_intro (rCell (rowAt j.Clears k)) (fun _ => by simp [gr]) ?_
      simp -dsimp [gs]
      refine hK _ _ ?_; clear hK K
      refine awp_cond rfl (fun hc2 => ?_) (fun hc2 => ?_)
      · skip
        skip
        refine awp_sr rfl fun K hK => ?_
        simp -dsimp
        refine hK _ _ ?_; clear hK K
        have hb : jnB j = false := jnB_ff fun h => by
          obtain ⟨q1, q2⟩ := h.a k hkn
          simp only [strmB, Bool.and_eq_true] at q1
          have q3 := inr_iff.1 q1.1
          simp only [hnl] at q2
          simp [q1.2, q2] at hc2
          omega
        exact awp_ret (by simp [hb])
      · skip
        skip
        refine awp_skip ?_
        simp only [thenA, inBlockA, reduceIte, Nat.reduceEqDiff, eq_self]
        refine hK4 _ _ ?_
        refine awp_prune [1, 3, 4] ?_
        simp only [prune, List.map_cons, List.map_nil, Go.AM.look, Nat.reduceEqDiff, reduceIte]
        refine awp_r rfl fun K hK => ?_
        simp -dsimp [wk]
        refine hK _ _ ?_; clear hK K
        simp only [thenA, inBlockA, reduceIte, Nat.reduceEqDiff, eq_self]
        simp at hc2
        refine ⟨k + 1, ⟨by omega, fun a h => ?_⟩, by omega, sub_rb [some 0] rfl (by simp) (by simp)⟩
        rcases Nat.lt_succ_iff_lt_or_eq.1 h with h | rfl
        · exact k2 a h
        · simp only [strmB, Bool.and_eq_true, inr_iff]; have := inr_iff.1 hc2.1.2; exact ⟨⟨⟨by omega, by omega⟩, this⟩, by omega⟩
    · skip
      try simp at hc1
      have hkk : k = j.n := by omega
      subst hkk
      have k2f := k2
      have hsq : Sqr j := ⟨by omega, fun r hr => by obtain ⟨a, ha⟩ := List.getElem?_of_mem hr; have := (k2 a (by have := (List.getElem?_eq_some_iff.1 ha).1; omega)).2; rwa [rowAt_of ha] at this⟩
      refine awp_exit ?_
      simp only [thenA, inBlockA, reduceIte, Nat.reduceEqDiff, eq_self]
      refine hK2 _ _ ?_
      refine awp_prune [1, 3] ?_
      simp only [prune, List.map_cons, List.map_nil, Go.AM.look, Nat.reduceEqDiff, reduceIte]
      refine awp_seq_k fun K5 hK5 => ?_
      refine awp_sr rfl fun K hK => ?_
      simp -dsimp
      refine hK _ _ ?_; clear hK K
      refine awp_block ?_
      refine awp_prune [1, 3, 5] ?_
      simp only [prune, List.map_cons, List.map_nil, Go.AM.look, Nat.reduceEqDiff, reduceIte]
      refine awp_loop_l [1, 3] (α := Nat) (fun a => [(5, I a)]) (fun _ => [some (.els 6 [j.cells])]) (fun a => a ≤ j.n ∧ ∀ a', a' < a → ∀ b, b < j.n → cellB j a' b = true) (fun a => j.n - a) 0 ?_ ?_ ?_
      · exact ⟨Nat.zero_le _, fun a' h => by omega⟩
      · exact sub_same (by simp)
      rintro a ⟨a1, a2⟩
      simp only [List.cons_append, List.nil_append, prune, List.map_cons, List.map_nil, Go.AM.look, Nat.reduceEqDiff, reduceIte]
      refine awp_seq_k fun K6 hK6 => ?_
      refine awp_sr rfl fun K hK => ?_
      simp -dsimp
      refine hK _ _ ?_; clear hK K
      refine awp_cond rfl (fun hc3 => ?_) (fun hc3 => ?_)
      · skip
        try simp at hc3
        have ha : a < j.n := hc3
        have wa : IntKind.i64.wrap ((a : Int) + 1) = (a : Int) + 1 := wrap_in (by omega) (by omega)
        have ga := hsq.row (a := (a : Int)) (by omega) (by omega)
        simp only [Int.toNat_natCast] at ga
        refine awp_skip ?_
        simp only [thenA, inBlockA, reduceIte, Nat.reduceEqDiff, eq_self]
        refine hK6 _ _ ?_
        refine awp_prune [1, 3, 5] ?_
        simp only [prune, List.map_cons, List.map_nil, Go.AM.look, Nat.reduceEqDiff, reduceIte]
        refine awp_seq_k fun K7 hK7 => ?_
        refine awp_block ?_
        refine awp_sr rfl fun K hK => ?_
        simp -dsimp
        refine hK _ _ ?_; clear hK K
        refine awp_block ?_
        refine awp_prune [1, 3, 5, 6] ?_
        simp only [prune, List.map_cons, List.map_nil, Go.AM.look, Nat.reduceEqDiff, reduceIte]
        refine awp_loop_l [1, 3, 5] (α := Nat) (fun b => [(6, I b)]) (fun _ => [some (.els 6 [j.cells])]) (fun b => b ≤ j.n ∧ ∀ b', b' < b → cellB j a b' = true) (fun b => j.n - b) 0 ?_ ?_ ?_
        · exact ⟨Nat.zero_le _, fun b' h => by omega⟩
        · exact sub_same (by simp)
        rintro b ⟨b1, b2⟩
        simp only [List.cons_append, List.nil_append, prune, List.map_cons, List.map_nil, Go.AM.look, Nat.reduceEqDiff, reduceIte]
        refine awp_seq_k fun K8 hK8 => ?_
        refine awp_sr rfl fun K hK => ?_
        simp -dsimp
        refine hK _ _ ?_; clear hK K
        refine awp_cond rfl (fun hc4 => ?_) (fun hc4 => ?_)
        · skip
          try simp at hc4
          have hb : b < j.n := hc4
          have wb : IntKind.i64.wrap ((b : Int) + 1) = (b : Int) + 1 := wrap_in (by omega) (by omega)
          have gb := hsq.get (a := (a : Int)) (b := (b : Int)) (by omega) (by omega) (by omega) (by omega)
          have gb' := hsq.row (a := (b : Int)) (by omega) (by omega)
          have gc := hsq.get (a := (b : Int)) (b := (a : Int)) (by omega) (by omega) (by omega) (by omega)
          simp only [Int.toNat_natCast] at gb gb' gc
          refine awp_skip ?_
          simp only [thenA, inBlockA, reduceIte, Nat.reduceEqDiff, eq_self]
          refine hK8 _ _ ?_
          refine awp_prune [1, 3, 5, 6] ?_
          simp only [prune, List.map_cons, List.map_nil, Go.AM.look, Nat.reduceEqDiff, reduceIte]
          refine awp_seq_k fun K9 hK9 => ?_
          refine awp_block ?_
          refine awp_sd mixed rfl fun K hK => ?_
          simp -dsimp [ga.1, gb, wm1]
          refine callK_intro _ (c_rin _ _ _) (by simp) ?_
          simp -dsimp [ga.1, gb, wm1]
          refine idxK_intro (rCell (rowAt j.Clears a)) (fun _ => by simp [ga.1]) ?_
          simp -dsimp [ga.1, gb, wm1]
          refine idxK_intro (nCell (clr j a b)) (fun _ => by simp [gb]) ?_
          simp -dsimp [ga.1, gb, wm1]
          refine idxK_intro (rCell (rowAt j.Clears a)) (fun _ => by simp [ga.1]) ?_
          simp -dsimp [ga.1, gb, wm1]
          refine idxK_intro (nCell (clr j a b)) (fun _ => by simp [gb]) ?_
          simp -dsimp [ga.1, gb, wm1]
          refine idxK_intro (rCell (rowAt j.Clears b)) (fun _ => by simp [gb'.1]) ?_
          simp -dsimp [ga.1, gb, wm1]
          refine idxK_intro (nCell (clr j b a)) (fun _ => by simp [gc]) ?_
          simp -dsimp [ga.1, gb, wm1]
          refine ⟨fun w => ne_guard _ _ _ _ _ w und_bool, _, fun w => ne_bool _ _ _ w kt_bool, ?_⟩
          simp -dsimp
          refine hK _ _ _ (by decide +kernel) ?_; clear hK K
          refine awp_cond rfl (fun hc5 => ?_) (fun hc5 => ?_)
          · skip
            have hcell : cellB j a b = !(!inr (clr j ↑a ↑b) (-1) 60 || (a : Int) == (b : Int) && clr j ↑a ↑b != -1 || (clr j ↑a ↑b == -1) != (clr j ↑b ↑a == -1)) := by
              simp only [cellB]
              have hab : decide ((a : Int) = (b : Int)) = decide (a = b) := decide_eq_decide.2 (by omega)
              simp only [beq_d, bne, ne_eq, decide_not, hab]
              cases inr (clr j a b) (-1) 60 <;> cases decide (a = b) <;> cases decide (clr j a b = -1) <;> cases decide (clr j b a = -1) <;> rfl
            refine awp_sr rfl fun K hK => ?_
            simp -dsimp
            refine hK _ _ ?_; clear hK K
            have hbf : jnB j = false := jnB_ff fun h => by
              have := h.c a b ha hb
              rw [hcell, hc5] at this; cases this
            exact awp_ret (by simp [hbf])
          · skip
            have hcell : cellB j a b = !(!inr (clr j ↑a ↑b) (-1) 60 || (a : Int) == (b : Int) && clr j ↑a ↑b != -1 || (clr j ↑a ↑b == -1) != (clr j ↑b ↑a == -1)) := by
              simp only [cellB]
              have hab : decide ((a : Int) = (b : Int)) = decide (a = b) := decide_eq_decide.2 (by omega)
              simp only [beq_d, bne, ne_eq, decide_not, hab]
              cases inr (clr j a b) (-1) 60 <;> cases decide (a = b) <;> cases decide (clr j a b = -1) <;> cases decide (clr j b a = -1) <;> rfl
            refine awp_skip ?_
            simp only [thenA, inBlockA, reduceIte, Nat.reduceEqDiff, eq_self]
            refine hK9 _ _ ?_
            refine awp_prune [1, 3, 5, 6] ?_
            simp only [prune, List.map_cons, List.map_nil, Go.AM.look, Nat.reduceEqDiff, reduceIte]
            refine awp_r rfl fun K hK => ?_
            simp -dsimp [wb]
            refine hK _ _ ?_; clear hK K
            simp only [thenA, inBlockA, reduceIte, Nat.reduceEqDiff, eq_self]
            exact ⟨b + 1, ⟨by omega, fun b' h => by rcases Nat.lt_succ_iff_lt_or_eq.1 h with h | rfl; exact b2 b' h; rw [hcell, hc5]; rfl⟩, by omega, sub_rb [some 0] rfl (by simp) (by simp)⟩
        · skip
          try simp at hc4
          refine awp_exit ?_
          simp only [thenA, inBlockA, reduceIte, Nat.reduceEqDiff, eq_self]
          refine hK7 _ _ ?_
          refine awp_prune [1, 3, 5] ?_
          simp only [prune, List.map_cons, List.map_nil, Go.AM.look, Nat.reduceEqDiff, reduceIte]
          refine awp_r rfl fun K hK => ?_
          simp -dsimp [wa]
          refine hK _ _ ?_; clear hK K
          simp only [thenA, inBlockA, reduceIte, Nat.reduceEqDiff, eq_self]
          exact ⟨a + 1, ⟨by omega, fun a' h b hb => by rcases Nat.lt_succ_iff_lt_or_eq.1 h with h | rfl; exact a2 a' h b hb; exact b2 b (by omega)⟩, by omega, sub_rb [some 0] rfl (by simp) (by simp)⟩
      · skip
        try simp at hc3
        have hall : ∀ a b : Nat, a < j.n → b < j.n → cellB j a b = true := fun a' b ha hb => a2 a' (by omega) b hb
        have fn : Fits j.Streams.length 2 := fits_of (by omega) (by omega)
        refine awp_exit ?_
        simp only [thenA, inBlockA, reduceIte, Nat.reduceEqDiff, eq_self]
        refine hK5 _ _ ?_
        refine awp_prune [1, 3] ?_
        simp only [prune, List.map_cons, List.map_nil, Go.AM.look, Nat.reduceEqDiff, reduceIte]
        refine awp_sr rfl fun K hK => ?_
        simp -dsimp [fn]
        refine hK _ _ ?_; clear hK K
        refine awp_seq_k fun K10 hK10 => ?_
        refine awp_sr rfl fun K hK => ?_
        simp -dsimp
        refine hK _ _ ?_; clear hK K
        refine awp_block ?_
        refine awp_prune [1, 3, 7, 8] ?_
        simp only [prune, List.map_cons, List.map_nil, Go.AM.look, Nat.reduceEqDiff, reduceIte]
        refine awp_loop_l [1, 3, 7] (α := Nat) (fun i => [(8, I i)]) (fun i => [some (.els 6 [j.cells]), some (.els 1 ((sv j.n (j.Phases.take i).flatten).map bCell))]) (fun i => i ≤ j.Phases.length ∧ ∀ i' : Nat, i' < i → PhV j (rowAt j.Phases i') (at0 j.Longest i')) (fun i => j.Phases.length - i) 0 ?_ ?_ ?_
        · exact ⟨Nat.zero_le _, fun i' h => by omega⟩
        · exact sub_rb [some 0, some 1] rfl (by simp) (by simp [sv_nil, hnl])
        rintro i ⟨i1, i2⟩
        simp only [List.cons_append, List.nil_append, prune, List.map_cons, List.map_nil, Go.AM.look, Nat.reduceEqDiff, reduceIte]
        refine awp_seq_k fun K11 hK11 => ?_
        refine awp_sr rfl fun K hK => ?_
        simp -dsimp
        refine hK _ _ ?_; clear hK K
        refine awp_cond rfl (fun hc6 => ?_) (fun hc6 => ?_)
        · skip
          try simp at hc6
          have gp := rowAt_nat hc6
          have gL := at0_nat (l := j.Longest) (k := i) (by omega)
          have hpl := hf.ps _ (List.mem_of_getElem? gp)
          have wi : IntKind.i64.wrap ((i : Int) + 1) = (i : Int) + 1 := wrap_in (by omega) (by omega)
          generalize hpe : rowAt j.Phases i = p at gp hpl
          have hbad : ¬ PhV j p (at0 j.Longest i) → jnB j = false := fun hh => jnB_ff fun h => hh (by have := h.ph i (by omega); rwa [hpe] at this)
          refine awp_skip ?_
          simp only [thenA, inBlockA, reduceIte, Nat.reduceEqDiff, eq_self]
          refine hK11 _ _ ?_
          refine awp_prune [1, 3, 7, 8] ?_
          simp only [prune, List.map_cons, List.map_nil, Go.AM.look, Nat.reduceEqDiff, reduceIte]
          refine awp_seq_k fun K12 hK12 => ?_
          refine awp_block ?_
          refine awp_sr rfl fun K hK => ?_
          simp -dsimp [gp]
          refine hK _ _ ?_; clear hK K
          refine awp_seq_k fun K13 hK13 => ?_
          refine awp_sr rfl fun K hK => ?_
          simp -dsimp
          refine callK_may _ (fun hm => c_rRising p j.n (by omega) (by omega) (by omega)) (by simp) ?_
          simp -dsimp
          refine idxK_intro (nCell (at0 j.Longest i)) (fun _ => by simp [gL]) ?_
          simp -dsimp
          refine callK_may _ (fun hm => c_rin _ _ _) (by simp) ?_
          simp -dsimp
          refine hK _ _ ?_; clear hK K
          refine awp_cond rfl (fun hc7 => ?_) (fun hc7 => ?_)
          · skip
            skip
            refine awp_sr rfl fun K hK => ?_
            simp -dsimp
            refine hK _ _ ?_; clear hK K
            have hbf : jnB j = false := hbad fun h => by
              have q1 := h.ne; have q2 := h.ris; have q3 := h.lm
              cases p with
              | nil => exact q1 rfl
              | cons a p => simp [q2, q3] at hc7; omega
            exact awp_ret (by simp [hbf])
          · skip
            skip
            simp at hc7
            have hpne : p.length ≠ 0 := by intro e; exact hc7.1.1 (List.eq_nil_of_length_eq_zero e)
            have hris : risB p j.n = true := hc7.1.2
            have hris' := hris
            simp only [risB, List.all_eq_true, List.mem_range, riseEl, Bool.and_eq_true, inr_iff] at hris'
            refine awp_skip ?_
            simp only [thenA, inBlockA, reduceIte, Nat.reduceEqDiff, eq_self]
            refine hK13 _ _ ?_
            refine awp_prune [1, 3, 7, 8, 9] ?_
            simp only [prune, List.map_cons, List.map_nil, Go.AM.look, Nat.reduceEqDiff, reduceIte]
            refine awp_sr rfl fun K hK => ?_
            simp -dsimp
            refine hK _ _ ?_; clear hK K
            refine awp_block ?_
            refine awp_prune [1, 3, 7, 8, 9, 10] ?_
            simp only [prune, List.map_cons, List.map_nil, Go.AM.look, Nat.reduceEqDiff, reduceIte]
            refine awp_loop_l [1, 3, 7, 8, 9] (α := Nat) (fun k => [(10, I k)]) (fun k => [some (.els 6 [j.cells]), some (.els 1 ((sv j.n ((j.Phases.take i).flatten ++ p.take k)).map bCell))]) (fun k => k ≤ p.length ∧ ∀ k', k' < k → leastEl j p (at0 j.Longest i) k' = true) (fun k => p.length - k) 0 ?_ ?_ ?_
            · exact ⟨Nat.zero_le _, fun k' h => by omega⟩
            · exact sub_rb [some 0, some 1] rfl (by simp) (by simp)
            rintro k ⟨k1, k2⟩
            simp only [List.cons_append, List.nil_append, prune, List.map_cons, List.map_nil, Go.AM.look, Nat.reduceEqDiff, reduceIte]
            refine awp_seq_k fun K14 hK14 => ?_
            refine awp_sr rfl fun K hK => ?_
            simp -dsimp
            refine hK _ _ ?_; clear hK K
            refine awp_cond rfl (fun hc8 => ?_) (fun hc8 => ?_)
            · skip
              try simp at hc8
              have gs := at0_nat hc8
              have wk : IntKind.i64.wrap ((k : Int) + 1) = (k : Int) + 1 := wrap_in (by omega) (by omega)
              have hsr := (hris' k hc8).1
              have hle : leastEl j p (at0 j.Longest i) k = (decide ((strm j (at0 p k)).Least ≤ at0 j.Longest i) && !(p.take k).any fun x => conf j x (at0 p k)) := rfl
              generalize hse : at0 p k = s at gs hsr hle
              have gst := strm_get hsr.1 (show s < j.n by omega)
              have hset := sv_set j.n ((j.Phases.take i).flatten ++ p.take k) s hsr.1
              have hset' : ((sv j.n ((j.Phases.take i).flatten ++ p.take k)).map bCell).set s.toNat [Bo true] = (sv j.n ((j.Phases.take i).flatten ++ p.take (k + 1))).map bCell := by rw [List.take_add_one, gs, ← List.append_assoc, show (some s).toList = [s] from rfl, ← hset, List.map_set]; rfl
              have hsn : s < (j.n : Int) := by omega
              have gsv := sv_get (n := j.n) (l := (j.Phases.take i).flatten ++ p.take k) (a := s.toNat) (by omega)
              refine awp_skip ?_
              simp only [thenA, inBlockA, reduceIte, Nat.reduceEqDiff, eq_self]
              refine hK14 _ _ ?_
              refine awp_prune [1, 3, 7, 8, 9, 10] ?_
              simp only [prune, List.map_cons, List.map_nil, Go.AM.look, Nat.reduceEqDiff, reduceIte]
              refine awp_seq_k fun K15 hK15 => ?_
              refine awp_block ?_
              refine awp_sr rfl fun K hK => ?_
              simp -dsimp [gs, hsr.1, hsn, sv_len, hset', gsv, ← hnl]
              refine hK _ _ ?_; clear hK K
              refine awp_seq_k fun K16 hK16 => ?_
              refine awp_sd mixed rfl fun K hK => ?_
              simp -dsimp [gL, gs, gst, hsr.1]
              refine hK _ _ _ (by decide +kernel) ?_; clear hK K
              refine awp_cond rfl (fun hc9 => ?_) (fun hc9 => ?_)
              · skip
                try simp at hc9
                refine awp_sr rfl fun K hK => ?_
                simp -dsimp
                refine hK _ _ ?_; clear hK K
                have hbf : jnB j = false := hbad fun h => by
                  have := h.el k hc8
                  rw [hle, decide_eq_false (by omega)] at this; cases this
                exact awp_ret (by simp [hbf])
              · skip
                try simp at hc9
                refine awp_skip ?_
                simp only [thenA, inBlockA, reduceIte, Nat.reduceEqDiff, eq_self]
                refine hK16 _ _ ?_
                refine awp_prune [1, 3, 7, 8, 9, 10] ?_
                simp only [prune, List.map_cons, List.map_nil, Go.AM.look, Nat.reduceEqDiff, reduceIte]
                refine awp_sr rfl fun K hK => ?_
                simp -dsimp
                refine hK _ _ ?_; clear hK K
                refine awp_block ?_
                refine awp_prune [1, 3, 7, 8, 9, 10, 11] ?_
                simp only [prune, List.map_cons, List.map_nil, Go.AM.look, Nat.reduceEqDiff, reduceIte]
                refine awp_loop_l [1, 3, 7, 8, 9, 10] (α := Nat) (fun q => [(11, I q)]) (fun _ => [some (.els 6 [j.cells]), some (.els 1 ((sv j.n ((j.Phases.take i).flatten ++ p.take (k + 1))).map bCell))]) (fun q => q ≤ k ∧ (p.take q).any (fun x => conf j x s) = false) (fun q => k - q) 0 ?_ ?_ ?_
                · exact ⟨Nat.zero_le _, rfl⟩
                · exact sub_rb [some 0, some 1] rfl (by simp) (by simp)
                rintro q ⟨q1, q2⟩
                simp only [List.cons_append, List.nil_append, prune, List.map_cons, List.map_nil, Go.AM.look, Nat.reduceEqDiff, reduceIte]
                refine awp_seq_k fun K17 hK17 => ?_
                refine awp_sr rfl fun K hK => ?_
                simp -dsimp
                refine hK _ _ ?_; clear hK K
                refine awp_cond rfl (fun hc10 => ?_) (fun hc10 => ?_)
                · skip
                  try simp at hc10
                  have gx := at0_nat (l := p) (k := q) (by omega)
                  have hxb := (hris' q (by omega)).1
                  have wq : IntKind.i64.wrap ((q : Int) + 1) = (q : Int) + 1 := wrap_in (by omega) (by omega)
                  generalize at0 p q = x at gx hxb
                  refine awp_skip ?_
                  simp only [thenA, inBlockA, reduceIte, Nat.reduceEqDiff, eq_self]
                  refine hK17 _ _ ?_
                  refine awp_prune [1, 3, 7, 8, 9, 10, 11] ?_
                  simp only [prune, List.map_cons, List.map_nil, Go.AM.look, Nat.reduceEqDiff, reduceIte]
                  refine awp_seq_k fun K18 hK18 => ?_
                  refine awp_block ?_
                  refine awp_sd mixed rfl fun K hK => ?_
                  simp -dsimp [gx, gs]
                  refine callK_intro _ (c_rConf j x s hsq hxb.1 (by omega) hsr.1 (by omega)) (by simp) ?_
                  simp -dsimp [gx, gs]
                  refine hK _ _ _ (by decide +kernel) ?_; clear hK K
                  refine awp_cond rfl (fun hc11 => ?_) (fun hc11 => ?_)
                  · skip
                    skip
                    refine awp_sr rfl fun K hK => ?_
                    simp -dsimp
                    refine hK _ _ ?_; clear hK K
                    have hbf : jnB j = false := hbad fun h => by
                      have := h.el k hc8
                      have hany : (p.take k).any (fun x => conf j x s) = true := by rw [List.any_eq_true]; exact ⟨x, List.mem_of_getElem? (i := q) (by rw [List.getElem?_take, if_pos hc10]; exact gx), hc11⟩
                      rw [hle, hany] at this; simp at this
                    exact awp_ret (by simp [hbf])
                  · skip
                    skip
                    refine awp_skip ?_
                    simp only [thenA, inBlockA, reduceIte, Nat.reduceEqDiff, eq_self]
                    refine hK18 _ _ ?_
                    refine awp_prune [1, 3, 7, 8, 9, 10, 11] ?_
                    simp only [prune, List.map_cons, List.map_nil, Go.AM.look, Nat.reduceEqDiff, reduceIte]
                    refine awp_r rfl fun K hK => ?_
                    simp -dsimp [wq]
                    refine hK _ _ ?_; clear hK K
                    simp only [thenA, inBlockA, reduceIte, Nat.reduceEqDiff, eq_self]
                    exact ⟨q + 1, ⟨by omega, by rw [any_take gx, q2, hc11]; rfl⟩, by omega, sub_rb [some 0, some 1] rfl (by simp [hnl]) (by simp)⟩
                · skip
                  try simp at hc10
                  have hqk : q = k := by omega
                  subst hqk
                  refine awp_exit ?_
                  simp only [thenA, inBlockA, reduceIte, Nat.reduceEqDiff, eq_self]
                  refine hK15 _ _ ?_
                  refine awp_prune [1, 3, 7, 8, 9, 10] ?_
                  simp only [prune, List.map_cons, List.map_nil, Go.AM.look, Nat.reduceEqDiff, reduceIte]
                  refine awp_r rfl fun K hK => ?_
                  simp -dsimp [wk]
                  refine hK _ _ ?_; clear hK K
                  simp only [thenA, inBlockA, reduceIte, Nat.reduceEqDiff, eq_self]
                  refine ⟨q + 1, ⟨by omega, fun k' h => ?_⟩, by omega, sub_rb [some 0, some 1] rfl (by simp [hnl]) (by simp)⟩
                  rcases Nat.lt_succ_iff_lt_or_eq.1 h with h | rfl
                  · exact k2 k' h
                  · rw [hle, q2, decide_eq_true (by omega)]; rfl
            · skip
              try simp at hc8
              have hkk : k = p.length := by omega
              have hph : PhV j p (at0 j.Longest i) := ⟨hpne, hris, hc7.2, fun k' h => k2 k' (by omega)⟩
              have htk : p.take k = p := List.take_of_length_le (by omega)
              refine awp_exit ?_
              simp only [thenA, inBlockA, reduceIte, Nat.reduceEqDiff, eq_self]
              refine hK12 _ _ ?_
              refine awp_prune [1, 3, 7, 8] ?_
              simp only [prune, List.map_cons, List.map_nil, Go.AM.look, Nat.reduceEqDiff, reduceIte]
              refine awp_r rfl fun K hK => ?_
              simp -dsimp [wi]
              refine hK _ _ ?_; clear hK K
              simp only [thenA, inBlockA, reduceIte, Nat.reduceEqDiff, eq_self]
              refine ⟨i + 1, ⟨by omega, fun i' h => ?_⟩, by omega, sub_rb [some 0, some 1] rfl (by simp) (by simp [flat_snoc gp, htk])⟩
              rcases Nat.lt_succ_iff_lt_or_eq.1 h with h | rfl
              · exact i2 i' h
              · rw [hpe]; exact hph
        · skip
          try simp at hc6
          have hik : i = j.Phases.length := by omega
          subst hik
          have htP : j.Phases.take j.Phases.length = j.Phases := List.take_of_length_le (by omega)
          rw [htP]
          refine awp_exit ?_
          simp only [thenA, inBlockA, reduceIte, Nat.reduceEqDiff, eq_self]
          refine hK10 _ _ ?_
          refine awp_prune [1, 3, 7] ?_
          simp only [prune, List.map_cons, List.map_nil, Go.AM.look, Nat.reduceEqDiff, reduceIte]
          refine awp_seq_k fun K19 hK19 => ?_
          refine awp_sr rfl fun K hK => ?_
          simp -dsimp
          refine hK _ _ ?_; clear hK K
          refine awp_block ?_
          refine awp_prune [1, 3, 7, 12] ?_
          simp only [prune, List.map_cons, List.map_nil, Go.AM.look, Nat.reduceEqDiff, reduceIte]
          refine awp_loop_l [1, 3, 7] (α := Nat) (fun a => [(12, I a)]) (fun _ => [some (.els 6 [j.cells]), some (.els 1 ((sv j.n j.Phases.flatten).map bCell))]) (fun a => a ≤ j.n ∧ ∀ a' : Nat, a' < a → (a' : Int) ∈ j.Phases.flatten) (fun a => j.n - a) 0 ?_ ?_ ?_
          · exact ⟨Nat.zero_le _, fun a' h => by omega⟩
          · exact sub_rb [some 0, some 1] rfl (by simp) (by simp)
          rintro a ⟨a1', a2'⟩
          simp only [List.cons_append, List.nil_append, prune, List.map_cons, List.map_nil, Go.AM.look, Nat.reduceEqDiff, reduceIte]
          refine awp_seq_k fun K20 hK20 => ?_
          refine awp_sr rfl fun K hK => ?_
          simp -dsimp
          refine hK _ _ ?_; clear hK K
          refine awp_cond rfl (fun hc12 => ?_) (fun hc12 => ?_)
          · skip
            try simp at hc12
            have ha : a < j.n := hc12
            have wa : IntKind.i64.wrap ((a : Int) + 1) = (a : Int) + 1 := wrap_in (by omega) (by omega)
            have gv := sv_get (l := j.Phases.flatten) ha
            have gv' : (sv j.n j.Phases.flatten)[a]'(by rw [sv_len]; exact ha) = decide ((a : Int) ∈ j.Phases.flatten) := by simp [sv]
            refine awp_skip ?_
            simp only [thenA, inBlockA, reduceIte, Nat.reduceEqDiff, eq_self]
            refine hK20 _ _ ?_
            refine awp_prune [1, 3, 7, 12] ?_
            simp only [prune, List.map_cons, List.map_nil, Go.AM.look, Nat.reduceEqDiff, reduceIte]
            refine awp_seq_k fun K21 hK21 => ?_
            refine awp_block ?_
            refine awp_sr rfl fun K hK => ?_
            simp -dsimp [gv, ha, sv_len, ← hnl]
            refine hK _ _ ?_; clear hK K
            refine awp_cond rfl (fun hc13 => ?_) (fun hc13 => ?_)
            · skip
              simp only [gv'] at hc13
              refine awp_sr rfl fun K hK => ?_
              simp -dsimp
              refine hK _ _ ?_; clear hK K
              have hbf : jnB j = false := jnB_ff fun h => by
                have := h.all a ha
                simp [this] at hc13
              exact awp_ret (by simp [hbf])
            · skip
              simp only [gv'] at hc13
              refine awp_skip ?_
              simp only [thenA, inBlockA, reduceIte, Nat.reduceEqDiff, eq_self]
              refine hK21 _ _ ?_
              refine awp_prune [1, 3, 7, 12] ?_
              simp only [prune, List.map_cons, List.map_nil, Go.AM.look, Nat.reduceEqDiff, reduceIte]
              refine awp_r rfl fun K hK => ?_
              simp -dsimp [wa]
              refine hK _ _ ?_; clear hK K
              simp only [thenA, inBlockA, reduceIte, Nat.reduceEqDiff, eq_self]
              refine ⟨a + 1, ⟨by omega, fun a' h => ?_⟩, by omega, sub_rb [some 0, some 1] rfl (by simp [hnl]) (by simp)⟩
              rcases Nat.lt_succ_iff_lt_or_eq.1 h with h | rfl
              · exact a2' a' h
              · simpa using hc13
          · skip
            try simp at hc12
            have hal : ∀ a : Nat, a < j.n → (a : Int) ∈ j.Phases.flatten := fun a' h => a2' a' (by omega)
            refine awp_exit ?_
            simp only [thenA, inBlockA, reduceIte, Nat.reduceEqDiff, eq_self]
            refine hK19 _ _ ?_
            refine awp_prune [1, 3] ?_
            simp only [prune, List.map_cons, List.map_nil, Go.AM.look, Nat.reduceEqDiff, reduceIte]
            refine awp_seq_k fun K22 hK22 => ?_
            refine awp_sr rfl fun K hK => ?_
            simp -dsimp
            refine hK _ _ ?_; clear hK K
            refine awp_block ?_
            refine awp_prune [1, 3, 13] ?_
            simp only [prune, List.map_cons, List.map_nil, Go.AM.look, Nat.reduceEqDiff, reduceIte]
            refine awp_loop_l [1, 3] (α := Nat) (fun k => [(13, I k)]) (fun _ => [some (.els 6 [j.cells])]) (fun k => k ≤ j.Gates.length ∧ ∀ (k' : Nat) (g : Gt), k' < k → j.Gates[k']? = some g → gtB j (j.Gates.take k') g = true) (fun k => j.Gates.length - k) 0 ?_ ?_ ?_
            · exact ⟨Nat.zero_le _, fun k' g h => by omega⟩
            · exact sub_rb [some 0] rfl (by simp) (by simp)
            rintro k ⟨k1, k2⟩
            simp only [List.cons_append, List.nil_append, prune, List.map_cons, List.map_nil, Go.AM.look, Nat.reduceEqDiff, reduceIte]
            refine awp_seq_k fun K23 hK23 => ?_
            refine awp_sr rfl fun K hK => ?_
            simp -dsimp
            refine hK _ _ ?_; clear hK K
            refine awp_cond rfl (fun hc14 => ?_) (fun hc14 => ?_)
            · skip
              try simp at hc14
              obtain ⟨g, hg⟩ : ∃ g, j.Gates[k]? = some g := ⟨_, List.getElem?_eq_getElem hc14⟩
              have wk : IntKind.i64.wrap ((k : Int) + 1) = (k : Int) + 1 := wrap_in (by omega) (by omega)
              have wn : IntKind.i64.wrap ((j.Streams.length : Int) - 1) = (j.n : Int) - 1 := by rw [← hnl]; exact wrap_in (by omega) (by omega)
              have hgb : ¬ gtB j (j.Gates.take k) g = true → jnB j = false := fun hh => jnB_ff fun h => hh (h.g k g hg)
              refine awp_skip ?_
              simp only [thenA, inBlockA, reduceIte, Nat.reduceEqDiff, eq_self]
              refine hK23 _ _ ?_
              refine awp_prune [1, 3, 13] ?_
              simp only [prune, List.map_cons, List.map_nil, Go.AM.look, Nat.reduceEqDiff, reduceIte]
              refine awp_seq_k fun K24 hK24 => ?_
              refine awp_block ?_
              refine awp_seq_k fun K25 hK25 => ?_
              refine awp_sd mixed rfl fun K hK => ?_
              simp -dsimp [hg, wn]
              refine callK_intro _ (c_rin _ _ _) (by simp) ?_
              simp -dsimp [hg, wn]
              refine idxK_intro (g.cells) (fun _ => by simp [hg]) ?_
              simp -dsimp [hg, wn]
              refine ⟨by simp only [inr_iff]; intros; omega, idxK_intro (strm j g.Stream).cells (fun hm => by simp at hm; have hr := inr_iff.1 hm; simp [strm_get hr.1 (show g.Stream < j.n by omega)]) ?_⟩
              simp -dsimp [wn]
              refine hK _ _ _ (by decide +kernel) ?_; clear hK K
              refine awp_cond rfl (fun hc15 => ?_) (fun hc15 => ?_)
              · skip
                try simp [bne, beq_d] at hc15
                refine awp_sr rfl fun K hK => ?_
                simp -dsimp
                refine hK _ _ ?_; clear hK K
                have hbf : jnB j = false := hgb fun h => by
                  simp only [gtB, Bool.and_eq_true, decide_eq_true_eq] at h
                  rcases hc15 with q | q
                  · rw [h.1.2] at q; cases q
                  · exact q h.2
                exact awp_ret (by simp [hbf])
              · skip
                try simp [bne, beq_d] at hc15
                refine awp_skip ?_
                simp only [thenA, inBlockA, reduceIte, Nat.reduceEqDiff, eq_self]
                refine hK25 _ _ ?_
                refine awp_prune [1, 3, 13] ?_
                simp only [prune, List.map_cons, List.map_nil, Go.AM.look, Nat.reduceEqDiff, reduceIte]
                refine awp_sr rfl fun K hK => ?_
                simp -dsimp
                refine hK _ _ ?_; clear hK K
                refine awp_block ?_
                refine awp_prune [1, 3, 13, 14] ?_
                simp only [prune, List.map_cons, List.map_nil, Go.AM.look, Nat.reduceEqDiff, reduceIte]
                refine awp_loop_l [1, 3, 13] (α := Nat) (fun q => [(14, I q)]) (fun _ => [some (.els 6 [j.cells])]) (fun q => q ≤ k ∧ ((j.Gates.take k).take q).any (fun x => decide (x.M = g.M)) = false) (fun q => k - q) 0 ?_ ?_ ?_
                · exact ⟨Nat.zero_le _, rfl⟩
                · exact sub_rb [some 0] rfl (by simp) (by simp)
                rintro q ⟨q1, q2⟩
                simp only [List.cons_append, List.nil_append, prune, List.map_cons, List.map_nil, Go.AM.look, Nat.reduceEqDiff, reduceIte]
                refine awp_seq_k fun K26 hK26 => ?_
                refine awp_sr rfl fun K hK => ?_
                simp -dsimp
                refine hK _ _ ?_; clear hK K
                refine awp_cond rfl (fun hc16 => ?_) (fun hc16 => ?_)
                · skip
                  try simp at hc16
                  obtain ⟨x, hx⟩ : ∃ x, j.Gates[q]? = some x := ⟨_, List.getElem?_eq_getElem (by omega)⟩
                  have hx' : (j.Gates.take k)[q]? = some x := by rw [List.getElem?_take, if_pos hc16]; exact hx
                  have wq : IntKind.i64.wrap ((q : Int) + 1) = (q : Int) + 1 := wrap_in (by omega) (by omega)
                  have hmm : (x.M = g.M) ↔ (x.M.Rail = g.M.Rail ∧ x.M.Back = g.M.Back) := by cases x with | mk m _ => cases m; cases g with | mk m _ => cases m; simp
                  refine awp_skip ?_
                  simp only [thenA, inBlockA, reduceIte, Nat.reduceEqDiff, eq_self]
                  refine hK26 _ _ ?_
                  refine awp_prune [1, 3, 13, 14] ?_
                  simp only [prune, List.map_cons, List.map_nil, Go.AM.look, Nat.reduceEqDiff, reduceIte]
                  refine awp_seq_k fun K27 hK27 => ?_
                  refine awp_block ?_
                  refine awp_sd mixed rfl fun K hK => ?_
                  simp -dsimp [hx, hg]
                  refine hK _ _ _ (by decide +kernel) ?_; clear hK K
                  refine awp_cond rfl (fun hc17 => ?_) (fun hc17 => ?_)
                  · skip
                    try simp at hc17
                    refine awp_sr rfl fun K hK => ?_
                    simp -dsimp
                    refine hK _ _ ?_; clear hK K
                    have hbf : jnB j = false := hgb fun h => by
                      simp only [gtB, Bool.and_eq_true, Bool.not_eq_true', List.any_eq_false, decide_eq_true_eq] at h
                      exact h.1.1 x (List.mem_of_getElem? hx') (hmm.2 hc17)
                    exact awp_ret (by simp [hbf])
                  · skip
                    try simp at hc17
                    refine awp_skip ?_
                    simp only [thenA, inBlockA, reduceIte, Nat.reduceEqDiff, eq_self]
                    refine hK27 _ _ ?_
                    refine awp_prune [1, 3, 13, 14] ?_
                    simp only [prune, List.map_cons, List.map_nil, Go.AM.look, Nat.reduceEqDiff, reduceIte]
                    refine awp_r rfl fun K hK => ?_
                    simp -dsimp [wq]
                    refine hK _ _ ?_; clear hK K
                    simp only [thenA, inBlockA, reduceIte, Nat.reduceEqDiff, eq_self]
                    exact ⟨q + 1, ⟨by omega, by rw [any_take hx', q2, decide_eq_false (fun e => by have := hmm.1 e; exact hc17 this.1 this.2)]; rfl⟩, by omega, sub_rb [some 0] rfl (by simp) (by simp)⟩
                · skip
                  try simp at hc16
                  have hqk : q = k := by omega
                  subst hqk
                  have hany : (j.Gates.take q).any (fun x => decide (x.M = g.M)) = false := by rwa [List.take_take, Nat.min_self] at q2
                  have hgt : gtB j (j.Gates.take q) g = true := by simp only [gtB, hany, Bool.not_false, Bool.true_and, Bool.and_eq_true, decide_eq_true_eq]; exact hc15
                  refine awp_exit ?_
                  simp only [thenA, inBlockA, reduceIte, Nat.reduceEqDiff, eq_self]
                  refine hK24 _ _ ?_
                  refine awp_prune [1, 3, 13] ?_
                  simp only [prune, List.map_cons, List.map_nil, Go.AM.look, Nat.reduceEqDiff, reduceIte]
                  refine awp_r rfl fun K hK => ?_
                  simp -dsimp [wk]
                  refine hK _ _ ?_; clear hK K
                  simp only [thenA, inBlockA, reduceIte, Nat.reduceEqDiff, eq_self]
                  refine ⟨q + 1, ⟨by omega, fun k' g' h hg' => ?_⟩, by omega, sub_rb [some 0] rfl (by simp) (by simp)⟩
                  rcases Nat.lt_succ_iff_lt_or_eq.1 h with h | rfl
                  · exact k2 k' g' h hg'
                  · rw [hg] at hg'; simp only [Option.some.injEq] at hg'; subst hg'; exact hgt
            · skip
              try simp at hc14
              refine awp_exit ?_
              simp only [thenA, inBlockA, reduceIte, Nat.reduceEqDiff, eq_self]
              refine hK22 _ _ ?_
              refine awp_prune [] ?_
              simp only [prune, List.map_cons, List.map_nil, Go.AM.look, Nat.reduceEqDiff, reduceIte]
              refine awp_sr rfl fun K hK => ?_
              simp -dsimp
              refine hK _ _ ?_; clear hK K
              have hbt : jnB j = true := jnB_iff.2 ⟨by rw [hnl]; exact hn, by omega, hp, by omega, hsk, by omega, k2f, hall, fun i' h => i2 i' h, hal, fun k' g hg => k2 k' g (by have := (List.getElem?_eq_some_iff.1 hg).1; omega) hg⟩
              exact awp_ret (by simp [hbt])
end Go.Street
