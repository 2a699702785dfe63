/- Walks: programs that are right, in the specification and in the program. -/
import Derived.Test.YtmenlmioccciiaaZN
namespace Go.Street
open Go.AM Go.Proofs
set_option maxRecDepth 10000
set_option maxHeartbeats 8000000
set_option linter.unusedVariables false
set_option linter.unusedSimpArgs false

theorem tmod2 {x C : Int} (h : 0 < C) : (x.tmod C + C).tmod C = x % C := by
  have h1 := Int.lt_tmod_of_pos x h
  rw [Int.tmod_eq_emod_of_nonneg (by omega), Int.add_emod_right]
  have h2 : x.tmod C = x - C * x.tdiv C := by have := Int.mul_tdiv_add_tmod x C; omega
  rw [h2, Int.sub_mul_emod_self_left]
theorem tmod_bd {x C : Int} (h : 0 < C) : -C < x.tmod C ∧ x.tmod C < C := ⟨Int.lt_tmod_of_pos x h, Int.tmod_lt_of_pos x h⟩

/-- A program's numbers are small. -/
structure PgSm (n : Nat) (p : Pg) : Prop where
  c : 1 ≤ p.Cycle ∧ p.Cycle ≤ 2000
  b : p.Begins.length = n
  l : p.Lasts.length = n
  rb : ∀ a : Int, 0 ≤ a → a < n → 0 ≤ at0 p.Begins a ∧ at0 p.Begins a ≤ 2000
  rl : ∀ a : Int, 0 ≤ a → a < n → 1 ≤ at0 p.Lasts a ∧ at0 p.Lasts a ≤ 2000
theorem PgOk.sm {n : Nat} {p : Pg} (h : PgOk n p) : PgSm n p := by
  have hc := inr_iff.1 h.c
  refine ⟨hc, h.b, h.l, fun a a0 a1 => ?_, fun a a0 a1 => ?_⟩
  · have := (h.a a.toNat (by omega)).1
    rw [inr_iff, Int.toNat_of_nonneg a0] at this; omega
  · have := (h.a a.toNat (by omega)).2.1
    rw [inr_iff, Int.toNat_of_nonneg a0] at this; omega

def gapF (p : Pg) (a b : Int) : Int := (at0 p.Begins b - at0 p.Begins a - at0 p.Lasts a) % p.Cycle
theorem gapF_bd {n : Nat} {p : Pg} (h : PgSm n p) (a b : Int) : 0 ≤ gapF p a b ∧ gapF p a b < p.Cycle :=
  ⟨Int.emod_nonneg _ (by have := h.c; omega), Int.emod_lt_of_pos _ (by have := h.c; omega)⟩

section
variable (n : Nat) (p : Pg) (a b : Int) (h : PgSm n p) (a0 : 0 ≤ a) (a1 : a < n) (b0 : 0 ≤ b) (b1 : b < n)
include h a0 a1 b0 b1
theorem gap_pre : p.Begins[a.toNat]? = some (at0 p.Begins a) ∧ p.Begins[b.toNat]? = some (at0 p.Begins b) ∧ p.Lasts[a.toNat]? = some (at0 p.Lasts a) ∧
    IntKind.i64.wrap (at0 p.Begins b - at0 p.Begins a) = at0 p.Begins b - at0 p.Begins a ∧
    IntKind.i64.wrap (at0 p.Begins b - at0 p.Begins a - at0 p.Lasts a) = at0 p.Begins b - at0 p.Begins a - at0 p.Lasts a ∧
    IntKind.i64.wrap ((at0 p.Begins b - at0 p.Begins a - at0 p.Lasts a).tmod p.Cycle + p.Cycle) = (at0 p.Begins b - at0 p.Begins a - at0 p.Lasts a).tmod p.Cycle + p.Cycle ∧
    IntKind.i64.wrap ((at0 p.Begins b - at0 p.Begins a - at0 p.Lasts a).tmod p.Cycle) = (at0 p.Begins b - at0 p.Begins a - at0 p.Lasts a).tmod p.Cycle ∧
    IntKind.i64.wrap (gapF p a b) = gapF p a b ∧
    ((at0 p.Begins b - at0 p.Begins a - at0 p.Lasts a).tmod p.Cycle + p.Cycle).tmod p.Cycle = gapF p a b ∧ ¬ p.Cycle = 0 := by
  have hc := h.c; have hba := h.rb a a0 a1; have hbb := h.rb b b0 b1; have hla := h.rl a a0 a1
  have hm := tmod_bd (x := at0 p.Begins b - at0 p.Begins a - at0 p.Lasts a) (C := p.Cycle) (by omega)
  have hg := gapF_bd h a b
  exact ⟨at0_get a0 (by rw [h.b]; exact a1), at0_get b0 (by rw [h.b]; exact b1), at0_get a0 (by rw [h.l]; exact a1), wrap_in (by omega) (by omega), wrap_in (by omega) (by omega), wrap_in (by omega) (by omega), wrap_in (by omega) (by omega), wrap_in (by omega) (by omega), tmod2 (by omega), by omega⟩
theorem c_rGap : PureCall Try.prog 73 [p.av, I a, I b] (I (gapF p a b)) := by
  obtain ⟨h1, h2, h3, h4, h5, h6, h7, h8, h9, h10⟩ := gap_pre n p a b h a0 a1 b0 b1
  refine PureCall.of_body Try.func73 rfl (by decide) (by simp [Try.ntmps73]) ?_
  simp only [Try.ntmps73, Try.results73]
  refine awp_sr rfl fun K hK => ?_
  simp -dsimp
  refine hK _ _ ?_; clear hK K
  refine awp_sd mixed rfl fun K hK => ?_
  simp -dsimp [h1, h2, h3, h4, h5, h6, h7, h8, h9, h10, a0, b0]
  refine hK _ _ _ (by decide +kernel) ?_; clear hK K
  exact awp_ret (by simp)
theorem c_Gap : PureCall Try.prog 71 [I a, I b, .iptr p.cells] (I (gapF p a b)) := by
  obtain ⟨h1, h2, h3, h4, h5, h6, h7, h8, h9, h10⟩ := gap_pre n p a b h a0 a1 b0 b1
  refine PureCall.of_body Try.func71 rfl (by decide) (by simp [Try.ntmps71]) ?_
  simp only [Try.ntmps71, Try.results71]
  refine awp_sr rfl fun K hK => ?_
  simp -dsimp
  refine hK _ _ ?_; clear hK K
  refine awp_sd mixed rfl fun K hK => ?_
  simp -dsimp [h1, h2, h3, h4, h5, h6, h7, h8, h9, h10, a0, b0]
  refine hK _ _ _ (by decide +kernel) ?_; clear hK K
  exact awp_ret (by simp)
end

def grnB (p : Pg) (a t : Int) : Bool := decide ((t - at0 p.Begins a) % p.Cycle < at0 p.Lasts a)
theorem c_rGreen (n : Nat) (p : Pg) (a t : Int) (h : PgSm n p) (a0 : 0 ≤ a) (a1 : a < n) (t0 : 0 ≤ t) (t1 : t ≤ 100000) : PureCall Try.prog 39 [p.av, I a, I t] (Bo (grnB p a t)) := by
  have hc := h.c; have hba := h.rb a a0 a1
  have hm := tmod_bd (x := t - at0 p.Begins a) (C := p.Cycle) (by omega)
  have g1 : p.Begins[a.toNat]? = some (at0 p.Begins a) := at0_get a0 (by rw [h.b]; exact a1)
  have g2 : p.Lasts[a.toNat]? = some (at0 p.Lasts a) := at0_get a0 (by rw [h.l]; exact a1)
  have w1 : IntKind.i64.wrap (t - at0 p.Begins a) = t - at0 p.Begins a := wrap_in (by omega) (by omega)
  have w2 : IntKind.i64.wrap ((t - at0 p.Begins a).tmod p.Cycle + p.Cycle) = (t - at0 p.Begins a).tmod p.Cycle + p.Cycle := wrap_in (by omega) (by omega)
  have w3 : IntKind.i64.wrap ((t - at0 p.Begins a).tmod p.Cycle) = (t - at0 p.Begins a).tmod p.Cycle := wrap_in (by omega) (by omega)
  have e := tmod2 (x := t - at0 p.Begins a) (C := p.Cycle) (by omega)
  have hb : 0 ≤ (t - at0 p.Begins a) % p.Cycle ∧ (t - at0 p.Begins a) % p.Cycle < p.Cycle := ⟨Int.emod_nonneg _ (by omega), Int.emod_lt_of_pos _ (by omega)⟩
  have w4 : IntKind.i64.wrap ((t - at0 p.Begins a) % p.Cycle) = (t - at0 p.Begins a) % p.Cycle := wrap_in (by omega) (by omega)
  have hC0 : ¬ p.Cycle = 0 := by omega
  refine PureCall.of_body Try.func39 rfl (by decide) (by simp [Try.ntmps39]) ?_
  simp only [Try.ntmps39, Try.results39]
  refine awp_sr rfl fun K hK => ?_
  simp -dsimp
  refine hK _ _ ?_; clear hK K
  refine awp_sd mixed rfl fun K hK => ?_
  simp -dsimp [g1, g2, w1, w2, w3, w4, e, hC0, a0]
  refine hK _ _ _ (by decide +kernel) ?_; clear hK K
  exact awp_ret (by simp [grnB])

/-- A program that is right. -/
structure RightP (j : Jn) (p : Pg) : Prop where
  pg : PgOk j.n p
  ls : ∀ a : Nat, a < j.n → (strm j a).Least ≤ at0 p.Lasts a
  cf : ∀ a b : Nat, a < j.n → b < j.n → conf j a b = true → clr j a b ≤ gapF p a b ∧ at0 p.Lasts a + at0 p.Lasts b + gapF p a b + gapF p b a = p.Cycle

theorem sum_wrap {n : Nat} {p : Pg} (h : PgSm n p) {a b : Int} (a0 : 0 ≤ a) (a1 : a < n) (b0 : 0 ≤ b) (b1 : b < n) :
    IntKind.i64.wrap (at0 p.Lasts a + at0 p.Lasts b) = at0 p.Lasts a + at0 p.Lasts b ∧
    IntKind.i64.wrap (at0 p.Lasts a + at0 p.Lasts b + gapF p a b) = at0 p.Lasts a + at0 p.Lasts b + gapF p a b ∧
    IntKind.i64.wrap (at0 p.Lasts a + at0 p.Lasts b + gapF p a b + gapF p b a) = at0 p.Lasts a + at0 p.Lasts b + gapF p a b + gapF p b a := by
  have hc := h.c; have hla := h.rl a a0 a1; have hlb := h.rl b b0 b1
  have h1 := gapF_bd h a b; have h2 := gapF_bd h b a
  exact ⟨wrap_in (by omega) (by omega), wrap_in (by omega) (by omega), wrap_in (by omega) (by omega)⟩

open Classical in
theorem c_rRight (j : Jn) (p : Pg) (hf : Fit j) (ho : JOk j) : PureCall Try.prog 37 [j.av, p.av] (Bo (decide (RightP j p))) := by
  have f1 := hf.s
  have hnl : j.n = j.Streams.length := rfl
  obtain ⟨bp, hcp, hbp⟩ := c_rProgram j.n p (by omega)
  rw [hnl] at hcp
  refine PureCall.of_body Try.func37 rfl (by decide) (by simp [Try.ntmps37]) ?_
  simp only [Try.ntmps37, Try.results37]
  refine awp_sr rfl fun K hK => ?_
  simp -dsimp
  refine hK _ _ ?_; clear hK K
  refine awp_sr rfl fun K hK => ?_
  simp -dsimp
  refine hK _ _ ?_; clear hK K
  refine awp_seq_k fun K1 hK1 => ?_
  refine awp_sr rfl fun K hK => ?_
  simp -dsimp
  refine callK_intro _ (hcp) (by simp) ?_
  simp -dsimp
  refine hK _ _ ?_; clear hK K
  refine awp_cond rfl (fun hc0 => ?_) (fun hc0 => ?_)
  · skip
    skip
    refine awp_sr rfl fun K hK => ?_
    simp -dsimp
    refine hK _ _ ?_; clear hK K
    have hb : decide (RightP j p) = false := decide_eq_false fun h => by have := hbp.2 h.pg; rw [this] at hc0; simp at hc0
    exact awp_ret (by simp [hb])
  · skip
    skip
    have hpg : PgOk j.n p := hbp.1 (by simpa using hc0)
    have hsm := hpg.sm
    refine awp_skip ?_
    simp only [thenA, inBlockA, reduceIte, Nat.reduceEqDiff, eq_self]
    refine hK1 _ _ ?_
    refine awp_prune [2, 3, 5] ?_
    simp only [prune, List.map_cons, List.map_nil, Go.AM.look, Nat.reduceEqDiff, reduceIte]
    refine awp_seq_k fun K2 hK2 => ?_
    refine awp_sr rfl fun K hK => ?_
    simp -dsimp
    refine hK _ _ ?_; clear hK K
    refine awp_block ?_
    refine awp_prune [2, 3, 5, 6] ?_
    simp only [prune, List.map_cons, List.map_nil, Go.AM.look, Nat.reduceEqDiff, reduceIte]
    refine awp_loop_l [2, 3, 5] (α := Nat) (fun a => [(6, I a)]) (fun a => [some (.els 6 [j.cells]), some (.els 3 [p.cells])]) (fun a => a ≤ j.n ∧ (∀ a' : Nat, a' < a → (strm j a').Least ≤ at0 p.Lasts a') ∧ ∀ a' b : Nat, a' < a → b < j.n → conf j a' b = true → clr j a' b ≤ gapF p a' b ∧ at0 p.Lasts a' + at0 p.Lasts b + gapF p a' b + gapF p b a' = p.Cycle) (fun a => j.n - a) 0 ?_ ?_ ?_
    · exact ⟨Nat.zero_le _, fun a' h => by omega, fun a' b h => by omega⟩
    · exact sub_same (by simp)
    rintro a ⟨a1, a2, a3⟩
    simp only [List.cons_append, List.nil_append, prune, List.map_cons, List.map_nil, Go.AM.look, Nat.reduceEqDiff, reduceIte]
    refine awp_seq_k fun K3 hK3 => ?_
    refine awp_sr rfl fun K hK => ?_
    simp -dsimp
    refine hK _ _ ?_; clear hK K
    refine awp_cond rfl (fun hc1 => ?_) (fun hc1 => ?_)
    · skip
      try simp at hc1
      have ha : a < j.n := hc1
      have gs := strm_get (j := j) (s := (a : Int)) (by omega) (by omega)
      have gl := at0_get (l := p.Lasts) (i := (a : Int)) (by omega) (by rw [hsm.l]; omega)
      have wa : IntKind.i64.wrap ((a : Int) + 1) = (a : Int) + 1 := wrap_in (by omega) (by omega)
      have gr := ho.sqr.row (a := (a : Int)) (by omega) (by omega)
      simp only [Int.toNat_natCast] at gs gl gr
      refine awp_skip ?_
      simp only [thenA, inBlockA, reduceIte, Nat.reduceEqDiff, eq_self]
      refine hK3 _ _ ?_
      refine awp_prune [2, 3, 5, 6] ?_
      simp only [prune, List.map_cons, List.map_nil, Go.AM.look, Nat.reduceEqDiff, reduceIte]
      refine awp_seq_k fun K4 hK4 => ?_
      refine awp_block ?_
      refine awp_seq_k fun K5 hK5 => ?_
      refine awp_sd mixed rfl fun K hK => ?_
      simp -dsimp [gs, gl]
      refine hK _ _ _ (by decide +kernel) ?_; clear hK K
      refine awp_cond rfl (fun hc2 => ?_) (fun hc2 => ?_)
      · skip
        try simp at hc2
        refine awp_sr rfl fun K hK => ?_
        simp -dsimp
        refine hK _ _ ?_; clear hK K
        have hb : decide (RightP j p) = false := decide_eq_false fun h => by have := h.ls a ha; omega
        exact awp_ret (by simp [hb])
      · skip
        try simp at hc2
        refine awp_skip ?_
        simp only [thenA, inBlockA, reduceIte, Nat.reduceEqDiff, eq_self]
        refine hK5 _ _ ?_
        refine awp_prune [2, 3, 5, 6] ?_
        simp only [prune, List.map_cons, List.map_nil, Go.AM.look, Nat.reduceEqDiff, reduceIte]
        refine awp_sr rfl fun K hK => ?_
        simp -dsimp
        refine hK _ _ ?_; clear hK K
        refine awp_block ?_
        refine awp_prune [2, 3, 5, 6, 7] ?_
        simp only [prune, List.map_cons, List.map_nil, Go.AM.look, Nat.reduceEqDiff, reduceIte]
        refine awp_loop_l [2, 3, 5, 6] (α := Nat) (fun b => [(7, I b)]) (fun _ => [some (.els 6 [j.cells]), some (.els 3 [p.cells])]) (fun b => b ≤ j.n ∧ ∀ b' : Nat, b' < b → conf j a b' = true → clr j a b' ≤ gapF p a b' ∧ at0 p.Lasts a + at0 p.Lasts b' + gapF p a b' + gapF p b' a = p.Cycle) (fun b => j.n - b) 0 ?_ ?_ ?_
        · exact ⟨Nat.zero_le _, fun b' h => by omega⟩
        · exact sub_same (by simp)
        rintro b ⟨b1, b2⟩
        simp only [List.cons_append, List.nil_append, prune, List.map_cons, List.map_nil, Go.AM.look, Nat.reduceEqDiff, reduceIte]
        refine awp_seq_k fun K6 hK6 => ?_
        refine awp_sr rfl fun K hK => ?_
        simp -dsimp
        refine hK _ _ ?_; clear hK K
        refine awp_cond rfl (fun hc3 => ?_) (fun hc3 => ?_)
        · skip
          try simp at hc3
          have hb : b < j.n := hc3
          have gc := ho.sqr.get (a := (a : Int)) (b := (b : Int)) (by omega) (by omega) (by omega) (by omega)
          have glb := at0_get (l := p.Lasts) (i := (b : Int)) (by omega) (by rw [hsm.l]; omega)
          simp only [Int.toNat_natCast] at gc glb
          have wb : IntKind.i64.wrap ((b : Int) + 1) = (b : Int) + 1 := wrap_in (by omega) (by omega)
          obtain ⟨s1, s2, s3⟩ := sum_wrap hsm (a := (a : Int)) (b := (b : Int)) (by omega) (by omega) (by omega) (by omega)
          have hcf := c_rConf j a b ho.sqr (by omega) (by omega) (by omega) (by omega)
          have hg1 := c_rGap j.n p a b hsm (by omega) (by omega) (by omega) (by omega)
          have hg2 := c_rGap j.n p b a hsm (by omega) (by omega) (by omega) (by omega)
          refine awp_skip ?_
          simp only [thenA, inBlockA, reduceIte, Nat.reduceEqDiff, eq_self]
          refine hK6 _ _ ?_
          refine awp_prune [2, 3, 5, 6, 7] ?_
          simp only [prune, List.map_cons, List.map_nil, Go.AM.look, Nat.reduceEqDiff, reduceIte]
          refine awp_seq_k fun K7 hK7 => ?_
          refine awp_block ?_
          refine awp_sd mixed rfl fun K hK => ?_
          simp -dsimp [s1, s2, s3]
          refine callK_intro _ (hcf) (by simp) ?_
          simp -dsimp [s1, s2, s3]
          refine callK_may _ (fun hm => hg1) (by simp) ?_
          simp -dsimp [s1, s2, s3]
          refine idxK_intro (rCell (rowAt j.Clears a)) (fun _ => by simp [gr.1]) ?_
          simp -dsimp [s1, s2, s3]
          refine idxK_intro (nCell (clr j a b)) (fun _ => by simp [gc]) ?_
          simp -dsimp [s1, s2, s3]
          refine idxK_intro (nCell (at0 p.Lasts a)) (fun _ => by simp [gl]) ?_
          simp -dsimp [s1, s2, s3]
          refine idxK_intro (nCell (at0 p.Lasts b)) (fun _ => by simp [glb]) ?_
          simp -dsimp [s1, s2, s3]
          refine callK_may _ (fun hm => hg1) (by simp) ?_
          simp -dsimp [s1, s2, s3]
          refine callK_may _ (fun hm => hg2) (by simp) ?_
          simp -dsimp [s1, s2, s3]
          refine hK _ _ _ (by decide +kernel) ?_; clear hK K
          refine awp_cond rfl (fun hc4 => ?_) (fun hc4 => ?_)
          · skip
            try simp [bne, beq_d] at hc4
            refine awp_sr rfl fun K hK => ?_
            simp -dsimp
            refine hK _ _ ?_; clear hK K
            have hbf : decide (RightP j p) = false := decide_eq_false fun h => by
              obtain ⟨q1, q2⟩ := h.cf a b ha hb hc4.1
              rcases hc4.2 with q | q
              · omega
              · exact q q2
            exact awp_ret (by simp [hbf])
          · skip
            try simp [bne, beq_d] at hc4
            refine awp_skip ?_
            simp only [thenA, inBlockA, reduceIte, Nat.reduceEqDiff, eq_self]
            refine hK7 _ _ ?_
            refine awp_prune [2, 3, 5, 6, 7] ?_
            simp only [prune, List.map_cons, List.map_nil, Go.AM.look, Nat.reduceEqDiff, reduceIte]
            refine awp_r rfl fun K hK => ?_
            simp -dsimp [wb]
            refine hK _ _ ?_; clear hK K
            simp only [thenA, inBlockA, reduceIte, Nat.reduceEqDiff, eq_self]
            refine ⟨b + 1, ⟨by omega, fun b' h hc => ?_⟩, by omega, sub_rb [some 0, some 1] rfl (by simp [hnl]) (by simp)⟩
            rcases Nat.lt_succ_iff_lt_or_eq.1 h with h | rfl
            · exact b2 b' h hc
            · have := hc4 hc; omega
        · skip
          try simp at hc3
          have hbn : b = j.n := by omega
          refine awp_exit ?_
          simp only [thenA, inBlockA, reduceIte, Nat.reduceEqDiff, eq_self]
          refine hK4 _ _ ?_
          refine awp_prune [2, 3, 5, 6] ?_
          simp only [prune, List.map_cons, List.map_nil, Go.AM.look, Nat.reduceEqDiff, reduceIte]
          refine awp_r rfl fun K hK => ?_
          simp -dsimp [wa]
          refine hK _ _ ?_; clear hK K
          simp only [thenA, inBlockA, reduceIte, Nat.reduceEqDiff, eq_self]
          refine ⟨a + 1, ⟨by omega, fun a' h => ?_, fun a' b' h hb' hc => ?_⟩, by omega, sub_rb [some 0, some 1] rfl (by simp [hnl]) (by simp)⟩
          · rcases Nat.lt_succ_iff_lt_or_eq.1 h with h | rfl
            · exact a2 a' h
            · exact hc2
          · rcases Nat.lt_succ_iff_lt_or_eq.1 h with h | rfl
            · exact a3 a' b' h hb' hc
            · exact b2 b' (by omega) hc
    · skip
      try simp at hc1
      refine awp_exit ?_
      simp only [thenA, inBlockA, reduceIte, Nat.reduceEqDiff, eq_self]
      refine hK2 _ _ ?_
      refine awp_prune [] ?_
      simp only [prune, List.map_cons, List.map_nil, Go.AM.look, Nat.reduceEqDiff, reduceIte]
      refine awp_sr rfl fun K hK => ?_
      simp -dsimp
      refine hK _ _ ?_; clear hK K
      have hbt : decide (RightP j p) = true := decide_eq_true ⟨hpg, fun a' h => a2 a' (by omega), fun a' b' h h' hc => a3 a' b' (by omega) h' hc⟩
      exact awp_ret (by simp [hbt])

open Classical in
theorem c_Right (j : Jn) (p : Pg) (hf : Fit j) : PureCall Try.prog 36 [j.av, p.av] (Bo (jnB j && decide (RightP j p))) := by
  have f1 := hf.s
  have hnl : j.n = j.Streams.length := rfl
  have hck := c_Check j hf
  refine PureCall.of_body Try.func36 rfl (by decide) (by simp [Try.ntmps36]) ?_
  simp only [Try.ntmps36, Try.results36]
  refine awp_sr rfl fun K hK => ?_
  simp -dsimp
  refine hK _ _ ?_; clear hK K
  refine awp_sr rfl fun K hK => ?_
  simp -dsimp
  refine hK _ _ ?_; clear hK K
  refine awp_seq_k fun K1 hK1 => ?_
  rcases Bool.eq_false_or_eq_true (jnB j) with hj | hj <;> rw [hj] at hck ⊢
  · skip
    refine awp_sr rfl fun K hK => ?_
    simp -dsimp
    refine callK_intro _ (hck) (by simp) ?_
    simp -dsimp
    refine callK_may _ (fun hm => c_within _ _ _) (by simp) ?_
    simp -dsimp
    refine hK _ _ ?_; clear hK K
    refine awp_cond rfl (fun hc0 => ?_) (fun hc0 => ?_)
    · skip
      skip
      refine awp_sr rfl fun K hK => ?_
      simp -dsimp
      refine hK _ _ ?_; clear hK K
      have hb : decide (RightP j p) = false := decide_eq_false fun h => by have h1 := h.pg.c; have h2 := h.pg.b; have h3 := h.pg.l; simp [h1, h2, h3, hnl] at hc0
      exact awp_ret (by simp [hb])
    · skip
      skip
      have ho := jnB_ok hj
      simp at hc0
      obtain ⟨⟨hC, hB⟩, hL⟩ := hc0
      have hCr := inr_iff.1 hC
      have wC : IntKind.i64.wrap (p.Cycle - 1) = p.Cycle - 1 := wrap_in (by omega) (by omega)
      refine awp_skip ?_
      simp only [thenA, inBlockA, reduceIte, Nat.reduceEqDiff, eq_self]
      refine hK1 _ _ ?_
      refine awp_prune [2, 3, 5] ?_
      simp only [prune, List.map_cons, List.map_nil, Go.AM.look, Nat.reduceEqDiff, reduceIte]
      refine awp_sr rfl fun K hK => ?_
      simp -dsimp
      refine hK _ _ ?_; clear hK K
      refine awp_seq_k fun K2 hK2 => ?_
      refine awp_sr rfl fun K hK => ?_
      simp -dsimp
      refine hK _ _ ?_; clear hK K
      refine awp_block ?_
      refine awp_prune [3, 5, 6, 39, 40] ?_
      simp only [prune, List.map_cons, List.map_nil, Go.AM.look, Nat.reduceEqDiff, reduceIte]
      refine awp_loop_l [3, 5, 6, 39] (α := Nat) (fun a => [(40, I a)]) (fun a => [some (.els 6 [j.cells]), some (.els 3 [p.cells]), some (.els 6 [j.cells])]) (fun a => a ≤ j.n ∧ ∀ a' : Nat, a' < a → (inr (at0 p.Begins a') 0 (p.Cycle - 1) = true ∧ inr (at0 p.Lasts a') 1 p.Cycle = true ∧ (at0 p.Lasts a' = p.Cycle → at0 p.Begins a' = 0)) ∧ (strm j a').Least ≤ at0 p.Lasts a') (fun a => j.n - a) 0 ?_ ?_ ?_
      · exact ⟨Nat.zero_le _, fun a' h => by omega⟩
      · exact sub_same (by simp)
      rintro a ⟨a1, a2⟩
      simp only [List.cons_append, List.nil_append, prune, List.map_cons, List.map_nil, Go.AM.look, Nat.reduceEqDiff, reduceIte]
      refine awp_sr rfl fun K hK => ?_
      simp -dsimp
      refine hK _ _ ?_; clear hK K
      refine awp_seq_k fun K3 hK3 => ?_
      refine awp_cond rfl (fun hc1 => ?_) (fun hc1 => ?_)
      · skip
        try simp at hc1
        have ha : a < j.n := hc1
        have gs := strm_get (j := j) (s := (a : Int)) (by omega) (by omega)
        have gl := at0_get (l := p.Lasts) (i := (a : Int)) (by omega) (by omega)
        have gb := at0_get (l := p.Begins) (i := (a : Int)) (by omega) (by omega)
        have wa : IntKind.i64.wrap ((a : Int) + 1) = (a : Int) + 1 := wrap_in (by omega) (by omega)
        simp only [Int.toNat_natCast] at gs gl gb
        have bad : ¬ ((inr (at0 p.Begins a) 0 (p.Cycle - 1) = true ∧ inr (at0 p.Lasts a) 1 p.Cycle = true ∧ (at0 p.Lasts a = p.Cycle → at0 p.Begins a = 0)) ∧ (strm j a).Least ≤ at0 p.Lasts a) → decide (RightP j p) = false := fun hh => decide_eq_false fun h => hh ⟨h.pg.a a ha, h.ls a ha⟩
        refine awp_skip ?_
        simp only [thenA, inBlockA, reduceIte, Nat.reduceEqDiff, eq_self]
        refine hK3 _ _ ?_
        refine awp_prune [3, 5, 6, 39, 40] ?_
        simp only [prune, List.map_cons, List.map_nil, Go.AM.look, Nat.reduceEqDiff, reduceIte]
        refine awp_seq_k fun K4 hK4 => ?_
        refine awp_block ?_
        refine awp_sr rfl fun K hK => ?_
        simp -dsimp
        refine hK _ _ ?_; clear hK K
        refine awp_seq_k fun K5 hK5 => ?_
        refine awp_sd mixed rfl fun K hK => ?_
        simp -dsimp [gl]
        refine hK _ _ _ (by decide +kernel) ?_; clear hK K
        refine awp_cond rfl (fun hc2 => ?_) (fun hc2 => ?_)
        · skip
          try simp [beq_d] at hc2
          refine awp_sr rfl fun K hK => ?_
          simp -dsimp [gb]
          refine hK _ _ ?_; clear hK K
          refine awp_cond rfl (fun hc3 => ?_) (fun hc3 => ?_)
          · skip
            try simp [bne, beq_d] at hc3
            refine awp_sr rfl fun K hK => ?_
            simp -dsimp
            refine hK _ _ ?_; clear hK K
            exact awp_ret (by simp [bad (fun h => hc3 (h.1.2.2 hc2))])
          · skip
            try simp [bne, beq_d] at hc3
            have hok : inr (at0 p.Begins a) 0 (p.Cycle - 1) = true ∧ inr (at0 p.Lasts a) 1 p.Cycle = true ∧ (at0 p.Lasts a = p.Cycle → at0 p.Begins a = 0) := ⟨by rw [inr_iff]; omega, by rw [inr_iff]; omega, fun _ => hc3⟩
            refine awp_skip ?_
            simp only [thenA, inBlockA, reduceIte, Nat.reduceEqDiff, eq_self]
            refine hK5 _ _ ?_
            refine awp_prune [3, 5, 6, 7, 39, 40] ?_
            simp only [prune, List.map_cons, List.map_nil, Go.AM.look, Nat.reduceEqDiff, reduceIte]
            refine awp_sd mixed rfl fun K hK => ?_
            simp -dsimp [gs, gl]
            refine hK _ _ _ (by decide +kernel) ?_; clear hK K
            refine awp_cond rfl (fun hc5 => ?_) (fun hc5 => ?_)
            · skip
              try simp at hc5
              refine awp_sr rfl fun K hK => ?_
              simp -dsimp
              refine hK _ _ ?_; clear hK K
              exact awp_ret (by simp [bad (fun h => by omega)])
            · skip
              try simp at hc5
              refine awp_skip ?_
              simp only [thenA, inBlockA, reduceIte, Nat.reduceEqDiff, eq_self]
              refine hK4 _ _ ?_
              refine awp_prune [3, 5, 6, 39, 40] ?_
              simp only [prune, List.map_cons, List.map_nil, Go.AM.look, Nat.reduceEqDiff, reduceIte]
              refine awp_r rfl fun K hK => ?_
              simp -dsimp [wa]
              refine hK _ _ ?_; clear hK K
              simp only [thenA, inBlockA, reduceIte, Nat.reduceEqDiff, eq_self]
              refine ⟨a + 1, ⟨by omega, fun a' h => ?_⟩, by omega, sub_rb [some 0, some 1, some 2] rfl (by simp [hnl]) (by simp)⟩
              rcases Nat.lt_succ_iff_lt_or_eq.1 h with h | rfl
              · exact a2 a' h
              · exact ⟨hok, hc5⟩
        · skip
          try simp [beq_d] at hc2
          refine awp_sd mixed rfl fun K hK => ?_
          simp -dsimp [gb, gl, wC]
          refine callK_intro _ (c_within _ _ _) (by simp) ?_
          simp -dsimp [gb, gl, wC]
          refine idxK_intro (nCell (at0 p.Lasts a)) (fun _ => by simp [gl]) ?_
          simp -dsimp [gb, gl, wC]
          refine callK_may _ (fun hm => c_within _ _ _) (by simp) ?_
          simp -dsimp [gb, gl, wC]
          refine hK _ _ _ (by decide +kernel) ?_; clear hK K
          refine awp_cond rfl (fun hc4 => ?_) (fun hc4 => ?_)
          · skip
            try simp at hc4
            refine awp_sr rfl fun K hK => ?_
            simp -dsimp
            refine hK _ _ ?_; clear hK K
            have hno : ¬ (inr (at0 p.Begins a) 0 (p.Cycle - 1) = true ∧ inr (at0 p.Lasts a) 1 p.Cycle = true) := by
              rintro ⟨h1, h2⟩
              rw [inr_iff] at h2
              have h3 : inr (at0 p.Lasts a) 1 (p.Cycle - 1) = true := by rw [inr_iff]; omega
              rw [h1, h3] at hc4
              simp at hc4
            exact awp_ret (by simp [bad (fun h => hno ⟨h.1.1, h.1.2.1⟩)])
          · skip
            try simp at hc4
            have hok : inr (at0 p.Begins a) 0 (p.Cycle - 1) = true ∧ inr (at0 p.Lasts a) 1 p.Cycle = true ∧ (at0 p.Lasts a = p.Cycle → at0 p.Begins a = 0) := ⟨hc4.1, by have := inr_iff.1 hc4.2; rw [inr_iff]; omega, fun e => absurd e hc2⟩
            refine awp_skip ?_
            simp only [thenA, inBlockA, reduceIte, Nat.reduceEqDiff, eq_self]
            refine hK5 _ _ ?_
            refine awp_prune [3, 5, 6, 7, 39, 40] ?_
            simp only [prune, List.map_cons, List.map_nil, Go.AM.look, Nat.reduceEqDiff, reduceIte]
            refine awp_sd mixed rfl fun K hK => ?_
            simp -dsimp [gs, gl]
            refine hK _ _ _ (by decide +kernel) ?_; clear hK K
            refine awp_cond rfl (fun hc5 => ?_) (fun hc5 => ?_)
            · skip
              try simp at hc5
              refine awp_sr rfl fun K hK => ?_
              simp -dsimp
              refine hK _ _ ?_; clear hK K
              exact awp_ret (by simp [bad (fun h => by omega)])
            · skip
              try simp at hc5
              refine awp_skip ?_
              simp only [thenA, inBlockA, reduceIte, Nat.reduceEqDiff, eq_self]
              refine hK4 _ _ ?_
              refine awp_prune [3, 5, 6, 39, 40] ?_
              simp only [prune, List.map_cons, List.map_nil, Go.AM.look, Nat.reduceEqDiff, reduceIte]
              refine awp_r rfl fun K hK => ?_
              simp -dsimp [wa]
              refine hK _ _ ?_; clear hK K
              simp only [thenA, inBlockA, reduceIte, Nat.reduceEqDiff, eq_self]
              refine ⟨a + 1, ⟨by omega, fun a' h => ?_⟩, by omega, sub_rb [some 0, some 1, some 2] rfl (by simp [hnl]) (by simp)⟩
              rcases Nat.lt_succ_iff_lt_or_eq.1 h with h | rfl
              · exact a2 a' h
              · exact ⟨hok, hc5⟩
      · skip
        try simp at hc1
        have han : a = j.n := by omega
        have hpg : PgOk j.n p := ⟨hC, by omega, by omega, fun a' h => (a2 a' (by omega)).1⟩
        have hls : ∀ a : Nat, a < j.n → (strm j a).Least ≤ at0 p.Lasts a := fun a' h => (a2 a' (by omega)).2
        have hsm := hpg.sm
        refine awp_exit ?_
        simp only [thenA, inBlockA, reduceIte, Nat.reduceEqDiff, eq_self]
        refine hK2 _ _ ?_
        refine awp_prune [3, 5, 6] ?_
        simp only [prune, List.map_cons, List.map_nil, Go.AM.look, Nat.reduceEqDiff, reduceIte]
        refine awp_sr rfl fun K hK => ?_
        simp -dsimp
        refine hK _ _ ?_; clear hK K
        refine awp_seq_k fun K6 hK6 => ?_
        refine awp_sr rfl fun K hK => ?_
        simp -dsimp
        refine hK _ _ ?_; clear hK K
        refine awp_block ?_
        refine awp_prune [3, 5, 6, 8, 94, 95] ?_
        simp only [prune, List.map_cons, List.map_nil, Go.AM.look, Nat.reduceEqDiff, reduceIte]
        refine awp_loop_l [3, 5, 6, 8, 94] (α := Nat) (fun a => [(95, I a)]) (fun a => [some (.els 6 [j.cells]), some (.els 3 [p.cells]), some (.els 6 [j.cells])]) (fun a => a ≤ j.n ∧ ∀ a' b : Nat, a' < a → b < j.n → conf j a' b = true → clr j a' b ≤ gapF p a' b ∧ at0 p.Lasts a' + at0 p.Lasts b + gapF p a' b + gapF p b a' = p.Cycle) (fun a => j.n - a) 0 ?_ ?_ ?_
        · exact ⟨Nat.zero_le _, fun a' b h => by omega⟩
        · exact sub_same (by simp)
        rintro a ⟨a1, a3⟩
        simp only [List.cons_append, List.nil_append, prune, List.map_cons, List.map_nil, Go.AM.look, Nat.reduceEqDiff, reduceIte]
        refine awp_sr rfl fun K hK => ?_
        simp -dsimp
        refine hK _ _ ?_; clear hK K
        refine awp_seq_k fun K7 hK7 => ?_
        refine awp_cond rfl (fun hc6 => ?_) (fun hc6 => ?_)
        · skip
          try simp at hc6
          have ha : a < j.n := hc6
          have gl := at0_get (l := p.Lasts) (i := (a : Int)) (by omega) (by rw [hsm.l]; omega)
          have wa : IntKind.i64.wrap ((a : Int) + 1) = (a : Int) + 1 := wrap_in (by omega) (by omega)
          have gr := ho.sqr.row (a := (a : Int)) (by omega) (by omega)
          simp only [Int.toNat_natCast] at gl gr
          refine awp_skip ?_
          simp only [thenA, inBlockA, reduceIte, Nat.reduceEqDiff, eq_self]
          refine hK7 _ _ ?_
          refine awp_prune [3, 5, 6, 8, 94, 95] ?_
          simp only [prune, List.map_cons, List.map_nil, Go.AM.look, Nat.reduceEqDiff, reduceIte]
          refine awp_seq_k fun K8 hK8 => ?_
          refine awp_block ?_
          refine awp_sr rfl fun K hK => ?_
          simp -dsimp
          refine hK _ _ ?_; clear hK K
          refine awp_sr rfl fun K hK => ?_
          simp -dsimp
          refine hK _ _ ?_; clear hK K
          refine awp_block ?_
          refine awp_prune [3, 5, 6, 8, 9, 94, 95, 98, 99] ?_
          simp only [prune, List.map_cons, List.map_nil, Go.AM.look, Nat.reduceEqDiff, reduceIte]
          refine awp_loop_l [3, 5, 6, 8, 9, 94, 95, 98] (α := Nat) (fun b => [(99, I b)]) (fun _ => [some (.els 6 [j.cells]), some (.els 3 [p.cells]), some (.els 6 [j.cells])]) (fun b => b ≤ j.n ∧ ∀ b' : Nat, b' < b → conf j a b' = true → clr j a b' ≤ gapF p a b' ∧ at0 p.Lasts a + at0 p.Lasts b' + gapF p a b' + gapF p b' a = p.Cycle) (fun b => j.n - b) 0 ?_ ?_ ?_
          · exact ⟨Nat.zero_le _, fun b' h => by omega⟩
          · exact sub_same (by simp)
          rintro b ⟨b1, b2⟩
          simp only [List.cons_append, List.nil_append, prune, List.map_cons, List.map_nil, Go.AM.look, Nat.reduceEqDiff, reduceIte]
          refine awp_sr rfl fun K hK => ?_
          simp -dsimp
          refine hK _ _ ?_; clear hK K
          refine awp_seq_k fun K9 hK9 => ?_
          refine awp_cond rfl (fun hc7 => ?_) (fun hc7 => ?_)
          · skip
            try simp at hc7
            have hb : b < j.n := hc7
            have gc := ho.sqr.get (a := (a : Int)) (b := (b : Int)) (by omega) (by omega) (by omega) (by omega)
            have glb := at0_get (l := p.Lasts) (i := (b : Int)) (by omega) (by rw [hsm.l]; omega)
            simp only [Int.toNat_natCast] at gc glb
            have wb : IntKind.i64.wrap ((b : Int) + 1) = (b : Int) + 1 := wrap_in (by omega) (by omega)
            obtain ⟨s1, s2, s3⟩ := sum_wrap hsm (a := (a : Int)) (b := (b : Int)) (by omega) (by omega) (by omega) (by omega)
            have hcf := c_conflict j a b ho.sqr (by omega) (by omega) (by omega) (by omega)
            have hg1 := c_Gap j.n p a b hsm (by omega) (by omega) (by omega) (by omega)
            have hg2 := c_Gap j.n p b a hsm (by omega) (by omega) (by omega) (by omega)
            refine awp_skip ?_
            simp only [thenA, inBlockA, reduceIte, Nat.reduceEqDiff, eq_self]
            refine hK9 _ _ ?_
            refine awp_prune [3, 5, 6, 8, 9, 94, 95, 98, 99] ?_
            simp only [prune, List.map_cons, List.map_nil, Go.AM.look, Nat.reduceEqDiff, reduceIte]
            refine awp_seq_k fun K10 hK10 => ?_
            refine awp_block ?_
            refine awp_sr rfl fun K hK => ?_
            simp -dsimp
            refine hK _ _ ?_; clear hK K
            refine awp_seq_k fun K11 hK11 => ?_
            refine awp_sr rfl fun K hK => ?_
            simp -dsimp
            refine callK_intro _ (hcf) (by simp) ?_
            simp -dsimp
            refine hK _ _ ?_; clear hK K
            refine awp_cond rfl (fun hc8 => ?_) (fun hc8 => ?_)
            · skip
              try simp at hc8
              refine awp_exit ?_
              simp only [thenA, inBlockA, reduceIte, Nat.reduceEqDiff, eq_self]
              refine hK10 _ _ ?_
              refine awp_prune [3, 5, 6, 8, 9, 94, 95, 98, 99] ?_
              simp only [prune, List.map_cons, List.map_nil, Go.AM.look, Nat.reduceEqDiff, reduceIte]
              refine awp_r rfl fun K hK => ?_
              simp -dsimp [wb]
              refine hK _ _ ?_; clear hK K
              simp only [thenA, inBlockA, reduceIte, Nat.reduceEqDiff, eq_self]
              refine ⟨b + 1, ⟨by omega, fun b' h hc => ?_⟩, by omega, sub_rb [some 0, some 1, some 2] rfl (by simp [hnl]) (by simp)⟩
              rcases Nat.lt_succ_iff_lt_or_eq.1 h with h | rfl
              · exact b2 b' h hc
              · rw [hc8] at hc; cases hc
            · skip
              try simp at hc8
              refine awp_skip ?_
              simp only [thenA, inBlockA, reduceIte, Nat.reduceEqDiff, eq_self]
              refine hK11 _ _ ?_
              refine awp_prune [3, 5, 6, 8, 9, 10, 94, 95, 98, 99] ?_
              simp only [prune, List.map_cons, List.map_nil, Go.AM.look, Nat.reduceEqDiff, reduceIte]
              refine awp_sd mixed rfl fun K hK => ?_
              simp -dsimp [s1, s2, s3, gr.1, gc]
              refine callK_intro _ (hg1) (by simp) ?_
              simp -dsimp [s1, s2, s3, gr.1, gc]
              refine idxK_intro (nCell (at0 p.Lasts a)) (fun _ => by simp [gl]) ?_
              simp -dsimp [s1, s2, s3, gr.1, gc]
              refine idxK_intro (nCell (at0 p.Lasts b)) (fun _ => by simp [glb]) ?_
              simp -dsimp [s1, s2, s3, gr.1, gc]
              refine callK_may _ (fun hm => hg1) (by simp) ?_
              simp -dsimp [s1, s2, s3, gr.1, gc]
              refine callK_may _ (fun hm => hg2) (by simp) ?_
              simp -dsimp [s1, s2, s3, gr.1, gc]
              refine hK _ _ _ (by decide +kernel) ?_; clear hK K
              refine awp_cond rfl (fun hc9 => ?_) (fun hc9 => ?_)
              · skip
                try simp [bne, beq_d] at hc9
                refine awp_sr rfl fun K hK => ?_
                simp -dsimp
                refine hK _ _ ?_; clear hK K
                have hbf : decide (RightP j p) = false := decide_eq_false fun h => by
                  obtain ⟨q1, q2⟩ := h.cf a b ha hb hc8
                  rcases hc9 with q | q
                  · omega
                  · exact q q2
                exact awp_ret (by simp [hbf])
              · skip
                try simp [bne, beq_d] at hc9
                refine awp_skip ?_
                simp only [thenA, inBlockA, reduceIte, Nat.reduceEqDiff, eq_self]
                refine hK10 _ _ ?_
                refine awp_prune [3, 5, 6, 8, 9, 94, 95, 98, 99] ?_
                simp only [prune, List.map_cons, List.map_nil, Go.AM.look, Nat.reduceEqDiff, reduceIte]
                refine awp_r rfl fun K hK => ?_
                simp -dsimp [wb]
                refine hK _ _ ?_; clear hK K
                simp only [thenA, inBlockA, reduceIte, Nat.reduceEqDiff, eq_self]
                refine ⟨b + 1, ⟨by omega, fun b' h hc => ?_⟩, by omega, sub_rb [some 0, some 1, some 2] rfl (by simp [hnl]) (by simp)⟩
                rcases Nat.lt_succ_iff_lt_or_eq.1 h with h | rfl
                · exact b2 b' h hc
                · exact ⟨by omega, hc9.2⟩
          · skip
            try simp at hc7
            have hbn : b = j.n := by omega
            refine awp_exit ?_
            simp only [thenA, inBlockA, reduceIte, Nat.reduceEqDiff, eq_self]
            refine hK8 _ _ ?_
            refine awp_prune [3, 5, 6, 8, 94, 95] ?_
            simp only [prune, List.map_cons, List.map_nil, Go.AM.look, Nat.reduceEqDiff, reduceIte]
            refine awp_r rfl fun K hK => ?_
            simp -dsimp [wa]
            refine hK _ _ ?_; clear hK K
            simp only [thenA, inBlockA, reduceIte, Nat.reduceEqDiff, eq_self]
            refine ⟨a + 1, ⟨by omega, fun a' b' h hb' hc => ?_⟩, by omega, sub_rb [some 0, some 1, some 2] rfl (by simp [hnl]) (by simp)⟩
            rcases Nat.lt_succ_iff_lt_or_eq.1 h with h | rfl
            · exact a3 a' b' h hb' hc
            · exact b2 b' (by omega) hc
        · skip
          try simp at hc6
          refine awp_exit ?_
          simp only [thenA, inBlockA, reduceIte, Nat.reduceEqDiff, eq_self]
          refine hK6 _ _ ?_
          refine awp_prune [] ?_
          simp only [prune, List.map_cons, List.map_nil, Go.AM.look, Nat.reduceEqDiff, reduceIte]
          refine awp_sr rfl fun K hK => ?_
          simp -dsimp
          refine hK _ _ ?_; clear hK K
          have hbt : decide (RightP j p) = true := decide_eq_true ⟨hpg, hls, fun a' b' h h' hc => a3 a' b' (by omega) h' hc⟩
          exact awp_ret (by simp [hbt, hj])
  · skip
    refine awp_sr rfl fun K hK => ?_
    simp -dsimp
    refine callK_intro _ (hck) (by simp) ?_
    simp -dsimp
    refine callK_may _ (fun hm => c_within _ _ _) (by simp) ?_
    simp -dsimp
    refine hK _ _ ?_; clear hK K
    refine awp_cond rfl (fun hc0 => ?_) (fun hc0 => ?_)
    · skip
      skip
      refine awp_sr rfl fun K hK => ?_
      simp -dsimp
      refine hK _ _ ?_; clear hK K
      exact awp_ret (by simp)
    · skip
      skip
      simp at hc0
end Go.Street
