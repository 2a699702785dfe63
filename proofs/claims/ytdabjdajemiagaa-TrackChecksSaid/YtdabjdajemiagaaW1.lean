/- Walks of small functions. -/
import Derived.Test.YtdabjdajemiagaaTr
namespace Go.Tram
open Go.AM Go.Proofs
set_option maxRecDepth 10000
set_option maxHeartbeats 4000000
set_option linter.unusedVariables false
set_option linter.unusedSimpArgs false

theorem c_in (x lo hi : Int) : PureCall Try.prog 21 [I x, I lo, I hi] (Bo (inr x lo hi)) := by
  refine PureCall.of_body Try.func21 rfl (by decide) (by simp [Try.ntmps21]) ?_
  simp only [Try.ntmps21, Try.results21]
  refine awp_sr rfl fun K hK => ?_
  simp -dsimp
  refine hK _ _ ?_; clear hK K
  refine awp_sr rfl fun K hK => ?_
  simp -dsimp
  refine hK _ _ ?_; clear hK K
  exact awp_ret (by simp [inr])

theorem c_within (x lo hi : Int) : PureCall Try.prog 29 [I x, I lo, I hi] (Bo (inr x lo hi)) := by
  refine PureCall.of_body Try.func29 rfl (by decide) (by simp [Try.ntmps29]) ?_
  simp only [Try.ntmps29, Try.results29]
  refine awp_sr rfl fun K hK => ?_
  simp -dsimp
  refine hK _ _ ?_; clear hK K
  refine awp_sr rfl fun K hK => ?_
  simp -dsimp
  refine hK _ _ ?_; clear hK K
  exact awp_ret (by simp [inr])

theorem c_Root (n : Int) (h0 : 0 ≤ n) (h1 : n < 900000000000000) : PureCall Try.prog 45 [I n] (I (isq n)) := by
  refine PureCall.of_body Try.func45 rfl (by decide) (by simp [Try.ntmps45]) ?_
  simp only [Try.ntmps45, Try.results45]
  refine awp_sr rfl fun K hK => ?_
  simp -dsimp
  refine hK _ _ ?_; clear hK K
  refine awp_sr rfl fun K hK => ?_
  simp -dsimp
  refine hK _ _ ?_; clear hK K
  refine awp_seq_k fun K1 hK1 => ?_
  refine awp_block ?_
  refine awp_prune [0, 3, 4] ?_
  simp only [prune, List.map_cons, List.map_nil, Go.AM.look, Nat.reduceEqDiff, reduceIte]
  refine awp_loop_l [0] (α := Int × Int) (fun x => [(3, I x.1), (4, I x.2)]) (fun _ => []) (fun x => 0 ≤ x.1 ∧ x.1 < x.2 ∧ x.2 ≤ 30000000 ∧ x.1 * x.1 ≤ n ∧ n < x.2 * x.2) (fun x => (x.2 - x.1).toNat) (0, 30000000) ?_ ?_ ?_
  · simp; omega
  · exact sub_same (by simp)
  rintro ⟨lo, hi⟩ ⟨i1, i2, i3, i4, i5⟩
  simp only [] at i1 i2 i3 i4 i5
  have w1 : IntKind.i64.wrap (hi - lo) = hi - lo := wrap_in (by omega) (by omega)
  have w2 : IntKind.i64.wrap (lo + hi) = lo + hi := wrap_in (by omega) (by omega)
  have w3 : (lo + hi).tdiv 2 = (lo + hi) / 2 := Int.tdiv_eq_ediv_of_nonneg (by omega)
  have w4 : IntKind.i64.wrap ((lo + hi) / 2) = (lo + hi) / 2 := wrap_in (by omega) (by omega)
  have b1 := mul_bd (a := (lo + hi) / 2) (b := (lo + hi) / 2) (A := 30000000) (B := 30000000) (by omega) (by omega) (by omega) (by omega)
  have w5 : IntKind.i64.wrap ((lo + hi) / 2 * ((lo + hi) / 2)) = (lo + hi) / 2 * ((lo + hi) / 2) := wrap_in (by omega) (by omega)
  simp only [List.cons_append, List.nil_append, prune, List.map_cons, List.map_nil, Go.AM.look, Nat.reduceEqDiff, reduceIte]
  refine awp_seq_k fun K2 hK2 => ?_
  refine awp_sr rfl fun K hK => ?_
  simp -dsimp
  refine hK _ _ ?_; clear hK K
  refine awp_cond rfl (fun hc0 => ?_) (fun hc0 => ?_)
  · skip
    try simp at hc0
    refine awp_skip ?_
    simp only [thenA, inBlockA, reduceIte, Nat.reduceEqDiff, eq_self]
    refine hK2 _ _ ?_
    refine awp_prune [0, 3, 4] ?_
    simp only [prune, List.map_cons, List.map_nil, Go.AM.look, Nat.reduceEqDiff, reduceIte]
    refine awp_block ?_
    refine awp_sr rfl fun K hK => ?_
    simp -dsimp [w1]
    refine hK _ _ ?_; clear hK K
    refine awp_sr rfl fun K hK => ?_
    simp -dsimp [w2, w3, w4]
    refine hK _ _ ?_; clear hK K
    refine awp_cond rfl (fun hc1 => ?_) (fun hc1 => ?_)
    · skip
      try simp at hc1
      refine awp_r rfl fun K hK => ?_
      simp -dsimp [w5]
      refine hK _ _ ?_; clear hK K
      simp only [thenA, inBlockA, reduceIte, Nat.reduceEqDiff, eq_self]
      refine ⟨((lo + hi) / 2, hi), ?_, ?_, sub_same (by simp)⟩ <;> simp <;> omega
    · skip
      try simp at hc1
      refine awp_r rfl fun K hK => ?_
      simp -dsimp
      refine hK _ _ ?_; clear hK K
      simp only [thenA, inBlockA, reduceIte, Nat.reduceEqDiff, eq_self]
      refine ⟨(lo, (lo + hi) / 2), ?_, ?_, sub_same (by simp)⟩ <;> simp <;> omega
  · skip
    try simp at hc0
    refine awp_exit ?_
    simp only [thenA, inBlockA, reduceIte, Nat.reduceEqDiff, eq_self]
    refine hK1 _ _ ?_
    refine awp_prune [3] ?_
    simp only [prune, List.map_cons, List.map_nil, Go.AM.look, Nat.reduceEqDiff, reduceIte]
    refine awp_sr rfl fun K hK => ?_
    simp -dsimp
    refine hK _ _ ?_; clear hK K
    refine awp_ret ?_
    have : hi = lo + 1 := by omega
    subst this
    simp [isq_of (n := n) (r := lo) ⟨i1, i4, i5⟩]

theorem c_spot (s : Spot) : PureCall Try.prog 22 [s.av] (Bo (spotB s)) := by
  refine PureCall.of_body Try.func22 rfl (by decide) (by simp [Try.ntmps22]) ?_
  simp only [Try.ntmps22, Try.results22]
  refine awp_sr rfl fun K hK => ?_
  simp -dsimp
  refine hK _ _ ?_; clear hK K
  refine awp_sr rfl fun K hK => ?_
  simp -dsimp
  refine callK_intro _ (c_in _ _ _) (by simp) ?_
  simp -dsimp
  refine callK_may _ (fun hm => c_in _ _ _) (by simp) ?_
  simp -dsimp
  refine hK _ _ ?_; clear hK K
  exact awp_ret (by simp [spotB])

theorem c_Far (a b : Spot) (ha : spotB a = true) (hb : spotB b = true) : PureCall Try.prog 24 [a.av, b.av] (I (far a b)) := by
  have hs := sqd_bd ha hb
  have ha' := spotB_iff.1 ha
  have hb' := spotB_iff.1 hb
  have w1 : IntKind.i64.wrap (a.X - b.X) = a.X - b.X := wrap_in (by omega) (by omega)
  have w2 : IntKind.i64.wrap (a.Y - b.Y) = a.Y - b.Y := wrap_in (by omega) (by omega)
  have h1 := mul_bd (a := a.X - b.X) (b := a.X - b.X) (A := 20000000) (B := 20000000) (by omega) (by omega) (by omega) (by omega)
  have h2 := mul_bd (a := a.Y - b.Y) (b := a.Y - b.Y) (A := 20000000) (B := 20000000) (by omega) (by omega) (by omega) (by omega)
  have w3 : IntKind.i64.wrap ((a.X - b.X) * (a.X - b.X)) = (a.X - b.X) * (a.X - b.X) := wrap_in (by omega) (by omega)
  have w4 : IntKind.i64.wrap ((a.Y - b.Y) * (a.Y - b.Y)) = (a.Y - b.Y) * (a.Y - b.Y) := wrap_in (by omega) (by omega)
  have w5 : IntKind.i64.wrap ((a.X - b.X) * (a.X - b.X) + (a.Y - b.Y) * (a.Y - b.Y)) = sqd a b := wrap_in (by unfold sqd at hs; omega) (by unfold sqd at hs; omega)
  refine PureCall.of_body Try.func24 rfl (by decide) (by simp [Try.ntmps24]) ?_
  simp only [Try.ntmps24, Try.results24]
  refine awp_sr rfl fun K hK => ?_
  simp -dsimp [w1, w2, w3, w4, w5]
  refine hK _ _ ?_; clear hK K
  refine awp_sd mixed rfl fun K hK => ?_
  simp -dsimp [w1, w2, w3, w4, w5]
  refine hK _ _ _ (by decide +kernel) ?_; clear hK K
  refine awp_sr rfl fun K hK => ?_
  simp -dsimp [w1, w2, w3, w4, w5]
  refine callK_intro _ (c_Root _ hs.1 (by omega)) (by simp) ?_
  simp -dsimp [w1, w2, w3, w4, w5]
  refine hK _ _ ?_; clear hK K
  exact awp_ret (by simp [far])

theorem c_ends (k : Int) : PureCall Try.prog 23 [I k] (I (endsN k)) := by
  refine PureCall.of_body Try.func23 rfl (by decide) (by simp [Try.ntmps23]) ?_
  simp only [Try.ntmps23, Try.results23]
  refine awp_sr rfl fun K hK => ?_
  simp -dsimp
  refine hK _ _ ?_; clear hK K
  refine awp_seq_k fun K1 hK1 => ?_
  refine awp_sr rfl fun K hK => ?_
  simp -dsimp
  refine hK _ _ ?_; clear hK K
  refine awp_block ?_
  refine awp_sr rfl fun K hK => ?_
  simp -dsimp
  refine hK _ _ ?_; clear hK K
  refine awp_cond rfl (fun hc0 => ?_) (fun hc0 => ?_)
  · skip
    try simp at hc0
    refine awp_sr rfl fun K hK => ?_
    simp -dsimp
    refine hK _ _ ?_; clear hK K
    exact awp_ret (by simp_all [endsN])
  · skip
    try simp at hc0
    refine awp_sr rfl fun K hK => ?_
    simp -dsimp
    refine hK _ _ ?_; clear hK K
    refine awp_cond rfl (fun hc1 => ?_) (fun hc1 => ?_)
    · skip
      try simp at hc1
      refine awp_sr rfl fun K hK => ?_
      simp -dsimp
      refine hK _ _ ?_; clear hK K
      exact awp_ret (by simp_all [endsN])
    · skip
      try simp at hc1
      refine awp_sr rfl fun K hK => ?_
      simp -dsimp
      refine hK _ _ ?_; clear hK K
      refine awp_cond rfl (fun hc2 => ?_) (fun hc2 => ?_)
      · skip
        try simp at hc2
        refine awp_sr rfl fun K hK => ?_
        simp -dsimp
        refine hK _ _ ?_; clear hK K
        exact awp_ret (by simp_all [endsN])
      · skip
        try simp at hc2
        refine awp_seq_k fun K2 hK2 => ?_
        refine awp_sr rfl fun K hK => ?_
        simp -dsimp
        refine hK _ _ ?_; clear hK K
        refine awp_cond rfl (fun hc3 => ?_) (fun hc3 => ?_)
        · skip
          try simp at hc3
          refine awp_skip ?_
          simp only [thenA, inBlockA, reduceIte, Nat.reduceEqDiff, eq_self]
          refine hK2 _ _ ?_
          refine awp_prune [10] ?_
          simp only [prune, List.map_cons, List.map_nil, Go.AM.look, Nat.reduceEqDiff, reduceIte]
          refine awp_cond rfl (fun hc5 => ?_) (fun hc5 => ?_)
          · skip
            try simp at hc5
            refine awp_sr rfl fun K hK => ?_
            simp -dsimp
            refine hK _ _ ?_; clear hK K
            exact awp_ret (by simp_all [endsN])
          · skip
            try simp at hc5
            refine awp_skip ?_
            simp only [thenA, inBlockA, reduceIte, Nat.reduceEqDiff, eq_self]
            refine hK1 _ _ ?_
            refine awp_prune [] ?_
            simp only [prune, List.map_cons, List.map_nil, Go.AM.look, Nat.reduceEqDiff, reduceIte]
            refine awp_sr rfl fun K hK => ?_
            simp -dsimp
            refine hK _ _ ?_; clear hK K
            exact awp_ret (by simp_all [endsN])
        · skip
          try simp at hc3
          refine awp_sr rfl fun K hK => ?_
          simp -dsimp
          refine hK _ _ ?_; clear hK K
          refine awp_cond rfl (fun hc4 => ?_) (fun hc4 => ?_)
          · skip
            try simp at hc4
            refine awp_skip ?_
            simp only [thenA, inBlockA, reduceIte, Nat.reduceEqDiff, eq_self]
            refine hK2 _ _ ?_
            refine awp_prune [10] ?_
            simp only [prune, List.map_cons, List.map_nil, Go.AM.look, Nat.reduceEqDiff, reduceIte]
            refine awp_cond rfl (fun hc5 => ?_) (fun hc5 => ?_)
            · skip
              try simp at hc5
              refine awp_sr rfl fun K hK => ?_
              simp -dsimp
              refine hK _ _ ?_; clear hK K
              exact awp_ret (by simp_all [endsN])
            · skip
              try simp at hc5
              refine awp_skip ?_
              simp only [thenA, inBlockA, reduceIte, Nat.reduceEqDiff, eq_self]
              refine hK1 _ _ ?_
              refine awp_prune [] ?_
              simp only [prune, List.map_cons, List.map_nil, Go.AM.look, Nat.reduceEqDiff, reduceIte]
              refine awp_sr rfl fun K hK => ?_
              simp -dsimp
              refine hK _ _ ?_; clear hK K
              exact awp_ret (by simp_all [endsN])
          · skip
            try simp at hc4
            refine awp_r rfl fun K hK => ?_
            simp -dsimp
            refine hK _ _ ?_; clear hK K
            simp only [thenA, inBlockA, reduceIte, Nat.reduceEqDiff, eq_self]
            refine hK2 _ _ ?_
            refine awp_prune [10] ?_
            simp only [prune, List.map_cons, List.map_nil, Go.AM.look, Nat.reduceEqDiff, reduceIte]
            refine awp_cond rfl (fun hc5 => ?_) (fun hc5 => ?_)
            · skip
              try simp at hc5
              refine awp_sr rfl fun K hK => ?_
              simp -dsimp
              refine hK _ _ ?_; clear hK K
              exact awp_ret (by simp_all [endsN])
            · skip
              try simp at hc5
              refine awp_skip ?_
              simp only [thenA, inBlockA, reduceIte, Nat.reduceEqDiff, eq_self]
              refine hK1 _ _ ?_
              refine awp_prune [] ?_
              simp only [prune, List.map_cons, List.map_nil, Go.AM.look, Nat.reduceEqDiff, reduceIte]
              refine awp_sr rfl fun K hK => ?_
              simp -dsimp
              refine hK _ _ ?_; clear hK K
              exact awp_ret (by simp_all [endsN])
end Go.Tram
