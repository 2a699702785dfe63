/- Walks: the plane of the sweep. -/
import Derived.Test.YteodgilndjjgdaaGreatW7
namespace Go.Tram
open Go.AM Go.Proofs
set_option maxRecDepth 10000
set_option maxHeartbeats 4000000
set_option linter.unusedVariables false
set_option linter.unusedSimpArgs false

/-- A way from a spot to another one. -/
@[simp] def vec (a b : Spot) : AV := .agg [I (b.X - a.X), I (b.Y - a.Y)]

theorem spot_diff {a b : Spot} (ha : spotB a = true) (hb : spotB b = true) : (-20000000 ≤ b.X - a.X ∧ b.X - a.X ≤ 20000000) ∧ (-20000000 ≤ b.Y - a.Y ∧ b.Y - a.Y ≤ 20000000) := by
  rw [spotB_iff] at ha hb
  omega

theorem c_from (a b : Spot) (ha : spotB a = true) (hb : spotB b = true) : PureCall Tryz.prog 44 [a.av, b.av] (vec a b) := by
  have hd := spot_diff ha hb
  have w1 : IntKind.i64.wrap (b.X - a.X) = b.X - a.X := wrap_in (by omega) (by omega)
  have w2 : IntKind.i64.wrap (b.Y - a.Y) = b.Y - a.Y := wrap_in (by omega) (by omega)
  refine PureCall.of_body Tryz.func44 rfl (by decide) (by simp [Tryz.ntmps44]) ?_
  simp only [Tryz.ntmps44, Tryz.results44]
  refine awp_sr rfl fun K hK => ?_
  simp -dsimp
  refine hK _ _ ?_; clear hK K
  refine awp_sr rfl fun K hK => ?_
  simp -dsimp [w1, w2]
  refine hK _ _ ?_; clear hK K
  exact awp_ret (by simp)

theorem c_dot (a b c d : Spot) (ha : spotB a = true) (hb : spotB b = true) (hc : spotB c = true) (hd : spotB d = true) : PureCall Tryz.prog 46 [vec a b, vec c d] (I (dotS a b c d)) := by
  have h1 := spot_diff ha hb
  have h2 := spot_diff hc hd
  have m1 := mul_bd (a := b.X - a.X) (b := d.X - c.X) (A := 20000000) (B := 20000000) (by omega) (by omega) (by omega) (by omega)
  have m2 := mul_bd (a := b.Y - a.Y) (b := d.Y - c.Y) (A := 20000000) (B := 20000000) (by omega) (by omega) (by omega) (by omega)
  have w1 : IntKind.i64.wrap ((b.X - a.X) * (d.X - c.X)) = (b.X - a.X) * (d.X - c.X) := wrap_in (by omega) (by omega)
  have w2 : IntKind.i64.wrap ((b.Y - a.Y) * (d.Y - c.Y)) = (b.Y - a.Y) * (d.Y - c.Y) := wrap_in (by omega) (by omega)
  have w3 : IntKind.i64.wrap ((b.X - a.X) * (d.X - c.X) + (b.Y - a.Y) * (d.Y - c.Y)) = dotS a b c d := wrap_in (by omega) (by omega)
  refine PureCall.of_body Tryz.func46 rfl (by decide) (by simp [Tryz.ntmps46]) ?_
  simp only [Tryz.ntmps46, Tryz.results46]
  refine awp_sr rfl fun K hK => ?_
  simp -dsimp
  refine hK _ _ ?_; clear hK K
  refine awp_sr rfl fun K hK => ?_
  simp -dsimp [w1, w2, w3]
  refine hK _ _ ?_; clear hK K
  exact awp_ret (by simp)

theorem c_cross (a b c d : Spot) (ha : spotB a = true) (hb : spotB b = true) (hc : spotB c = true) (hd : spotB d = true) : PureCall Tryz.prog 66 [vec a b, vec c d] (I (crossS a b c d)) := by
  have h1 := spot_diff ha hb
  have h2 := spot_diff hc hd
  have m1 := mul_bd (a := b.X - a.X) (b := d.Y - c.Y) (A := 20000000) (B := 20000000) (by omega) (by omega) (by omega) (by omega)
  have m2 := mul_bd (a := b.Y - a.Y) (b := d.X - c.X) (A := 20000000) (B := 20000000) (by omega) (by omega) (by omega) (by omega)
  have w1 : IntKind.i64.wrap ((b.X - a.X) * (d.Y - c.Y)) = (b.X - a.X) * (d.Y - c.Y) := wrap_in (by omega) (by omega)
  have w2 : IntKind.i64.wrap ((b.Y - a.Y) * (d.X - c.X)) = (b.Y - a.Y) * (d.X - c.X) := wrap_in (by omega) (by omega)
  have w3 : IntKind.i64.wrap ((b.X - a.X) * (d.Y - c.Y) - (b.Y - a.Y) * (d.X - c.X)) = crossS a b c d := wrap_in (by omega) (by omega)
  refine PureCall.of_body Tryz.func66 rfl (by decide) (by simp [Tryz.ntmps66]) ?_
  simp only [Tryz.ntmps66, Tryz.results66]
  refine awp_sr rfl fun K hK => ?_
  simp -dsimp
  refine hK _ _ ?_; clear hK K
  refine awp_sr rfl fun K hK => ?_
  simp -dsimp [w1, w2, w3]
  refine hK _ _ ?_; clear hK K
  exact awp_ret (by simp)

theorem c_straight (a b c d : Spot) (ha : spotB a = true) (hb : spotB b = true) (hc : spotB c = true) (hd : spotB d = true) : PureCall Tryz.prog 43 [vec a b, vec c d] (Bo (decide (crossS a b c d = 0) && decide (0 < dotS a b c d))) := by
  refine PureCall.of_body Tryz.func43 rfl (by decide) (by simp [Tryz.ntmps43]) ?_
  simp only [Tryz.ntmps43, Tryz.results43]
  refine awp_sr rfl fun K hK => ?_
  simp -dsimp
  refine hK _ _ ?_; clear hK K
  refine awp_sr rfl fun K hK => ?_
  simp -dsimp
  refine callK_intro _ (c_cross a b c d ha hb hc hd) (by simp) ?_
  simp -dsimp
  refine callK_may _ (fun hm => c_dot a b c d ha hb hc hd) (by simp) ?_
  simp -dsimp
  refine hK _ _ ?_; clear hK K
  exact awp_ret (by simp; rfl)

/-- Bisection by a predicate that is handed over. -/
theorem c_greatest (B : Int) (f : FuncId) (cl : List (List AV)) (q : Int → Bool) (hB : 0 ≤ B) (hB' : B ≤ 1000000000) (h : ∀ x, 0 ≤ x → x ≤ B → PureCall Tryz.prog f (I x :: ipts cl) (Bo (q x))) :
    PureCall Tryz.prog 53 [I B, .clo f (ipts cl)] (I (bis q (B + 1).toNat 0 (B + 1))) := by
  have w0 : IntKind.i64.wrap (B + 1) = B + 1 := wrap_in (by omega) (by omega)
  refine PureCall.of_body Tryz.func53 rfl (by decide) (by simp [Tryz.ntmps53]) ?_
  simp only [Tryz.ntmps53, Tryz.results53]
  refine awp_sr rfl fun K hK => ?_
  simp -dsimp
  refine hK _ _ ?_; clear hK K
  refine awp_sr rfl fun K hK => ?_
  simp -dsimp [w0]
  refine hK _ _ ?_; clear hK K
  refine awp_seq_k fun K1 hK1 => ?_
  refine awp_block ?_
  refine awp_prune [1, 5, 6] ?_
  simp only [prune, List.map_cons, List.map_nil, Go.AM.look, Nat.reduceEqDiff, reduceIte]
  refine awp_loop_l [1] (α := Int × Int) (fun x => [(5, I x.1), (6, I x.2)]) (fun x => []) (fun x => 0 ≤ x.1 ∧ x.1 < x.2 ∧ x.2 ≤ B + 1 ∧ bis q (B + 1).toNat 0 (B + 1) = bis q (B + 1).toNat x.1 x.2) (fun x => (x.2 - x.1).toNat) (0, B + 1) ?_ ?_ ?_
  · simp; omega
  · exact sub_same (by simp)
  rintro ⟨lo, hi⟩ ⟨i1, i2, i3, i4⟩
  simp only [] at i1 i2 i3 i4
  have w1 : IntKind.i64.wrap (hi - lo) = hi - lo := wrap_in (by omega) (by omega)
  have w2 : IntKind.i64.wrap (lo + hi) = lo + hi := wrap_in (by omega) (by omega)
  have w3 : (lo + hi).tdiv 2 = (lo + hi) / 2 := Int.tdiv_eq_ediv_of_nonneg (by omega)
  have w4 : IntKind.i64.wrap ((lo + hi) / 2) = (lo + hi) / 2 := wrap_in (by omega) (by omega)
  simp only [List.cons_append, List.nil_append, prune, List.map_cons, List.map_nil, Go.AM.look, Nat.reduceEqDiff, reduceIte]
  refine awp_seq_k fun K2 hK2 => ?_
  refine awp_sr rfl fun K hK => ?_
  simp -dsimp [w1]
  refine hK _ _ ?_; clear hK K
  refine awp_cond rfl (fun hc0 => ?_) (fun hc0 => ?_)
  · skip
    try simp at hc0
    have hstep : bis q (B + 1).toNat lo hi = if q ((lo + hi) / 2) then bis q (B + 1).toNat ((lo + hi) / 2) hi else bis q (B + 1).toNat lo ((lo + hi) / 2) := by
      rw [bis_more (B + 1).toNat ((B + 1).toNat + 1) lo hi (by omega) (by omega)]
      conv => lhs; unfold bis
      rw [if_pos (by omega)]
    refine awp_skip ?_
    simp only [thenA, inBlockA, reduceIte, Nat.reduceEqDiff, eq_self]
    refine hK2 _ _ ?_
    refine awp_prune [1, 5, 6] ?_
    simp only [prune, List.map_cons, List.map_nil, Go.AM.look, Nat.reduceEqDiff, reduceIte]
    refine awp_block ?_
    refine awp_sr rfl fun K hK => ?_
    simp -dsimp [w2, w3, w4]
    refine hK _ _ ?_; clear hK K
    refine awp_sr rfl fun K hK => ?_
    simp -dsimp
    refine callK_intro _ (h ((lo + hi) / 2) (by omega) (by omega)) (by simp) ?_
    simp -dsimp
    refine hK _ _ ?_; clear hK K
    refine awp_cond rfl (fun hc1 => ?_) (fun hc1 => ?_)
    · skip
      try simp at hc1
      have hs2 : bis q (B + 1).toNat 0 (B + 1) = bis q (B + 1).toNat ((lo + hi) / 2) hi := by rw [i4, hstep, if_pos hc1]
      refine awp_r rfl fun K hK => ?_
      simp -dsimp
      refine hK _ _ ?_; clear hK K
      simp only [thenA, inBlockA, reduceIte, Nat.reduceEqDiff, eq_self]
      exact ⟨((lo + hi) / 2, hi), ⟨by simp only []; omega, by simp only []; omega, by simp only []; omega, hs2⟩, by simp only []; omega, sub_same (by simp)⟩
    · skip
      try simp at hc1
      have hs3 : bis q (B + 1).toNat 0 (B + 1) = bis q (B + 1).toNat lo ((lo + hi) / 2) := by rw [i4, hstep, if_neg (by rw [hc1]; simp)]
      refine awp_r rfl fun K hK => ?_
      simp -dsimp
      refine hK _ _ ?_; clear hK K
      simp only [thenA, inBlockA, reduceIte, Nat.reduceEqDiff, eq_self]
      exact ⟨(lo, (lo + hi) / 2), ⟨by simp only []; omega, by simp only []; omega, by simp only []; omega, hs3⟩, by simp only []; omega, sub_same (by simp)⟩
  · skip
    try simp at hc0
    refine awp_exit ?_
    simp only [thenA, inBlockA, reduceIte, Nat.reduceEqDiff, eq_self]
    refine hK1 _ _ ?_
    refine awp_prune [5] ?_
    simp only [prune, List.map_cons, List.map_nil, Go.AM.look, Nat.reduceEqDiff, reduceIte]
    refine awp_sr rfl fun K hK => ?_
    simp -dsimp
    refine hK _ _ ?_; clear hK K
    refine awp_ret ?_
    have hb : bis q (B + 1).toNat 0 (B + 1) = lo := by rw [i4, bis_stop (by omega)]
    simp [hb]

theorem c_root1 (x n : Int) (h0 : 0 ≤ x) (h1 : x ≤ 30000000) : PureCall Tryz.prog 67 [I x, .iptr [I n]] (Bo (decide (x * x ≤ n))) := by
  have b1 := mul_bd (a := x) (b := x) (A := 30000000) (B := 30000000) (by omega) (by omega) (by omega) (by omega)
  have w1 : IntKind.i64.wrap (x * x) = x * x := wrap_in (by omega) (by omega)
  refine PureCall.of_body Tryz.func67 rfl (by decide) (by simp [Tryz.ntmps67]) ?_
  simp only [Tryz.ntmps67, Tryz.results67]
  refine awp_sr rfl fun K hK => ?_
  simp -dsimp
  refine hK _ _ ?_; clear hK K
  refine awp_sr rfl fun K hK => ?_
  simp -dsimp [w1]
  refine hK _ _ ?_; clear hK K
  exact awp_ret (by simp)

theorem c_sroot (n : Int) (h0 : 0 ≤ n) (h1 : n < 900000000000000) : PureCall Tryz.prog 45 [I n] (I (isq n)) := by
  have hq : bis (fun x => decide (x * x ≤ n)) (30000000 + 1 : Int).toNat 0 (30000000 + 1) = isq n := by
    obtain ⟨k1, k2, k3, k4⟩ := bis_spec (f := fun x => decide (x * x ≤ n)) (30000000 + 1 : Int).toNat 0 (30000000 + 1) (by omega) (by omega)
    generalize bis (fun x => decide (x * x ≤ n)) (30000000 + 1 : Int).toNat 0 (30000000 + 1) = r at *
    refine (isq_of ⟨k1, ?_, ?_⟩).symm
    · rcases k3 with rfl | k3
      · omega
      · simpa using k3
    · rcases k4 with k4 | k4
      · rw [k4]; omega
      · simpa using k4
  refine PureCall.of_body Tryz.func45 rfl (by decide) (by simp [Tryz.ntmps45]) ?_
  simp only [Tryz.ntmps45, Tryz.results45]
  refine awp_sr rfl fun K hK => ?_
  simp -dsimp
  refine hK _ _ ?_; clear hK K
  refine awp_sr rfl fun K hK => ?_
  simp -dsimp
  refine callK_intro _ (c_greatest 30000000 67 [[I n]] (fun x => decide (x * x ≤ n)) (by omega) (by omega) (fun x h0 h1 => c_root1 x n h0 h1)) (by simp) ?_
  simp -dsimp
  refine hK _ _ ?_; clear hK K
  have hq' := hq
  simp at hq'
  exact awp_ret (by simp [hq'])

abbrev U (n : Int) : AV := .v (.int .u64 n)
theorem u64_in {n : Int} (h0 : 0 ≤ n) (h1 : n < 18446744073709551616) : IntKind.u64.wrap n = n := by rw [IntKind.wrap_u64]; omega

theorem c_Mul64 (x y : Int) (hx : 0 ≤ x) (hx' : x < 18446744073709551616) (hy : 0 ≤ y) (hy' : y < 18446744073709551616) :
    PureCall Tryz.prog 105 [U x, U y] (.tup [U (x * y / 18446744073709551616), U (x * y % 18446744073709551616)]) := by
  have hi := mul_hi hx hx' hy hy'
  have hxy := mul_range hx hx' hy hy'
  have a1 := mul_range (a := x / 4294967296) (b := y / 4294967296) (A := 4294967296) (B := 4294967296) (by omega) (by omega) (by omega) (by omega)
  have a2 := mul_range (a := x / 4294967296) (b := y % 4294967296) (A := 4294967296) (B := 4294967296) (by omega) (by omega) (by omega) (by omega)
  have a3 := mul_range (a := x % 4294967296) (b := y / 4294967296) (A := 4294967296) (B := 4294967296) (by omega) (by omega) (by omega) (by omega)
  have a4 := mul_range (a := x % 4294967296) (b := y % 4294967296) (A := 4294967296) (B := 4294967296) (by omega) (by omega) (by omega) (by omega)
  have m1 := mask32 hx hx'
  have m2 := mask32 hy hy'
  have wlo : IntKind.u64.wrap (x * y) = x * y % 18446744073709551616 := by rw [IntKind.wrap_u64]
  generalize hp : (x / 4294967296) * (y / 4294967296) = p at *
  generalize hq : (x / 4294967296) * (y % 4294967296) = q at *
  generalize hr : (x % 4294967296) * (y / 4294967296) = r at *
  generalize hs : (x % 4294967296) * (y % 4294967296) = s at *
  have w1 : IntKind.u64.wrap s = s := u64_in (by omega) (by omega)
  have w2 : IntKind.u64.wrap q = q := u64_in (by omega) (by omega)
  have w3 : IntKind.u64.wrap r = r := u64_in (by omega) (by omega)
  have w4 : IntKind.u64.wrap p = p := u64_in (by omega) (by omega)
  have w5 : IntKind.u64.wrap (q + s / 4294967296) = q + s / 4294967296 := u64_in (by omega) (by omega)
  have m3 := mask32 (m := q + s / 4294967296) (by omega) (by omega)
  have w6 : IntKind.u64.wrap ((q + s / 4294967296) % 4294967296 + r) = (q + s / 4294967296) % 4294967296 + r := u64_in (by omega) (by omega)
  have w7 : IntKind.u64.wrap (p + (q + s / 4294967296) / 4294967296) = p + (q + s / 4294967296) / 4294967296 := u64_in (by omega) (by omega)
  have w8 : IntKind.u64.wrap (p + (q + s / 4294967296) / 4294967296 + ((q + s / 4294967296) % 4294967296 + r) / 4294967296) = x * y / 18446744073709551616 := by rw [hi]; exact u64_in (by omega) (by omega)
  have sh : (2 : Int) ^ (Int.toNat 32) = 4294967296 := by decide
  refine PureCall.of_body Tryz.func105 rfl (by decide) (by simp [Tryz.ntmps105]) ?_
  simp only [Tryz.ntmps105, Tryz.results105]
  refine awp_sr rfl fun K hK => ?_
  simp -dsimp [m1, m2, m3, hp, hq, hr, hs, w1, w2, w3, w4, w5, w6, w7, w8, wlo, IntKind.bits]
  refine hK _ _ ?_; clear hK K
  refine awp_sr rfl fun K hK => ?_
  simp -dsimp [m1, m2, m3, hp, hq, hr, hs, w1, w2, w3, w4, w5, w6, w7, w8, wlo, IntKind.bits]
  refine hK _ _ ?_; clear hK K
  refine awp_sr rfl fun K hK => ?_
  simp -dsimp [m1, m2, m3, hp, hq, hr, hs, w1, w2, w3, w4, w5, w6, w7, w8, wlo, IntKind.bits]
  refine hK _ _ ?_; clear hK K
  refine awp_sr rfl fun K hK => ?_
  simp -dsimp [m1, m2, m3, hp, hq, hr, hs, w1, w2, w3, w4, w5, w6, w7, w8, wlo, IntKind.bits]
  refine hK _ _ ?_; clear hK K
  refine awp_sr rfl fun K hK => ?_
  simp -dsimp [m1, m2, m3, hp, hq, hr, hs, w1, w2, w3, w4, w5, w6, w7, w8, wlo, IntKind.bits]
  refine hK _ _ ?_; clear hK K
  refine awp_sr rfl fun K hK => ?_
  simp -dsimp [m1, m2, m3, hp, hq, hr, hs, w1, w2, w3, w4, w5, w6, w7, w8, wlo, IntKind.bits]
  refine hK _ _ ?_; clear hK K
  refine awp_sr rfl fun K hK => ?_
  simp -dsimp [m1, m2, m3, hp, hq, hr, hs, w1, w2, w3, w4, w5, w6, w7, w8, wlo, IntKind.bits]
  refine hK _ _ ?_; clear hK K
  refine awp_sr rfl fun K hK => ?_
  simp -dsimp [m1, m2, m3, hp, hq, hr, hs, w1, w2, w3, w4, w5, w6, w7, w8, wlo, IntKind.bits]
  refine hK _ _ ?_; clear hK K
  refine awp_sr rfl fun K hK => ?_
  simp -dsimp [m1, m2, m3, hp, hq, hr, hs, w1, w2, w3, w4, w5, w6, w7, w8, wlo, IntKind.bits]
  refine hK _ _ ?_; clear hK K
  refine awp_sr rfl fun K hK => ?_
  simp -dsimp [m1, m2, m3, hp, hq, hr, hs, w1, w2, w3, w4, w5, w6, w7, w8, wlo, IntKind.bits]
  refine hK _ _ ?_; clear hK K
  refine awp_sr rfl fun K hK => ?_
  simp -dsimp [m1, m2, m3, hp, hq, hr, hs, w1, w2, w3, w4, w5, w6, w7, w8, wlo, IntKind.bits]
  refine hK _ _ ?_; clear hK K
  refine awp_sr rfl fun K hK => ?_
  simp -dsimp [m1, m2, m3, hp, hq, hr, hs, w1, w2, w3, w4, w5, w6, w7, w8, wlo, IntKind.bits]
  refine hK _ _ ?_; clear hK K
  exact awp_ret (by simp)
end Go.Tram
