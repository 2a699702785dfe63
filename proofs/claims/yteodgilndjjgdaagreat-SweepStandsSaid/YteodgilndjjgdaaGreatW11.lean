/- Walks: distances of spots and segments. -/
import Derived.Test.YteodgilndjjgdaaGreatW8
namespace Go.Tram
open Go.AM Go.Proofs
set_option maxRecDepth 10000
set_option maxHeartbeats 4000000
set_option linter.unusedVariables false
set_option linter.unusedSimpArgs false
attribute [-simp] minI maxI

theorem minI_eq (a b : Int) : minI a b = min a b := by unfold minI; split <;> omega
theorem maxI_eq (a b : Int) : maxI a b = max a b := by unfold maxI; split <;> omega

def orI : List Int → Int
  | [] => 0
  | x :: r => if x ≠ 0 then x else orI r
theorem orI_hit : ∀ {l : List Int} {k : Nat} {x : Int}, l[k]? = some x → x ≠ 0 → (l.take k).all (· == 0) = true → orI l = x
  | [], k, x, h, _, _ => by simp at h
  | y :: l, 0, x, h, hx, _ => by simp at h; subst h; simp [orI, hx]
  | y :: l, k + 1, x, h, hx, ha => by
    simp at h ha
    unfold orI
    rw [if_neg (by simp [ha.1])]
    exact orI_hit h hx (by simpa using ha.2)
theorem orI_none : ∀ {l : List Int}, l.all (· == 0) = true → orI l = 0
  | [], _ => rfl
  | y :: l, ha => by
    simp at ha
    unfold orI
    rw [if_neg (by simp [ha.1])]
    exact orI_none (by simpa using ha.2)

theorem c_Or (l : List Int) (hn : l.length ≤ 1000) : PureCall Tryz.prog 106 [.full 1 (l.map fun x => [I x])] (I (orI l)) := by
  refine PureCall.of_body Tryz.func106 rfl (by decide) (by simp [Tryz.ntmps106]) ?_
  simp only [Tryz.ntmps106, Tryz.results106]
  refine awp_sr rfl fun K hK => ?_
  simp -dsimp
  refine hK _ _ ?_; clear hK K
  refine awp_sr rfl fun K hK => ?_
  simp -dsimp
  refine hK _ _ ?_; clear hK K
  refine awp_seq_k fun K1 hK1 => ?_
  refine awp_sr rfl fun K hK => ?_
  simp -dsimp
  refine hK _ _ ?_; clear hK K
  refine awp_block ?_
  refine awp_prune [3, 6, 7, 8] ?_
  simp only [prune, List.map_cons, List.map_nil, Go.AM.look, Nat.reduceEqDiff, reduceIte]
  refine awp_loop_l [3, 6, 7] (α := Nat) (fun k => [(8, I k)]) (fun _ => []) (fun k => k ≤ l.length ∧ (l.take k).all (· == 0) = true) (fun k => l.length - k) 0 ?_ ?_ ?_
  · simp
  · exact sub_same (by simp)
  rintro k ⟨k1, k2⟩
  simp only [List.cons_append, List.nil_append, prune, List.map_cons, List.map_nil, Go.AM.look, Nat.reduceEqDiff, reduceIte]
  refine awp_sr rfl fun K hK => ?_
  simp -dsimp
  refine hK _ _ ?_; clear hK K
  refine awp_seq_k fun K2 hK2 => ?_
  refine awp_cond rfl (fun hc0 => ?_) (fun hc0 => ?_)
  · skip
    try simp at hc0
    obtain ⟨x, hx⟩ : ∃ x, l[k]? = some x := ⟨_, List.getElem?_eq_getElem hc0⟩
    have wk : IntKind.i64.wrap ((k : Int) + 1) = (k : Int) + 1 := wrap_in (by omega) (by omega)
    refine awp_skip ?_
    simp only [thenA, inBlockA, reduceIte, Nat.reduceEqDiff, eq_self]
    refine hK2 _ _ ?_
    refine awp_prune [3, 6, 7, 8] ?_
    simp only [prune, List.map_cons, List.map_nil, Go.AM.look, Nat.reduceEqDiff, reduceIte]
    refine awp_seq_k fun K3 hK3 => ?_
    refine awp_block ?_
    refine awp_sr rfl fun K hK => ?_
    simp -dsimp [hx]
    refine hK _ _ ?_; clear hK K
    refine awp_sr rfl fun K hK => ?_
    simp -dsimp
    refine hK _ _ ?_; clear hK K
    refine awp_cond rfl (fun hc1 => ?_) (fun hc1 => ?_)
    · skip
      try simp at hc1
      have ho := orI_hit hx hc1 k2
      refine awp_sr rfl fun K hK => ?_
      simp -dsimp
      refine hK _ _ ?_; clear hK K
      exact awp_ret (by simp [ho])
    · skip
      try simp at hc1
      refine awp_skip ?_
      simp only [thenA, inBlockA, reduceIte, Nat.reduceEqDiff, eq_self]
      refine hK3 _ _ ?_
      refine awp_prune [3, 6, 7, 8] ?_
      simp only [prune, List.map_cons, List.map_nil, Go.AM.look, Nat.reduceEqDiff, reduceIte]
      refine awp_r rfl fun K hK => ?_
      simp -dsimp [wk]
      refine hK _ _ ?_; clear hK K
      simp only [thenA, inBlockA, reduceIte, Nat.reduceEqDiff, eq_self]
      exact ⟨k + 1, ⟨by omega, by rw [take_all' hx, k2]; simp [hc1]⟩, by omega, sub_same (by simp)⟩
  · skip
    try simp at hc0
    have ho := orI_none (all_of_take (by omega) k2)
    refine awp_exit ?_
    simp only [thenA, inBlockA, reduceIte, Nat.reduceEqDiff, eq_self]
    refine hK1 _ _ ?_
    refine awp_prune [3] ?_
    simp only [prune, List.map_cons, List.map_nil, Go.AM.look, Nat.reduceEqDiff, reduceIte]
    refine awp_sr rfl fun K hK => ?_
    simp -dsimp
    refine hK _ _ ?_; clear hK K
    exact awp_ret (by simp [ho])

theorem und_u64 : (Tryz.prog).underlying 158 = some (.int .u64) := by kernel_rfl
theorem conv_iu (n : Int) (w : World) : (convert 3 158 (.int .i64 n)).run Tryz.prog w = .ok (.int .u64 (IntKind.u64.wrap n)) w := by
  simp [convert, run_underlying und_int, run_underlying und_u64, Conv.intToInt]

theorem c_product (a b : Int) (ha : 0 ≤ a) (ha' : a < 9223372036854775808) (hb : 0 ≤ b) (hb' : b < 9223372036854775808) :
    PureCall Tryz.prog 93 [I a, I b] (.agg [U (a * b / 18446744073709551616), U (a * b % 18446744073709551616)]) := by
  have wa : IntKind.u64.wrap a = a := u64_in (by omega) (by omega)
  have wb : IntKind.u64.wrap b = b := u64_in (by omega) (by omega)
  refine PureCall.of_body Tryz.func93 rfl (by decide) (by simp [Tryz.ntmps93]) ?_
  simp only [Tryz.ntmps93, Tryz.results93]
  refine awp_sr rfl fun K hK => ?_
  simp -dsimp
  refine hK _ _ ?_; clear hK K
  refine awp_sr rfl fun K hK => ?_
  simp -dsimp
  refine ⟨_, conv_iu a, ?_⟩
  simp -dsimp [wa]
  refine ⟨_, conv_iu b, ?_⟩
  simp -dsimp [wb]
  refine callK_intro _ (c_Mul64 a b ha (by omega) hb (by omega)) (by simp) ?_
  simp -dsimp
  refine hK _ _ ?_; clear hK K
  refine awp_sr rfl fun K hK => ?_
  simp -dsimp
  refine hK _ _ ?_; clear hK K
  exact awp_ret (by simp)

theorem c_wcompare (p q : Int) : PureCall Tryz.prog 94 [.agg [U (p / 18446744073709551616), U (p % 18446744073709551616)], .agg [U (q / 18446744073709551616), U (q % 18446744073709551616)]] (I (cmpI p q)) := by
  have ho : orI [cmpI (p / 18446744073709551616) (q / 18446744073709551616), cmpI (p % 18446744073709551616) (q % 18446744073709551616)] = cmpI p q := by
    rw [← cmp_words (p := p) (q := q) 18446744073709551616 (by omega)]
    simp only [orI]
    split
    · rfl
    · split
      · rfl
      · rename_i h; simp at h; exact h.symm
  have hc := c_Or [cmpI (p / 18446744073709551616) (q / 18446744073709551616), cmpI (p % 18446744073709551616) (q % 18446744073709551616)] (by simp)
  rw [ho] at hc
  refine PureCall.of_body Tryz.func94 rfl (by decide) (by simp [Tryz.ntmps94]) ?_
  simp only [Tryz.ntmps94, Tryz.results94]
  refine awp_sr rfl fun K hK => ?_
  simp -dsimp
  refine hK _ _ ?_; clear hK K
  refine awp_sd mixed rfl fun K hK => ?_
  simp -dsimp
  refine callK_intro _ (c_Compareu _ _) (by simp) ?_
  simp -dsimp
  refine callK_intro _ (c_Compareu _ _) (by simp) ?_
  simp -dsimp
  refine callK_intro _ (hc) (by simp) ?_
  simp -dsimp
  refine hK _ _ _ (by decide +kernel) ?_; clear hK K
  exact awp_ret (by simp)

@[simp] def segC (a b : Spot) : List AV := [I a.X, I a.Y, I b.X, I b.Y]
abbrev seg (a b : Spot) : AV := .agg (segC a b)

theorem c_side (a b p : Spot) (ha : spotB a = true) (hb : spotB b = true) (hp : spotB p = true) : PureCall Tryz.prog 91 [seg a b, p.av] (I (sideS a b p)) := by
  refine PureCall.of_body Tryz.func91 rfl (by decide) (by simp [Tryz.ntmps91]) ?_
  simp only [Tryz.ntmps91, Tryz.results91]
  refine awp_sr rfl fun K hK => ?_
  simp -dsimp
  refine hK _ _ ?_; clear hK K
  refine awp_sd mixed rfl fun K hK => ?_
  simp -dsimp
  refine callK_intro _ (c_from a b ha hb) (by simp) ?_
  simp -dsimp
  refine callK_intro _ (c_from a p ha hp) (by simp) ?_
  simp -dsimp
  refine callK_intro _ (c_cross a b a p ha hb ha hp) (by simp) ?_
  simp -dsimp
  refine callK_intro _ (c_Compare _ _) (by simp) ?_
  simp -dsimp
  refine hK _ _ _ (by decide +kernel) ?_; clear hK K
  exact awp_ret (by simp [sideS])

theorem c_crosses (a b c d : Spot) (ha : spotB a = true) (hb : spotB b = true) (hc : spotB c = true) (hd : spotB d = true) : PureCall Tryz.prog 74 [seg a b, seg c d] (Bo (crossing a b c d)) := by
  have w : ∀ {x y : Int}, -1 ≤ x ∧ x ≤ 1 → -1 ≤ y ∧ y ≤ 1 → IntKind.i64.wrap (x * y) = x * y := by
    intro x y hx hy
    have := mul_bd (a := x) (b := y) (A := 1) (B := 1) hx.1 hx.2 hy.1 hy.2
    exact wrap_in (by omega) (by omega)
  have w1 : IntKind.i64.wrap (sideS a b c * sideS a b d) = sideS a b c * sideS a b d := w cmpI_bd cmpI_bd
  have w2 : IntKind.i64.wrap (sideS c d a * sideS c d b) = sideS c d a * sideS c d b := w cmpI_bd cmpI_bd
  refine PureCall.of_body Tryz.func74 rfl (by decide) (by simp [Tryz.ntmps74]) ?_
  simp only [Tryz.ntmps74, Tryz.results74]
  refine awp_sr rfl fun K hK => ?_
  simp -dsimp
  refine hK _ _ ?_; clear hK K
  refine awp_sd mixed rfl fun K hK => ?_
  simp -dsimp [w1, w2]
  refine callK_intro _ (c_side a b c ha hb hc) (by simp) ?_
  simp -dsimp [w1, w2]
  refine callK_intro _ (c_side a b d ha hb hd) (by simp) ?_
  simp -dsimp [w1, w2]
  refine callK_may _ (fun hm => c_side c d a hc hd ha) (by simp) ?_
  simp -dsimp [w1, w2]
  refine callK_may _ (fun hm => c_side c d b hc hd hb) (by simp) ?_
  simp -dsimp [w1, w2]
  refine hK _ _ _ (by decide +kernel) ?_; clear hK K
  exact awp_ret (by simp [crossing])

theorem c_spotted (a b p : Spot) (d : Int) (ha : spotB a = true) (hb : spotB b = true) (hp : spotB p = true) (h0 : 0 ≤ d) (h1 : d ≤ 1000000) : PureCall Tryz.prog 76 [seg a b, p.av, I d] (I (spotted a b p d)) := by
  have m1 := mul_bd (a := d) (b := d) (A := 1000000) (B := 1000000) (by omega) (by omega) (by omega) (by omega)
  have hdd := sq_nn d
  have w1 : IntKind.i64.wrap (d * d) = d * d := wrap_in (by omega) (by omega)
  have hl := dotS_bd ha hb ha hb
  have hl0 := dotS_nn a b
  have hc := crossS_bd ha hb ha hp
  have w2 : IntKind.i64.wrap (0 - crossS a b a p) = -crossS a b a p := by rw [wrap_in (by omega) (by omega)]; omega
  have w2' : IntKind.i64.wrap (-crossS a b a p) = -crossS a b a p := wrap_in (by omega) (by omega)
  have hm : max (crossS a b a p) (-crossS a b a p) * max (crossS a b a p) (-crossS a b a p) = crossS a b a p * crossS a b a p := by
    rcases Int.le_total (crossS a b a p) (-crossS a b a p) with h | h
    · rw [Int.max_eq_right h, Int.neg_mul_neg]
    · rw [Int.max_eq_left h]
  refine PureCall.of_body Tryz.func76 rfl (by decide) (by simp [Tryz.ntmps76]) ?_
  simp only [Tryz.ntmps76, Tryz.results76]
  refine awp_sr rfl fun K hK => ?_
  simp -dsimp
  refine hK _ _ ?_; clear hK K
  refine awp_sd mixed rfl fun K hK => ?_
  simp -dsimp
  refine callK_intro _ (c_from a b ha hb) (by simp) ?_
  simp -dsimp
  refine callK_intro _ (c_from a p ha hp) (by simp) ?_
  simp -dsimp
  refine hK _ _ _ (by decide +kernel) ?_; clear hK K
  refine awp_sr rfl fun K hK => ?_
  simp -dsimp
  refine callK_intro _ (c_dot a b a p ha hb ha hp) (by simp) ?_
  simp -dsimp
  refine hK _ _ ?_; clear hK K
  refine awp_seq_k fun K1 hK1 => ?_
  refine awp_block ?_
  refine awp_sr rfl fun K hK => ?_
  simp -dsimp
  refine hK _ _ ?_; clear hK K
  refine awp_cond rfl (fun hc0 => ?_) (fun hc0 => ?_)
  · skip
    try simp at hc0
    refine awp_sr rfl fun K hK => ?_
    simp -dsimp [w1]
    refine callK_intro _ (c_dot a p a p ha hp ha hp) (by simp) ?_
    simp -dsimp [w1]
    refine callK_intro _ (c_Compare _ _) (by simp) ?_
    simp -dsimp [w1]
    refine hK _ _ ?_; clear hK K
    exact awp_ret (by simp [spotted, hc0])
  · skip
    try simp at hc0
    have hc0' : ¬ dotS a b a p ≤ 0 := by omega
    refine awp_sr rfl fun K hK => ?_
    simp -dsimp
    refine callK_intro _ (c_dot a b a b ha hb ha hb) (by simp) ?_
    simp -dsimp
    refine hK _ _ ?_; clear hK K
    refine awp_cond rfl (fun hc1 => ?_) (fun hc1 => ?_)
    · skip
      try simp at hc1
      refine awp_sr rfl fun K hK => ?_
      simp -dsimp
      refine callK_intro _ (c_from b p hb hp) (by simp) ?_
      simp -dsimp
      refine hK _ _ ?_; clear hK K
      refine awp_sr rfl fun K hK => ?_
      simp -dsimp [w1]
      refine callK_intro _ (c_dot b p b p hb hp hb hp) (by simp) ?_
      simp -dsimp [w1]
      refine callK_intro _ (c_Compare _ _) (by simp) ?_
      simp -dsimp [w1]
      refine hK _ _ ?_; clear hK K
      exact awp_ret (by simp [spotted, hc0', hc1])
    · skip
      try simp at hc1
      have hc1' : ¬ dotS a b a b ≤ dotS a b a p := by omega
      refine awp_skip ?_
      simp only [thenA, inBlockA, reduceIte, Nat.reduceEqDiff, eq_self]
      refine hK1 _ _ ?_
      refine awp_prune [2, 7, 8] ?_
      simp only [prune, List.map_cons, List.map_nil, Go.AM.look, Nat.reduceEqDiff, reduceIte]
      refine awp_sr rfl fun K hK => ?_
      simp -dsimp
      refine callK_intro _ (c_cross a b a p ha hb ha hp) (by simp) ?_
      simp -dsimp
      refine hK _ _ ?_; clear hK K
      refine awp_sr rfl fun K hK => ?_
      simp -dsimp [w2, w2', maxI_eq]
      refine hK _ _ ?_; clear hK K
      refine awp_sd mixed rfl fun K hK => ?_
      simp -dsimp [w1]
      refine callK_intro _ (c_product (max (crossS a b a p) (-crossS a b a p)) (max (crossS a b a p) (-crossS a b a p)) (by omega) (by omega) (by omega) (by omega)) (by simp) ?_
      simp -dsimp [w1]
      refine callK_intro _ (c_dot a b a b ha hb ha hb) (by simp) ?_
      simp -dsimp [w1]
      refine callK_intro _ (c_product (d * d) (dotS a b a b) hdd (by omega) hl0 (by omega)) (by simp) ?_
      simp -dsimp [w1]
      refine callK_intro _ (c_wcompare _ _) (by simp) ?_
      simp -dsimp [w1]
      refine hK _ _ _ (by decide +kernel) ?_; clear hK K
      exact awp_ret (by simp [spotted, hc0', hc1', hm])

theorem c_apart (a b c d : Spot) (r : Int) (ha : spotB a = true) (hb : spotB b = true) (hc : spotB c = true) (hd : spotB d = true) (h0 : 0 ≤ r) (h1 : r ≤ 1000000) : PureCall Tryz.prog 55 [seg a b, seg c d, I r] (I (apart a b c d r)) := by
  refine PureCall.of_body Tryz.func55 rfl (by decide) (by simp [Tryz.ntmps55]) ?_
  simp only [Tryz.ntmps55, Tryz.results55]
  refine awp_sr rfl fun K hK => ?_
  simp -dsimp
  refine hK _ _ ?_; clear hK K
  refine awp_seq_k fun K1 hK1 => ?_
  refine awp_sr rfl fun K hK => ?_
  simp -dsimp
  refine callK_intro _ (c_crosses a b c d ha hb hc hd) (by simp) ?_
  simp -dsimp
  refine hK _ _ ?_; clear hK K
  refine awp_cond rfl (fun hc0 => ?_) (fun hc0 => ?_)
  · skip
    try simp at hc0
    refine awp_sr rfl fun K hK => ?_
    simp -dsimp
    refine callK_intro _ (c_Compare _ _) (by simp) ?_
    simp -dsimp
    refine hK _ _ ?_; clear hK K
    exact awp_ret (by simp [apart, hc0])
  · skip
    try simp at hc0
    refine awp_skip ?_
    simp only [thenA, inBlockA, reduceIte, Nat.reduceEqDiff, eq_self]
    refine hK1 _ _ ?_
    refine awp_prune [2, 3, 4] ?_
    simp only [prune, List.map_cons, List.map_nil, Go.AM.look, Nat.reduceEqDiff, reduceIte]
    refine awp_sd mixed rfl fun K hK => ?_
    simp -dsimp [minI_eq]
    refine callK_intro _ (c_spotted a b c r ha hb hc h0 h1) (by simp) ?_
    simp -dsimp [minI_eq]
    refine callK_intro _ (c_spotted a b d r ha hb hd h0 h1) (by simp) ?_
    simp -dsimp [minI_eq]
    refine callK_intro _ (c_spotted c d a r hc hd ha h0 h1) (by simp) ?_
    simp -dsimp [minI_eq]
    refine callK_intro _ (c_spotted c d b r hc hd hb h0 h1) (by simp) ?_
    simp -dsimp [minI_eq]
    refine hK _ _ _ (by decide +kernel) ?_; clear hK K
    exact awp_ret (by simp [apart, hc0, min4])

theorem c_gap1 (a b c d : Spot) (r : Int) (ha : spotB a = true) (hb : spotB b = true) (hc : spotB c = true) (hd : spotB d = true) (h0 : 0 ≤ r) (h1 : r ≤ 5000) : PureCall Tryz.prog 54 [I r, .iptr (segC a b), .iptr (segC c d)] (Bo (decide (0 ≤ apart a b c d r))) := by
  refine PureCall.of_body Tryz.func54 rfl (by decide) (by simp [Tryz.ntmps54]) ?_
  simp only [Tryz.ntmps54, Tryz.results54]
  refine awp_sr rfl fun K hK => ?_
  simp -dsimp
  refine hK _ _ ?_; clear hK K
  refine awp_sr rfl fun K hK => ?_
  simp -dsimp
  refine callK_intro _ (c_apart a b c d r ha hb hc hd h0 (by omega)) (by simp) ?_
  simp -dsimp
  refine hK _ _ ?_; clear hK K
  exact awp_ret (by simp)

theorem c_gap (a b c d : Spot) (ha : spotB a = true) (hb : spotB b = true) (hc : spotB c = true) (hd : spotB d = true) : PureCall Tryz.prog 34 [seg a b, seg c d] (I (gap a b c d)) := by
  have hg := c_greatest 5000 54 [segC a b, segC c d] (fun r => decide (0 ≤ apart a b c d r)) (by omega) (by omega) (fun r h0 h1 => c_gap1 a b c d r ha hb hc hd h0 h1)
  rw [bis_more (5000 + 1 : Int).toNat 5000 0 (5000 + 1) (by omega) (by omega)] at hg
  refine PureCall.of_body Tryz.func34 rfl (by decide) (by simp [Tryz.ntmps34]) ?_
  simp only [Tryz.ntmps34, Tryz.results34]
  refine awp_sr rfl fun K hK => ?_
  simp -dsimp
  refine hK _ _ ?_; clear hK K
  refine awp_sr rfl fun K hK => ?_
  simp -dsimp
  refine callK_intro _ (hg) (by simp) ?_
  simp -dsimp
  refine hK _ _ ?_; clear hK K
  exact awp_ret (by simp [gap])
end Go.Tram
