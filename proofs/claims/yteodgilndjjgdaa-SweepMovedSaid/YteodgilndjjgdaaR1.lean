/- Walks: the specification's distances. -/
import Derived.Test.YteodgilndjjgdaaW11
namespace Go.Tram
open Go.AM Go.Proofs
set_option maxRecDepth 10000
set_option maxHeartbeats 4000000
set_option linter.unusedVariables false
set_option linter.unusedSimpArgs false
attribute [-simp] minI maxI

theorem c_rProfile (x : Profile) : PureCall Try.prog 19 [x.av] (Bo (profB x)) := by
  refine PureCall.of_body Try.func19 rfl (by decide) (by simp [Try.ntmps19]) ?_
  simp only [Try.ntmps19, Try.results19]
  refine awp_sr rfl fun K hK => ?_
  simp -dsimp
  refine hK _ _ ?_; clear hK K
  refine awp_sr rfl fun K hK => ?_
  simp -dsimp
  refine callK_intro _ (c_in2 _ _ _) (by simp) ?_
  simp -dsimp
  refine callK_may _ (fun hm => c_in2 _ _ _) (by simp) ?_
  simp -dsimp
  refine hK _ _ ?_; clear hK K
  exact awp_ret (by simp [profB])

theorem c_rStrips (p : Plan) (r : Int) (h0 : 0 ≤ r) (h1 : r < p.Rails.length) (hs : (p.rail r).Shape.length ≤ 1000) : PureCall Try.prog 30 [p.av, I r] (I ((p.rail r).Shape.length + 1)) := by
  have g0 := p.rail_get h0 h1
  have w : IntKind.i64.wrap (((p.rail r).Shape.length : Int) + 1) = ((p.rail r).Shape.length : Int) + 1 := wrap_in (by omega) (by omega)
  refine PureCall.of_body Try.func30 rfl (by decide) (by simp [Try.ntmps30]) ?_
  simp only [Try.ntmps30, Try.results30]
  refine awp_sr rfl fun K hK => ?_
  simp -dsimp
  refine hK _ _ ?_; clear hK K
  refine awp_sr rfl fun K hK => ?_
  simp -dsimp [g0, h0, w]
  refine hK _ _ ?_; clear hK K
  exact awp_ret (by simp)

theorem c_rStrip (p : Plan) (s : Strip) (hv : validB p = true) : PureCall Try.prog 18 [p.av, s.av] (Bo (stripB p s)) := by
  obtain ⟨hN, hR, _⟩ := valid_parts hv
  have w : IntKind.i64.wrap ((p.Rails.length : Int) - 1) = (p.Rails.length : Int) - 1 := wrap_in (by omega) (by omega)
  have w2 : IntKind.i64.wrap (((p.rail s.Rail).Shape.length : Int)) = ((p.rail s.Rail).Shape.length : Int) ∨ ¬ inr s.Rail 0 (p.Rails.length - 1) = true := by
    by_cases h : inr s.Rail 0 (p.Rails.length - 1) = true
    · have hi := inr_iff.1 h
      have ro := rail_ok hv (r := s.Rail) (by omega) (by omega)
      have := ro.s
      exact Or.inl (wrap_in (by omega) (by omega))
    · exact Or.inr h
  rcases w2 with w2 | w2
  · skip
    refine PureCall.of_body Try.func18 rfl (by decide) (by simp [Try.ntmps18]) ?_
    simp only [Try.ntmps18, Try.results18]
    refine awp_sr rfl fun K hK => ?_
    simp -dsimp
    refine hK _ _ ?_; clear hK K
    refine awp_sd mixed rfl fun K hK => ?_
    simp -dsimp [w, w2]
    refine callK_intro _ (c_in2 _ _ _) (by simp) ?_
    simp -dsimp [w, w2]
    refine callK_may _ (fun hm => c_rStrips p s.Rail (by simp [inr_iff] at hm; omega) (by simp [inr_iff] at hm; omega) (by simp [inr_iff] at hm; have := (rail_ok hv (r := s.Rail) (by omega) (by omega)).s; omega)) (by simp) ?_
    simp -dsimp [w, w2]
    refine callK_may _ (fun hm => c_in2 _ _ _) (by simp) ?_
    simp -dsimp [w, w2]
    refine hK _ _ _ (by decide +kernel) ?_; clear hK K
    exact awp_ret (by simp [stripB])
  · skip
    have w3 : inr s.Rail 0 (p.Rails.length - 1) = false := by simpa using w2
    refine PureCall.of_body Try.func18 rfl (by decide) (by simp [Try.ntmps18]) ?_
    simp only [Try.ntmps18, Try.results18]
    refine awp_sr rfl fun K hK => ?_
    simp -dsimp
    refine hK _ _ ?_; clear hK K
    refine awp_sd mixed rfl fun K hK => ?_
    simp -dsimp [w, w3]
    refine callK_intro _ (c_in2 _ _ _) (by simp) ?_
    simp -dsimp [w, w3]
    refine callK_may _ (fun hm => (by simp [w3] at hm : PureCall Try.prog 30 _ (I 0))) (by simp) ?_
    simp -dsimp [w, w3]
    refine callK_may _ (fun hm => (by simp [w3] at hm : PureCall Try.prog 57 _ (Bo false))) (by simp) ?_
    simp -dsimp [w, w3]
    refine hK _ _ _ (by decide +kernel) ?_; clear hK K
    exact awp_ret (by simp [stripB, w3])

theorem c_rends (p : Plan) (r : Int) (k : Nat) (h0 : 0 ≤ r) (h1 : r < p.Rails.length) (ro : RailOk p r) (hk : k < (p.rail r).Shape.length + 1) :
    PureCall Try.prog 58 [p.av, .agg [I r, I k]] (.tup [(nth (p.line r) k).av, (nth (p.line r) (k + 1)).av]) := by
  have hl := ro.len
  have hs := ro.s
  have g1 := nth_get (l := p.line r) (k := k) (by omega)
  have g2 := nth_get (l := p.line r) (k := k + 1) (by omega)
  have wk : IntKind.i64.wrap ((k : Int) + 1) = (k : Int) + 1 := wrap_in (by omega) (by omega)
  refine PureCall.of_body Try.func58 rfl (by decide) (by simp [Try.ntmps58]) ?_
  simp only [Try.ntmps58, Try.results58]
  refine awp_sr rfl fun K hK => ?_
  simp -dsimp
  refine hK _ _ ?_; clear hK K
  refine awp_sr rfl fun K hK => ?_
  simp -dsimp
  refine callK_intro _ (c_Line p r h0 h1 ro.f ro.t (by omega)) (by simp) ?_
  simp -dsimp
  refine hK _ _ ?_; clear hK K
  refine awp_sd mixed rfl fun K hK => ?_
  simp -dsimp [g1, g2, wk]
  refine ⟨by omega, ?_⟩
  refine hK _ _ _ (by decide +kernel) ?_; clear hK K
  exact awp_ret (by simp)

theorem tdiv_nn {a b : Int} (h : 0 ≤ a) : a.tdiv b = a / b := Int.tdiv_eq_ediv_of_nonneg h
theorem tmod_nn {a b : Int} (h : 0 ≤ a) : a.tmod b = a % b := Int.tmod_eq_emod_of_nonneg h

theorem c_rproduct (a b : Int) (ha : 0 ≤ a) (ha' : a < 4611686018427387904) (hb : 0 ≤ b) (hb' : b < 4611686018427387904) :
    PureCall Try.prog 114 [I a, I b] (.tup [I (a * b / 4611686018427387904), I (a * b % 4611686018427387904)]) := by
  obtain ⟨p1, p2⟩ := prod62 ha ha' hb hb'
  have hab := mul_range ha ha' hb hb'
  have a1 := mul_range (a := a / 2147483648) (b := b / 2147483648) (A := 2147483648) (B := 2147483648) (by omega) (by omega) (by omega) (by omega)
  have a2 := mul_range (a := a / 2147483648) (b := b % 2147483648) (A := 2147483648) (B := 2147483648) (by omega) (by omega) (by omega) (by omega)
  have a3 := mul_range (a := a % 2147483648) (b := b / 2147483648) (A := 2147483648) (B := 2147483648) (by omega) (by omega) (by omega) (by omega)
  have a4 := mul_range (a := a % 2147483648) (b := b % 2147483648) (A := 2147483648) (B := 2147483648) (by omega) (by omega) (by omega) (by omega)
  have t1 := tdiv_nn (b := 2147483648) ha
  have t2 := tmod_nn (b := 2147483648) ha
  have t3 := tdiv_nn (b := 2147483648) hb
  have t4 := tmod_nn (b := 2147483648) hb
  have v1 : IntKind.i64.wrap (a / 2147483648) = a / 2147483648 := wrap_in (by omega) (by omega)
  have v2 : IntKind.i64.wrap (b / 2147483648) = b / 2147483648 := wrap_in (by omega) (by omega)
  generalize hp : a / 2147483648 * (b / 2147483648) = p at *
  generalize hq : a / 2147483648 * (b % 2147483648) = q at *
  generalize hr : a % 2147483648 * (b / 2147483648) = r at *
  generalize hs : a % 2147483648 * (b % 2147483648) = s at *
  have w1 : IntKind.i64.wrap s = s := wrap_in (by omega) (by omega)
  have w2 : IntKind.i64.wrap q = q := wrap_in (by omega) (by omega)
  have w3 : IntKind.i64.wrap r = r := wrap_in (by omega) (by omega)
  have w4 : IntKind.i64.wrap p = p := wrap_in (by omega) (by omega)
  have t5 := tdiv_nn (b := 2147483648) a4.1
  have v3 : IntKind.i64.wrap (s / 2147483648) = s / 2147483648 := wrap_in (by omega) (by omega)
  have w5 : IntKind.i64.wrap (q + s / 2147483648) = q + s / 2147483648 := wrap_in (by omega) (by omega)
  have t6 := tdiv_nn (a := q + s / 2147483648) (b := 2147483648) (by omega)
  have v4 : IntKind.i64.wrap ((q + s / 2147483648) / 2147483648) = (q + s / 2147483648) / 2147483648 := wrap_in (by omega) (by omega)
  have w6 : IntKind.i64.wrap (p + (q + s / 2147483648) / 2147483648) = p + (q + s / 2147483648) / 2147483648 := wrap_in (by omega) (by omega)
  have t7 := tmod_nn (a := q + s / 2147483648) (b := 2147483648) (by omega)
  have w7 : IntKind.i64.wrap ((q + s / 2147483648) % 2147483648 + r) = (q + s / 2147483648) % 2147483648 + r := wrap_in (by omega) (by omega)
  have t8 := tdiv_nn (a := (q + s / 2147483648) % 2147483648 + r) (b := 2147483648) (by omega)
  have t9 := tmod_nn (a := (q + s / 2147483648) % 2147483648 + r) (b := 2147483648) (by omega)
  have t10 := tmod_nn (b := 2147483648) a4.1
  have v5 : IntKind.i64.wrap (((q + s / 2147483648) % 2147483648 + r) / 2147483648) = ((q + s / 2147483648) % 2147483648 + r) / 2147483648 := wrap_in (by omega) (by omega)
  have w8 : IntKind.i64.wrap (p + (q + s / 2147483648) / 2147483648 + ((q + s / 2147483648) % 2147483648 + r) / 2147483648) = a * b / 4611686018427387904 := by rw [p1]; exact wrap_in (by omega) (by omega)
  have w9 : IntKind.i64.wrap (((q + s / 2147483648) % 2147483648 + r) % 2147483648 * 2147483648) = ((q + s / 2147483648) % 2147483648 + r) % 2147483648 * 2147483648 := wrap_in (by omega) (by omega)
  have w10 : IntKind.i64.wrap (((q + s / 2147483648) % 2147483648 + r) % 2147483648 * 2147483648 + s % 2147483648) = a * b % 4611686018427387904 := by rw [p2]; exact wrap_in (by omega) (by omega)
  have nm : ((q + s / 2147483648) % 2147483648 + r) % 2147483648 = (q + s / 2147483648 + r) % 2147483648 := by omega
  rw [nm] at w9 w10
  refine PureCall.of_body Try.func114 rfl (by decide) (by simp [Try.ntmps114]) ?_
  simp only [Try.ntmps114, Try.results114]
  refine awp_sr rfl fun K hK => ?_
  simp -dsimp [t1, t2, t3, t4, t5, t6, t7, t8, t9, t10, v1, v2, v3, v4, v5, hp, hq, hr, hs, w1, w2, w3, w4, w5, w6, w7, w8, w9, w10]
  refine hK _ _ ?_; clear hK K
  refine awp_sr rfl fun K hK => ?_
  simp -dsimp [t1, t2, t3, t4, t5, t6, t7, t8, t9, t10, v1, v2, v3, v4, v5, hp, hq, hr, hs, w1, w2, w3, w4, w5, w6, w7, w8, w9, w10]
  refine hK _ _ ?_; clear hK K
  refine awp_sr rfl fun K hK => ?_
  simp -dsimp [t1, t2, t3, t4, t5, t6, t7, t8, t9, t10, v1, v2, v3, v4, v5, hp, hq, hr, hs, w1, w2, w3, w4, w5, w6, w7, w8, w9, w10]
  refine hK _ _ ?_; clear hK K
  refine awp_sr rfl fun K hK => ?_
  simp -dsimp [t1, t2, t3, t4, t5, t6, t7, t8, t9, t10, v1, v2, v3, v4, v5, hp, hq, hr, hs, w1, w2, w3, w4, w5, w6, w7, w8, w9, w10]
  refine hK _ _ ?_; clear hK K
  refine awp_sr rfl fun K hK => ?_
  simp -dsimp [t1, t2, t3, t4, t5, t6, t7, t8, t9, t10, v1, v2, v3, v4, v5, hp, hq, hr, hs, w1, w2, w3, w4, w5, w6, w7, w8, w9, w10]
  refine hK _ _ ?_; clear hK K
  refine awp_sr rfl fun K hK => ?_
  simp -dsimp [t1, t2, t3, t4, t5, t6, t7, t8, t9, t10, v1, v2, v3, v4, v5, hp, hq, hr, hs, w1, w2, w3, w4, w5, w6, w7, w8, w9, w10]
  refine hK _ _ ?_; clear hK K
  refine awp_sr rfl fun K hK => ?_
  simp -dsimp [t1, t2, t3, t4, t5, t6, t7, t8, t9, t10, v1, v2, v3, v4, v5, hp, hq, hr, hs, w1, w2, w3, w4, w5, w6, w7, w8, w9, w10]
  refine hK _ _ ?_; clear hK K
  refine awp_sr rfl fun K hK => ?_
  simp -dsimp [t1, t2, t3, t4, t5, t6, t7, t8, t9, t10, v1, v2, v3, v4, v5, hp, hq, hr, hs, w1, w2, w3, w4, w5, w6, w7, w8, w9, w10]
  refine hK _ _ ?_; clear hK K
  exact awp_ret (by simp)

theorem nearB_cmp (less : Bool) (a b : Int) : nearB less (cmpI a b) = if less then decide (a < b) else decide (a ≤ b) := by
  unfold nearB
  cases less
  · simp only [Bool.false_eq_true, if_false]; exact decide_eq_decide.2 cmpI_np
  · simp only [if_true]; exact decide_eq_decide.2 cmpI_neg

theorem c_atMost (a b c d : Int) (less : Bool) (ha : 0 ≤ a) (ha' : a < 4611686018427387904) (hb : 0 ≤ b) (hb' : b < 4611686018427387904) (hc : 0 ≤ c) (hc' : c < 4611686018427387904) (hd : 0 ≤ d) (hd' : d < 4611686018427387904) :
    PureCall Try.prog 87 [I a, I b, I c, I d, Bo less] (Bo (nearB less (cmpI (a * b) (c * d)))) := by
  refine PureCall.of_body Try.func87 rfl (by decide) (by simp [Try.ntmps87]) ?_
  simp only [Try.ntmps87, Try.results87]
  refine awp_sr rfl fun K hK => ?_
  simp -dsimp
  refine hK _ _ ?_; clear hK K
  refine awp_sr rfl fun K hK => ?_
  simp -dsimp
  refine callK_intro _ (c_rproduct a b ha ha' hb hb') (by simp) ?_
  simp -dsimp
  refine hK _ _ ?_; clear hK K
  refine awp_sr rfl fun K hK => ?_
  simp -dsimp
  refine callK_intro _ (c_rproduct c d hc hc' hd hd') (by simp) ?_
  simp -dsimp
  refine hK _ _ ?_; clear hK K
  refine awp_sr rfl fun K hK => ?_
  simp -dsimp
  refine hK _ _ ?_; clear hK K
  refine awp_ret ?_
  rw [nearB_cmp]
  generalize a * b = m
  generalize c * d = n
  cases less <;> simp <;> exact Bool.eq_iff_iff.2 (by simp; omega)

theorem c_turn (a b c : Spot) (ha : spotB a = true) (hb : spotB b = true) (hc : spotB c = true) : PureCall Try.prog 93 [a.av, b.av, c.av] (I (sideS a b c)) := by
  have h1 := spot_diff ha hb
  have h2 := spot_diff ha hc
  have m1 := mul_bd (a := b.X - a.X) (b := c.Y - a.Y) (A := 20000000) (B := 20000000) (by omega) (by omega) (by omega) (by omega)
  have m2 := mul_bd (a := b.Y - a.Y) (b := c.X - a.X) (A := 20000000) (B := 20000000) (by omega) (by omega) (by omega) (by omega)
  have u1 : IntKind.i64.wrap (b.X - a.X) = b.X - a.X := wrap_in (by omega) (by omega)
  have u2 : IntKind.i64.wrap (b.Y - a.Y) = b.Y - a.Y := wrap_in (by omega) (by omega)
  have u3 : IntKind.i64.wrap (c.X - a.X) = c.X - a.X := wrap_in (by omega) (by omega)
  have u4 : IntKind.i64.wrap (c.Y - a.Y) = c.Y - a.Y := wrap_in (by omega) (by omega)
  have w1 : IntKind.i64.wrap ((b.X - a.X) * (c.Y - a.Y)) = (b.X - a.X) * (c.Y - a.Y) := wrap_in (by omega) (by omega)
  have w2 : IntKind.i64.wrap ((b.Y - a.Y) * (c.X - a.X)) = (b.Y - a.Y) * (c.X - a.X) := wrap_in (by omega) (by omega)
  have w3 : IntKind.i64.wrap ((b.X - a.X) * (c.Y - a.Y) - (b.Y - a.Y) * (c.X - a.X)) = crossS a b a c := wrap_in (by omega) (by omega)
  refine PureCall.of_body Try.func93 rfl (by decide) (by simp [Try.ntmps93]) ?_
  simp only [Try.ntmps93, Try.results93]
  refine awp_sr rfl fun K hK => ?_
  simp -dsimp [u1, u2, u3, u4, w1, w2, w3, minI_eq]
  refine hK _ _ ?_; clear hK K
  refine awp_sr rfl fun K hK => ?_
  simp -dsimp [u1, u2, u3, u4, w1, w2, w3, minI_eq]
  refine hK _ _ ?_; clear hK K
  refine awp_seq_k fun K1 hK1 => ?_
  refine awp_sr rfl fun K hK => ?_
  simp -dsimp [u1, u2, u3, u4, w1, w2, w3, minI_eq]
  refine hK _ _ ?_; clear hK K
  refine awp_cond rfl (fun hc0 => ?_) (fun hc0 => ?_)
  · skip
    try simp at hc0
    refine awp_sr rfl fun K hK => ?_
    simp -dsimp [u1, u2, u3, u4, w1, w2, w3, minI_eq]
    refine hK _ _ ?_; clear hK K
    exact awp_ret (by simp [sideS, cmpI]; omega)
  · skip
    try simp at hc0
    refine awp_skip ?_
    simp only [thenA, inBlockA, reduceIte, Nat.reduceEqDiff, eq_self]
    refine hK1 _ _ ?_
    refine awp_prune [7] ?_
    simp only [prune, List.map_cons, List.map_nil, Go.AM.look, Nat.reduceEqDiff, reduceIte]
    refine awp_sr rfl fun K hK => ?_
    simp -dsimp [u1, u2, u3, u4, w1, w2, w3, minI_eq]
    refine hK _ _ ?_; clear hK K
    exact awp_ret (by simp [sideS, cmpI]; split <;> (try split) <;> omega)

theorem nearB_or (less : Bool) (s d : Int) : (decide (s < d) || (decide (s = d) && !less)) = nearB less (cmpI s d) := by
  rw [nearB_cmp]
  cases less <;> simp
  exact Bool.eq_iff_iff.2 (by simp; omega)

theorem dotS_comm (a b c d : Spot) : dotS a b c d = dotS c d a b := by
  unfold dotS; rw [Int.mul_comm (b.X - a.X), Int.mul_comm (b.Y - a.Y)]

theorem c_spotNear (s a b : Spot) (d : Int) (less : Bool) (hs : spotB s = true) (ha : spotB a = true) (hb : spotB b = true) (h0 : 0 ≤ d) (h1 : d ≤ 1000000) :
    PureCall Try.prog 60 [s.av, a.av, b.av, I d, Bo less] (Bo (nearB less (spotted a b s d))) := by
  have d1 := spot_diff ha hs
  have d2 := spot_diff ha hb
  have d3 := spot_diff hb hs
  have mm : ∀ {x y : Int}, (-20000000 ≤ x ∧ x ≤ 20000000) → (-20000000 ≤ y ∧ y ≤ 20000000) → IntKind.i64.wrap (x * y) = x * y := by
    intro x y hx hy
    have := mul_bd (a := x) (b := y) (A := 20000000) (B := 20000000) hx.1 hx.2 hy.1 hy.2
    exact wrap_in (by omega) (by omega)
  have u1 : IntKind.i64.wrap (s.X - a.X) = s.X - a.X := wrap_in (by omega) (by omega)
  have u2 : IntKind.i64.wrap (s.Y - a.Y) = s.Y - a.Y := wrap_in (by omega) (by omega)
  have u3 : IntKind.i64.wrap (b.X - a.X) = b.X - a.X := wrap_in (by omega) (by omega)
  have u4 : IntKind.i64.wrap (b.Y - a.Y) = b.Y - a.Y := wrap_in (by omega) (by omega)
  have u5 : IntKind.i64.wrap (s.X - b.X) = s.X - b.X := wrap_in (by omega) (by omega)
  have u6 : IntKind.i64.wrap (s.Y - b.Y) = s.Y - b.Y := wrap_in (by omega) (by omega)
  have m1 := mm d2.1 d2.1
  have m2 := mm d2.2 d2.2
  have m3 := mm d1.1 d2.1
  have m4 := mm d1.2 d2.2
  have m5 := mm d1.1 d1.1
  have m6 := mm d1.2 d1.2
  have m7 := mm d3.1 d3.1
  have m8 := mm d3.2 d3.2
  have m9 := mm d1.1 d2.2
  have m10 := mm d1.2 d2.1
  have b1 := dotS_bd ha hb ha hb
  have b2 := dotS_bd ha hs ha hb
  have b3 := dotS_bd ha hs ha hs
  have b4 := dotS_bd hb hs hb hs
  have b5 := crossS_bd ha hs ha hb
  have n1 := dotS_nn a b
  have s1 : IntKind.i64.wrap ((b.X - a.X) * (b.X - a.X) + (b.Y - a.Y) * (b.Y - a.Y)) = dotS a b a b := wrap_in (by unfold dotS at b1; omega) (by unfold dotS at b1; omega)
  have s2 : IntKind.i64.wrap ((s.X - a.X) * (b.X - a.X) + (s.Y - a.Y) * (b.Y - a.Y)) = dotS a s a b := wrap_in (by unfold dotS at b2; omega) (by unfold dotS at b2; omega)
  have s3 : IntKind.i64.wrap ((s.X - a.X) * (s.X - a.X) + (s.Y - a.Y) * (s.Y - a.Y)) = dotS a s a s := wrap_in (by unfold dotS at b3; omega) (by unfold dotS at b3; omega)
  have s4 : IntKind.i64.wrap ((s.X - b.X) * (s.X - b.X) + (s.Y - b.Y) * (s.Y - b.Y)) = dotS b s b s := wrap_in (by unfold dotS at b4; omega) (by unfold dotS at b4; omega)
  have s5 : IntKind.i64.wrap ((s.X - a.X) * (b.Y - a.Y) - (s.Y - a.Y) * (b.X - a.X)) = crossS a s a b := wrap_in (by unfold crossS at b5; omega) (by unfold crossS at b5; omega)
  have md := mul_bd (a := d) (b := d) (A := 1000000) (B := 1000000) (by omega) (by omega) (by omega) (by omega)
  have hdd := sq_nn d
  have wd : IntKind.i64.wrap (d * d) = d * d := wrap_in (by omega) (by omega)
  have ec : dotS a s a b = dotS a b a s := dotS_comm _ _ _ _
  have wn : IntKind.i64.wrap (0 - crossS a s a b) = -crossS a s a b := by rw [wrap_in (by omega) (by omega)]; omega
  have wn' : IntKind.i64.wrap (-crossS a s a b) = -crossS a s a b := wrap_in (by omega) (by omega)
  have hx : crossS a s a b = - crossS a b a s := by
    simp only [crossS]
    rw [Int.mul_comm (s.X - a.X), Int.mul_comm (s.Y - a.Y)]; omega
  have hm : max (crossS a s a b) (-crossS a s a b) * max (crossS a s a b) (-crossS a s a b) = crossS a b a s * crossS a b a s := by
    rcases Int.le_total (crossS a s a b) (-crossS a s a b) with h | h
    · rw [Int.max_eq_right h, hx, Int.neg_neg]
    · rw [Int.max_eq_left h, hx, Int.neg_mul_neg]
  refine PureCall.of_body Try.func60 rfl (by decide) (by simp [Try.ntmps60]) ?_
  simp only [Try.ntmps60, Try.results60]
  refine awp_sr rfl fun K hK => ?_
  simp -dsimp [u1, u2, u3, u4, u5, u6, m1, m2, m3, m4, m5, m6, m7, m8, m9, m10, s1, s2, s3, s4, s5, wd, wn, wn', maxI_eq]
  refine hK _ _ ?_; clear hK K
  refine awp_sd mixed rfl fun K hK => ?_
  simp -dsimp [u1, u2, u3, u4, u5, u6, m1, m2, m3, m4, m5, m6, m7, m8, m9, m10, s1, s2, s3, s4, s5, wd, wn, wn', maxI_eq]
  refine hK _ _ _ (by decide +kernel) ?_; clear hK K
  refine awp_sd mixed rfl fun K hK => ?_
  simp -dsimp [u1, u2, u3, u4, u5, u6, m1, m2, m3, m4, m5, m6, m7, m8, m9, m10, s1, s2, s3, s4, s5, wd, wn, wn', maxI_eq]
  refine hK _ _ _ (by decide +kernel) ?_; clear hK K
  refine awp_sr rfl fun K hK => ?_
  simp -dsimp [u1, u2, u3, u4, u5, u6, m1, m2, m3, m4, m5, m6, m7, m8, m9, m10, s1, s2, s3, s4, s5, wd, wn, wn', maxI_eq]
  refine hK _ _ ?_; clear hK K
  refine awp_sr rfl fun K hK => ?_
  simp -dsimp [u1, u2, u3, u4, u5, u6, m1, m2, m3, m4, m5, m6, m7, m8, m9, m10, s1, s2, s3, s4, s5, wd, wn, wn', maxI_eq]
  refine hK _ _ ?_; clear hK K
  refine awp_sr rfl fun K hK => ?_
  simp -dsimp [u1, u2, u3, u4, u5, u6, m1, m2, m3, m4, m5, m6, m7, m8, m9, m10, s1, s2, s3, s4, s5, wd, wn, wn', maxI_eq]
  refine hK _ _ ?_; clear hK K
  refine awp_seq_k fun K1 hK1 => ?_
  refine awp_sr rfl fun K hK => ?_
  simp -dsimp [u1, u2, u3, u4, u5, u6, m1, m2, m3, m4, m5, m6, m7, m8, m9, m10, s1, s2, s3, s4, s5, wd, wn, wn', maxI_eq]
  refine hK _ _ ?_; clear hK K
  refine awp_cond rfl (fun hc0 => ?_) (fun hc0 => ?_)
  · skip
    try simp at hc0
    have hf : nearB less (spotted a b s d) = nearB less (cmpI (dotS b s b s) (d * d)) := by unfold spotted; rw [if_neg (by omega), if_pos (by omega)]
    refine awp_sd mixed rfl fun K hK => ?_
    simp -dsimp [u1, u2, u3, u4, u5, u6, m1, m2, m3, m4, m5, m6, m7, m8, m9, m10, s1, s2, s3, s4, s5, wd, wn, wn', maxI_eq]
    refine hK _ _ _ (by decide +kernel) ?_; clear hK K
    refine awp_r rfl fun K hK => ?_
    simp -dsimp [u1, u2, u3, u4, u5, u6, m1, m2, m3, m4, m5, m6, m7, m8, m9, m10, s1, s2, s3, s4, s5, wd, wn, wn', maxI_eq]
    refine hK _ _ ?_; clear hK K
    simp only [thenA, inBlockA, reduceIte, Nat.reduceEqDiff, eq_self]
    refine hK1 _ _ ?_
    refine awp_prune [3, 4, 11, 12, 13, 14, 15, 16, 17] ?_
    simp only [prune, List.map_cons, List.map_nil, Go.AM.look, Nat.reduceEqDiff, reduceIte]
    refine awp_seq_k fun K2 hK2 => ?_
    refine awp_sr rfl fun K hK => ?_
    simp -dsimp [u1, u2, u3, u4, u5, u6, m1, m2, m3, m4, m5, m6, m7, m8, m9, m10, s1, s2, s3, s4, s5, wd, wn, wn', maxI_eq, hc0]
    refine hK _ _ ?_; clear hK K
    refine awp_cond rfl (fun hc1 => ?_) (fun hc1 => ?_)
    · skip
      skip
      refine awp_sr rfl fun K hK => ?_
      simp -dsimp [u1, u2, u3, u4, u5, u6, m1, m2, m3, m4, m5, m6, m7, m8, m9, m10, s1, s2, s3, s4, s5, wd, wn, wn', maxI_eq]
      refine hK _ _ ?_; clear hK K
      exact awp_ret (by simp; rw [hf, ← nearB_or]; rfl)
    · skip
      skip
      simp at hc1
  · skip
    try simp at hc0
    have hc0' : ¬ dotS a b a b < dotS a s a b := by omega
    refine awp_skip ?_
    simp only [thenA, inBlockA, reduceIte, Nat.reduceEqDiff, eq_self]
    refine hK1 _ _ ?_
    refine awp_prune [3, 4, 11, 12, 13, 14, 15, 16, 17] ?_
    simp only [prune, List.map_cons, List.map_nil, Go.AM.look, Nat.reduceEqDiff, reduceIte]
    refine awp_seq_k fun K3 hK3 => ?_
    refine awp_sr rfl fun K hK => ?_
    simp -dsimp [u1, u2, u3, u4, u5, u6, m1, m2, m3, m4, m5, m6, m7, m8, m9, m10, s1, s2, s3, s4, s5, wd, wn, wn', maxI_eq, hc0']
    refine hK _ _ ?_; clear hK K
    refine awp_cond rfl (fun hc1 => ?_) (fun hc1 => ?_)
    · skip
      skip
      simp at hc1
      refine awp_sr rfl fun K hK => ?_
      simp -dsimp [u1, u2, u3, u4, u5, u6, m1, m2, m3, m4, m5, m6, m7, m8, m9, m10, s1, s2, s3, s4, s5, wd, wn, wn', maxI_eq]
      refine hK _ _ ?_; clear hK K
      refine awp_ret ?_
      have hf : nearB less (spotted a b s d) = nearB less (cmpI (dotS a s a s) (d * d)) := by unfold spotted; rw [if_pos (by omega)]
      simp
      rw [hf, ← nearB_or]; rfl
    · skip
      skip
      simp at hc1
      refine awp_skip ?_
      simp only [thenA, inBlockA, reduceIte, Nat.reduceEqDiff, eq_self]
      refine hK3 _ _ ?_
      refine awp_prune [3, 4, 11, 12, 13, 14, 15] ?_
      simp only [prune, List.map_cons, List.map_nil, Go.AM.look, Nat.reduceEqDiff, reduceIte]
      refine awp_sr rfl fun K hK => ?_
      simp -dsimp [u1, u2, u3, u4, u5, u6, m1, m2, m3, m4, m5, m6, m7, m8, m9, m10, s1, s2, s3, s4, s5, wd, wn, wn', maxI_eq]
      refine hK _ _ ?_; clear hK K
      refine awp_sr rfl fun K hK => ?_
      simp -dsimp [u1, u2, u3, u4, u5, u6, m1, m2, m3, m4, m5, m6, m7, m8, m9, m10, s1, s2, s3, s4, s5, wd, wn, wn', maxI_eq]
      refine callK_intro _ (c_atMost (max (crossS a s a b) (-crossS a s a b)) (max (crossS a s a b) (-crossS a s a b)) (d * d) (dotS a b a b) less (by omega) (by omega) (by omega) (by omega) hdd (by omega) n1 (by omega)) (by simp) ?_
      simp -dsimp [u1, u2, u3, u4, u5, u6, m1, m2, m3, m4, m5, m6, m7, m8, m9, m10, s1, s2, s3, s4, s5, wd, wn, wn', maxI_eq]
      refine hK _ _ ?_; clear hK K
      refine awp_ret ?_
      have hf : cmpI (crossS a b a s * crossS a b a s) (d * d * dotS a b a b) = spotted a b s d := by
        unfold spotted
        rw [if_neg (by omega)]
        split
        · exact spotted_edge (by omega) (by omega)
        · rfl
      simp [hm, hf]

theorem c_rnear (a b c d : Spot) (r : Int) (less : Bool) (ha : spotB a = true) (hb : spotB b = true) (hc : spotB c = true) (hd : spotB d = true) (h0 : 0 ≤ r) (h1 : r ≤ 1000000) :
    PureCall Try.prog 65 [a.av, b.av, c.av, d.av, I r, Bo less] (Bo (nearB less (apart a b c d r))) := by
  have w : ∀ {x y : Int}, -1 ≤ x ∧ x ≤ 1 → -1 ≤ y ∧ y ≤ 1 → IntKind.i64.wrap (x * y) = x * y := by
    intro x y hx hy
    have := mul_bd (a := x) (b := y) (A := 1) (B := 1) hx.1 hx.2 hy.1 hy.2
    exact wrap_in (by omega) (by omega)
  have w1 : IntKind.i64.wrap (sideS a b c * sideS a b d) = sideS a b c * sideS a b d := w cmpI_bd cmpI_bd
  have w2 : IntKind.i64.wrap (sideS c d a * sideS c d b) = sideS c d a * sideS c d b := w cmpI_bd cmpI_bd
  refine PureCall.of_body Try.func65 rfl (by decide) (by simp [Try.ntmps65]) ?_
  simp only [Try.ntmps65, Try.results65]
  refine awp_sr rfl fun K hK => ?_
  simp -dsimp
  refine hK _ _ ?_; clear hK K
  refine awp_seq_k fun K1 hK1 => ?_
  refine awp_sd mixed rfl fun K hK => ?_
  simp -dsimp [w1, w2]
  refine callK_intro _ (c_turn a b c ha hb hc) (by simp) ?_
  simp -dsimp [w1, w2]
  refine callK_intro _ (c_turn a b d ha hb hd) (by simp) ?_
  simp -dsimp [w1, w2]
  refine callK_may _ (fun hm => c_turn c d a hc hd ha) (by simp) ?_
  simp -dsimp [w1, w2]
  refine callK_may _ (fun hm => c_turn c d b hc hd hb) (by simp) ?_
  simp -dsimp [w1, w2]
  refine hK _ _ _ (by decide +kernel) ?_; clear hK K
  refine awp_cond rfl (fun hc0 => ?_) (fun hc0 => ?_)
  · skip
    try simp at hc0
    have hcr : crossing a b c d = true := by simp [crossing, hc0]
    refine awp_sr rfl fun K hK => ?_
    simp -dsimp
    refine hK _ _ ?_; clear hK K
    refine awp_ret ?_
    simp [apart, hcr, nearB_cmp]
    cases less <;> simp [h0]
  · skip
    try simp at hc0
    have hcr : crossing a b c d = false := by unfold crossing; simp; simpa using hc0
    refine awp_skip ?_
    simp only [thenA, inBlockA, reduceIte, Nat.reduceEqDiff, eq_self]
    refine hK1 _ _ ?_
    refine awp_prune [4, 5, 6, 7, 8, 9] ?_
    simp only [prune, List.map_cons, List.map_nil, Go.AM.look, Nat.reduceEqDiff, reduceIte]
    refine awp_sr rfl fun K hK => ?_
    simp -dsimp
    refine callK_intro _ (c_spotNear a c d r less ha hc hd h0 h1) (by simp) ?_
    simp -dsimp
    refine callK_may _ (fun hm => c_spotNear b c d r less hb hc hd h0 h1) (by simp) ?_
    simp -dsimp
    refine callK_may _ (fun hm => c_spotNear c a b r less hc ha hb h0 h1) (by simp) ?_
    simp -dsimp
    refine callK_may _ (fun hm => c_spotNear d a b r less hd ha hb h0 h1) (by simp) ?_
    simp -dsimp
    refine hK _ _ ?_; clear hK K
    refine awp_ret ?_
    simp [apart, hcr]
    cases less <;> simp [nearB] <;> exact Bool.eq_iff_iff.2 (by simp [min4_np, min4_neg]; omega)
end Go.Tram
