/- Walks: the track's small functions. -/
import Derived.Test.YtdabjdajemiagaaW4
namespace Go.Tram
open Go.AM Go.Proofs
set_option maxRecDepth 10000
set_option maxHeartbeats 4000000
set_option linter.unusedVariables false
set_option linter.unusedSimpArgs false

theorem c_tline (p : Plan) (r : Rail) (hf : 0 ≤ r.From ∧ r.From < p.Nodes.length) (ht : 0 ≤ r.To ∧ r.To < p.Nodes.length) (hs : r.Shape.length ≤ 900) :
    PureCall Try.prog 28 [p.av, r.av] (.lst 2 ((lineOf p r).map Spot.cells)) := by
  have e2 : p.Nodes[r.From.toNat]? = some (p.node r.From) := Plan.node_get hf.1 hf.2
  have e3 : p.Nodes[r.To.toNat]? = some (p.node r.To) := Plan.node_get ht.1 ht.2
  have hc := (c_Concat [[(p.node r.From).Spot], r.Shape, [(p.node r.To).Spot]] (by simp) (by simp; omega) (by simp)).wk (args := [.full 1 [[.full 2 [[I (p.node r.From).Spot.X, I (p.node r.From).Spot.Y]]], [.lst 2 (r.Shape.map Spot.cells)], [.full 2 [[I (p.node r.To).Spot.X, I (p.node r.To).Spot.Y]]]]]) (by simp [AM.wk, partsAV, Function.comp_def])
  refine PureCall.of_body Try.func28 rfl (by decide) (by simp [Try.ntmps28]) ?_
  simp only [Try.ntmps28, Try.results28]
  refine awp_sr rfl fun K hK => ?_
  simp -dsimp
  refine hK _ _ ?_; clear hK K
  refine awp_sd mixed rfl fun K hK => ?_
  simp -dsimp [e2, e3, hf.1, ht.1]
  refine callK_intro _ (hc) (by simp) ?_
  simp -dsimp [e2, e3, hf.1, ht.1]
  refine hK _ _ _ (by decide +kernel) ?_; clear hK K
  exact awp_ret (by simp [lineOf])

theorem c_tspot (s : Spot) : PureCall Try.prog 49 [s.av] (Bo (spotB s)) := by
  refine PureCall.of_body Try.func49 rfl (by decide) (by simp [Try.ntmps49]) ?_
  simp only [Try.ntmps49, Try.results49]
  refine awp_sr rfl fun K hK => ?_
  simp -dsimp
  refine hK _ _ ?_; clear hK K
  refine awp_sr rfl fun K hK => ?_
  simp -dsimp
  refine callK_intro _ (c_within _ _ _) (by simp) ?_
  simp -dsimp
  refine callK_may _ (fun hm => c_within _ _ _) (by simp) ?_
  simp -dsimp
  refine hK _ _ ?_; clear hK K
  exact awp_ret (by simp [spotB])

theorem c_sizes : PureCall Try.prog 50 [] (.agg [I 0, I 1, I 2, I 4, I 3, I 3, I 3]) := by
  refine PureCall.of_body Try.func50 rfl (by decide) (by simp [Try.ntmps50]) ?_
  simp only [Try.ntmps50, Try.results50]
  refine awp_sr rfl fun K hK => ?_
  simp -dsimp
  refine hK _ _ ?_; clear hK K
  refine awp_sr rfl fun K hK => ?_
  simp -dsimp [Value.oneCell']
  refine hK _ _ ?_; clear hK K
  exact awp_ret (by simp)

theorem c_ending (p : Plan) (e : REnd) (h0 : 0 ≤ e.Rail) (h1 : e.Rail < p.Rails.length) : PureCall Try.prog 36 [p.av, e.av] (I (p.at e)) := by
  have e1 : p.Rails[e.Rail.toNat]? = some (p.rail e.Rail) := Plan.rail_get h0 h1
  refine PureCall.of_body Try.func36 rfl (by decide) (by simp [Try.ntmps36]) ?_
  simp only [Try.ntmps36, Try.results36]
  refine awp_sr rfl fun K hK => ?_
  simp -dsimp
  refine hK _ _ ?_; clear hK K
  refine awp_seq_k fun K1 hK1 => ?_
  refine awp_sr rfl fun K hK => ?_
  simp -dsimp
  refine hK _ _ ?_; clear hK K
  refine awp_cond rfl (fun hc0 => ?_) (fun hc0 => ?_)
  · skip
    try simp at hc0
    refine awp_sr rfl fun K hK => ?_
    simp -dsimp [e1, h0]
    refine hK _ _ ?_; clear hK K
    exact awp_ret (by simp [Plan.at, hc0])
  · skip
    try simp at hc0
    refine awp_skip ?_
    simp only [thenA, inBlockA, reduceIte, Nat.reduceEqDiff, eq_self]
    refine hK1 _ _ ?_
    refine awp_prune [2, 3] ?_
    simp only [prune, List.map_cons, List.map_nil, Go.AM.look, Nat.reduceEqDiff, reduceIte]
    refine awp_sr rfl fun K hK => ?_
    simp -dsimp [e1, h0]
    refine hK _ _ ?_; clear hK K
    exact awp_ret (by simp [Plan.at, hc0])

theorem c_Sqrt (n : Nat) (h : n < 2 ^ 50) : ∃ r x : Nat, PureCall Try.prog 73 [.v (.float .f64 (FloatKind.f64.nearest n))] (.v (.float .f64 r)) ∧ floatToIntVal .f64 r .i64 = some (x : Int) ∧ x ≤ 2 ^ 30 := by
  obtain ⟨r, x, h1, h2, h3⟩ := Sq.sqrt_bd h
  have hs : PureCall Try.prog 85 [.v (.float .f64 (FloatKind.f64.nearest n))] (.v (.float .f64 r)) := by
    refine PureCall.of_ext (us := [.float .f64 (FloatKind.f64.nearest n)]) (e := Extern.MathSqrt.sqrt) Try.func85 (by rfl) (by rfl) (by rfl) (by rfl) (fun w => ?_)
    have e : Extern.MathSqrt.sqrt #[.float .f64 (FloatKind.f64.nearest n)] = (match FloatKind.f64.format.sqrt (FloatKind.f64.nearest n) with
      | some r => pure (.float .f64 r)
      | none => do pure (.float .f64 (← choose (.nanBits .f64 (FloatKind.f64.nearest n) (FloatKind.f64.nearest n))))) := rfl
    rw [h1] at e
    show (Extern.MathSqrt.sqrt #[.float .f64 (FloatKind.f64.nearest n)]).run _ w = _
    rw [e]
    rfl
  refine ⟨r, x, ?_, h2, h3⟩
  refine PureCall.of_body Try.func73 rfl (by decide) (by simp [Try.ntmps73]) ?_
  simp only [Try.ntmps73, Try.results73]
  refine awp_sr rfl fun K hK => ?_
  simp -dsimp
  refine hK _ _ ?_; clear hK K
  refine awp_sr rfl fun K hK => ?_
  simp -dsimp
  refine callK_intro _ (hs) (by simp) ?_
  simp -dsimp
  refine hK _ _ ?_; clear hK K
  exact awp_ret (by simp)

theorem und_int : (Try.prog).underlying 3 = some (.int .i64) := by kernel_rfl
theorem und_f64 : (Try.prog).underlying 139 = some (.float .f64) := by kernel_rfl
theorem conv_if (n : Int) (w : World) : (convert 3 139 (.int .i64 n)).run Try.prog w = .ok (.float .f64 (FloatKind.f64.nearest n)) w := by
  simp [convert, run_underlying und_int, run_underlying und_f64, Conv.intToFloat]

theorem sq_le {a b : Int} (h0 : 0 ≤ a) (h : a ≤ b) : a * a ≤ b * b := Int.mul_le_mul h h h0 (by omega)

theorem c_troot (n : Int) (h0 : 0 ≤ n) (h1 : n < 1000000000000000) : PureCall Try.prog 61 [I n] (I (isq n)) := by
  obtain ⟨m, rfl⟩ : ∃ m : Nat, n = m := ⟨n.toNat, by omega⟩
  obtain ⟨r, x, hs, hx, hxb⟩ := c_Sqrt m (by omega)
  have hsq := isq_spec h0
  obtain ⟨s1, s2, s3⟩ := hsq
  generalize hq : isq (m : Int) = q at s1 s2 s3
  have hqb : q ≤ 40000000 := by
    rcases Int.lt_or_le 40000000 q with h | h
    · have := sq_le (by omega) (Int.le_of_lt h); omega
    · exact h
  refine PureCall.of_body Try.func61 rfl (by decide) (by simp [Try.ntmps61]) ?_
  simp only [Try.ntmps61, Try.results61]
  refine awp_sr rfl fun K hK => ?_
  simp -dsimp
  refine hK _ _ ?_; clear hK K
  refine awp_sr rfl fun K hK => ?_
  simp -dsimp
  refine ⟨_, conv_if m, ?_⟩
  simp
  refine callK_intro _ (hs) (by simp) ?_
  simp -dsimp
  refine ⟨_, fun w => run_convert_float_int w _ _ .f64 .i64 r x (by rw [und_f64]; rfl) und_int hx, ?_⟩
  try simp
  refine hK _ _ ?_; clear hK K
  refine awp_seq_k fun K1 hK1 => ?_
  refine awp_block ?_
  refine awp_prune [0, 3] ?_
  simp only [prune, List.map_cons, List.map_nil, Go.AM.look, Nat.reduceEqDiff, reduceIte]
  refine awp_loop_l [0] (α := Int) (fun x => [(3, I x)]) (fun _ => []) (fun x => 0 ≤ x ∧ x ≤ 1100000000) (fun x => x.toNat) (x : Int) ?_ ?_ ?_
  · omega
  · exact sub_same (by simp)
  rintro y ⟨y1, y2⟩
  have b1 := mul_bd (a := y) (b := y) (A := 1100000000) (B := 1100000000) (by omega) (by omega) (by omega) (by omega)
  have w1 : IntKind.i64.wrap (y * y) = y * y := wrap_in (by omega) (by omega)
  have w2 : IntKind.i64.wrap (y - 1) = y - 1 := wrap_in (by omega) (by omega)
  simp only [List.cons_append, List.nil_append, prune, List.map_cons, List.map_nil, Go.AM.look, Nat.reduceEqDiff, reduceIte]
  refine awp_seq_k fun K2 hK2 => ?_
  refine awp_sr rfl fun K hK => ?_
  simp -dsimp [w1]
  refine hK _ _ ?_; clear hK K
  refine awp_cond rfl (fun hc0 => ?_) (fun hc0 => ?_)
  · skip
    try simp at hc0
    have y0 : y ≠ 0 := by rintro rfl; simp at hc0; omega
    refine awp_skip ?_
    simp only [thenA, inBlockA, reduceIte, Nat.reduceEqDiff, eq_self]
    refine hK2 _ _ ?_
    refine awp_prune [0, 3] ?_
    simp only [prune, List.map_cons, List.map_nil, Go.AM.look, Nat.reduceEqDiff, reduceIte]
    refine awp_block ?_
    refine awp_r rfl fun K hK => ?_
    simp -dsimp [w2]
    refine hK _ _ ?_; clear hK K
    simp only [thenA, inBlockA, reduceIte, Nat.reduceEqDiff, eq_self]
    exact ⟨y - 1, ⟨by omega, by omega⟩, by omega, sub_same (by simp)⟩
  · skip
    try simp at hc0
    have hyq : y ≤ q := by
      rcases Int.lt_or_le q y with h | h
      · have := sq_le (a := q + 1) (b := y) (by omega) (by omega); omega
      · exact h
    refine awp_exit ?_
    simp only [thenA, inBlockA, reduceIte, Nat.reduceEqDiff, eq_self]
    refine hK1 _ _ ?_
    refine awp_prune [0, 3] ?_
    simp only [prune, List.map_cons, List.map_nil, Go.AM.look, Nat.reduceEqDiff, reduceIte]
    refine awp_seq_k fun K3 hK3 => ?_
    refine awp_block ?_
    refine awp_prune [0, 3] ?_
    simp only [prune, List.map_cons, List.map_nil, Go.AM.look, Nat.reduceEqDiff, reduceIte]
    refine awp_loop_l [0] (α := Int) (fun x => [(3, I x)]) (fun _ => []) (fun x => 0 ≤ x ∧ x ≤ q) (fun x => (q - x).toNat) y ?_ ?_ ?_
    · omega
    · exact sub_same (by simp)
    rintro z ⟨z1, z2⟩
    have b2 := mul_bd (a := z + 1) (b := z + 1) (A := 1100000000) (B := 1100000000) (by omega) (by omega) (by omega) (by omega)
    have w3 : IntKind.i64.wrap (z + 1) = z + 1 := wrap_in (by omega) (by omega)
    have w4 : IntKind.i64.wrap ((z + 1) * (z + 1)) = (z + 1) * (z + 1) := wrap_in (by omega) (by omega)
    simp only [List.cons_append, List.nil_append, prune, List.map_cons, List.map_nil, Go.AM.look, Nat.reduceEqDiff, reduceIte]
    refine awp_seq_k fun K4 hK4 => ?_
    refine awp_sr rfl fun K hK => ?_
    simp -dsimp [w3, w4]
    refine hK _ _ ?_; clear hK K
    refine awp_cond rfl (fun hc1 => ?_) (fun hc1 => ?_)
    · skip
      try simp at hc1
      have hzq : z + 1 ≤ q := by
        rcases Int.lt_or_le q (z + 1) with h | h
        · have := sq_le (a := q + 1) (b := z + 1) (by omega) (by omega); omega
        · exact h
      refine awp_skip ?_
      simp only [thenA, inBlockA, reduceIte, Nat.reduceEqDiff, eq_self]
      refine hK4 _ _ ?_
      refine awp_prune [0, 3] ?_
      simp only [prune, List.map_cons, List.map_nil, Go.AM.look, Nat.reduceEqDiff, reduceIte]
      refine awp_block ?_
      refine awp_r rfl fun K hK => ?_
      simp -dsimp [w3]
      refine hK _ _ ?_; clear hK K
      simp only [thenA, inBlockA, reduceIte, Nat.reduceEqDiff, eq_self]
      exact ⟨z + 1, ⟨by omega, by omega⟩, by omega, sub_same (by simp)⟩
    · skip
      try simp at hc1
      have hzq : z = q := by
        rcases Int.lt_or_le z q with h | h
        · have := sq_le (a := z + 1) (b := q) (by omega) (by omega); omega
        · omega
      refine awp_exit ?_
      simp only [thenA, inBlockA, reduceIte, Nat.reduceEqDiff, eq_self]
      refine hK3 _ _ ?_
      refine awp_prune [3] ?_
      simp only [prune, List.map_cons, List.map_nil, Go.AM.look, Nat.reduceEqDiff, reduceIte]
      refine awp_sr rfl fun K hK => ?_
      simp -dsimp
      refine hK _ _ ?_; clear hK K
      exact awp_ret (by simp [hq, hzq])
end Go.Tram
