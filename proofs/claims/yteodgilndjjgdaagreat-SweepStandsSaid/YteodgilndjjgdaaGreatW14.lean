/- Walks: the sweep's exported functions that speak of strips. -/
import Derived.Test.YteodgilndjjgdaaGreatW12
import Derived.Test.YteodgilndjjgdaaGreatW13
namespace Go.Tram
open Go.AM Go.Proofs
set_option maxRecDepth 10000
set_option maxHeartbeats 4000000
set_option linter.unusedVariables false
set_option linter.unusedSimpArgs false

theorem sheetRows_at {p : Plan} {r : Int} (h0 : 0 ≤ r) (h1 : r < p.Rails.length) : (sheetRows p p.Rails.length)[r.toNat]? = some [.lst 9 ((p.strips r).map SS.cells)] := by
  rw [sheetRows_get (by omega), show ((r.toNat : Nat) : Int) = r by omega]
theorem strips_at {p : Plan} {s : Strip} (h : stripB p s = true) : (p.strips s.Rail)[s.Segment.toNat]? = some (p.strip s) := by
  simp only [stripB, Bool.and_eq_true, inr_iff] at h
  rw [strips_get (by omega)]; rfl

theorem c_srail (p : Plan) (r : Int) : PureCall Tryz.prog 49 [.iptr (sheet p), I r] (Bo (inr r 0 (p.Rails.length - 1))) := by
  have hl := sheetRows_len p p.Rails.length
  unfold sheet
  refine PureCall.of_body Tryz.func49 rfl (by decide) (by simp [Tryz.ntmps49]) ?_
  simp only [Tryz.ntmps49, Tryz.results49]
  refine awp_sr rfl fun K hK => ?_
  simp -dsimp
  refine hK _ _ ?_; clear hK K
  refine awp_sr rfl fun K hK => ?_
  simp -dsimp [hl]
  refine hK _ _ ?_; clear hK K
  refine awp_ret ?_
  simp [inr]
  exact Bool.eq_iff_iff.2 (by simp; omega)

theorem c_shas (p : Plan) (s : Strip) : PureCall Tryz.prog 32 [.iptr (sheet p), s.av] (Bo (stripB p s)) := by
  have hl := sheetRows_len p p.Rails.length
  have hr := c_srail p s.Rail
  unfold sheet at hr ⊢
  refine PureCall.of_body Tryz.func32 rfl (by decide) (by simp [Tryz.ntmps32]) ?_
  simp only [Tryz.ntmps32, Tryz.results32]
  refine awp_sr rfl fun K hK => ?_
  simp -dsimp
  refine hK _ _ ?_; clear hK K
  refine awp_sd mixed rfl fun K hK => ?_
  simp -dsimp [hl]
  refine callK_intro _ (hr) (by simp) ?_
  simp -dsimp [hl]
  refine ⟨fun a b => by simp [inr_iff] at a; omega, idxK_intro [.lst 9 ((p.strips s.Rail).map SS.cells)] (fun hm => by simp [inr_iff] at hm; exact sheetRows_at (by omega) (by omega)) ?_⟩
  simp -dsimp [strips_len]
  refine hK _ _ _ (by decide +kernel) ?_; clear hK K
  refine awp_ret ?_
  simp [stripB, inr]
  exact Bool.eq_iff_iff.2 (by simp; omega)

theorem c_of (p : Plan) (s : Strip) (h : stripB p s = true) : PureCall Tryz.prog 33 [.iptr (sheet p), s.av] (p.strip s).av := by
  have hs := strips_at h
  simp only [stripB, Bool.and_eq_true, inr_iff] at h
  have hg := sheetRows_at (p := p) (r := s.Rail) (by omega) (by omega)
  unfold sheet
  refine PureCall.of_body Tryz.func33 rfl (by decide) (by simp [Tryz.ntmps33]) ?_
  simp only [Tryz.ntmps33, Tryz.results33]
  refine awp_sr rfl fun K hK => ?_
  simp -dsimp
  refine hK _ _ ?_; clear hK K
  refine awp_sd mixed rfl fun K hK => ?_
  simp -dsimp [hg, hs, h.1.1, h.2.1]
  refine hK _ _ _ (by decide +kernel) ?_; clear hK K
  exact awp_ret (by simp)

theorem c_Place (p : Plan) (s : Strip) : PureCall Tryz.prog 20 [p.av, s.av] (if validB p && stripB p s then .tup [I (p.strip s).From, I (p.strip s).To, I 0] else .tup [I 0, I 0, I 2]) := by
  cases hv : validB p with
  | false =>
    refine PureCall.of_body Tryz.func20 rfl (by decide) (by simp [Tryz.ntmps20]) ?_
    simp only [Tryz.ntmps20, Tryz.results20]
    refine awp_sr rfl fun K hK => ?_
    simp -dsimp
    refine hK _ _ ?_; clear hK K
    refine awp_sr rfl fun K hK => ?_
    simp -dsimp
    refine callK_intro _ (c_begin_f p hv) (by simp) ?_
    simp -dsimp
    refine hK _ _ ?_; clear hK K
    refine awp_seq_k fun K1 hK1 => ?_
    refine awp_sr rfl fun K hK => ?_
    simp -dsimp
    refine callK_may _ (fun hm => (by simp at hm : PureCall Tryz.prog 32 _ (Bo false))) (by simp) ?_
    simp -dsimp
    refine hK _ _ ?_; clear hK K
    refine awp_cond rfl (fun hc0 => ?_) (fun hc0 => ?_)
    · skip
      skip
      refine awp_sr rfl fun K hK => ?_
      simp -dsimp
      refine hK _ _ ?_; clear hK K
      exact awp_ret (by simp)
    · skip
      skip
      simp at hc0
  | true =>
    refine PureCall.of_body Tryz.func20 rfl (by decide) (by simp [Tryz.ntmps20]) ?_
    simp only [Tryz.ntmps20, Tryz.results20]
    refine awp_sr rfl fun K hK => ?_
    simp -dsimp
    refine hK _ _ ?_; clear hK K
    refine awp_sr rfl fun K hK => ?_
    simp -dsimp
    refine callK_intro _ (c_begin p hv) (by simp) ?_
    simp -dsimp
    refine hK _ _ ?_; clear hK K
    refine awp_seq_k fun K1 hK1 => ?_
    refine awp_sr rfl fun K hK => ?_
    simp -dsimp
    refine callK_may _ (fun hm => c_shas p s) (by simp) ?_
    simp -dsimp
    refine hK _ _ ?_; clear hK K
    refine awp_cond rfl (fun hc0 => ?_) (fun hc0 => ?_)
    · skip
      try simp at hc0
      refine awp_sr rfl fun K hK => ?_
      simp -dsimp
      refine hK _ _ ?_; clear hK K
      exact awp_ret (by simp [hc0])
    · skip
      try simp at hc0
      refine awp_skip ?_
      simp only [thenA, inBlockA, reduceIte, Nat.reduceEqDiff, eq_self]
      refine hK1 _ _ ?_
      refine awp_prune [3, 7] ?_
      simp only [prune, List.map_cons, List.map_nil, Go.AM.look, Nat.reduceEqDiff, reduceIte]
      refine awp_sd mixed rfl fun K hK => ?_
      simp -dsimp
      refine callK_intro _ (c_of p s hc0) (by simp) ?_
      simp -dsimp
      refine callK_intro _ (c_of p s hc0) (by simp) ?_
      simp -dsimp
      refine hK _ _ _ (by decide +kernel) ?_; clear hK K
      exact awp_ret (by simp [hc0])

theorem strip_fine {p : Plan} {s : Strip} (hv : validB p = true) (h : stripB p s = true) : (p.strip s).Ok := by
  simp only [stripB, Bool.and_eq_true, inr_iff] at h
  exact strip_ok (rail_ok hv (by omega) (by omega)) (by omega)

theorem c_Gap (p : Plan) (a b : Strip) : PureCall Tryz.prog 21 [p.av, a.av, b.av]
    (if validB p && (stripB p a && stripB p b) then .tup [I (gap (p.strip a).a (p.strip a).b (p.strip b).a (p.strip b).b), I 0] else .tup [I 0, I 2]) := by
  cases hv : validB p with
  | false =>
    refine PureCall.of_body Tryz.func21 rfl (by decide) (by simp [Tryz.ntmps21]) ?_
    simp only [Tryz.ntmps21, Tryz.results21]
    refine awp_sr rfl fun K hK => ?_
    simp -dsimp
    refine hK _ _ ?_; clear hK K
    refine awp_sr rfl fun K hK => ?_
    simp -dsimp
    refine callK_intro _ (c_begin_f p hv) (by simp) ?_
    simp -dsimp
    refine hK _ _ ?_; clear hK K
    refine awp_seq_k fun K1 hK1 => ?_
    refine awp_sr rfl fun K hK => ?_
    simp -dsimp
    refine callK_may _ (fun hm => (by simp at hm : PureCall Tryz.prog 32 _ (Bo false))) (by simp) ?_
    simp -dsimp
    refine callK_may _ (fun hm => (by simp at hm : PureCall Tryz.prog 32 _ (Bo false))) (by simp) ?_
    simp -dsimp
    refine hK _ _ ?_; clear hK K
    refine awp_cond rfl (fun hc0 => ?_) (fun hc0 => ?_)
    · skip
      skip
      refine awp_sr rfl fun K hK => ?_
      simp -dsimp
      refine hK _ _ ?_; clear hK K
      exact awp_ret (by simp)
    · skip
      skip
      simp at hc0
  | true =>
    refine PureCall.of_body Tryz.func21 rfl (by decide) (by simp [Tryz.ntmps21]) ?_
    simp only [Tryz.ntmps21, Tryz.results21]
    refine awp_sr rfl fun K hK => ?_
    simp -dsimp
    refine hK _ _ ?_; clear hK K
    refine awp_sr rfl fun K hK => ?_
    simp -dsimp
    refine callK_intro _ (c_begin p hv) (by simp) ?_
    simp -dsimp
    refine hK _ _ ?_; clear hK K
    refine awp_seq_k fun K1 hK1 => ?_
    refine awp_sr rfl fun K hK => ?_
    simp -dsimp
    refine callK_may _ (fun hm => c_shas p a) (by simp) ?_
    simp -dsimp
    refine callK_may _ (fun hm => c_shas p b) (by simp) ?_
    simp -dsimp
    refine hK _ _ ?_; clear hK K
    refine awp_cond rfl (fun hc0 => ?_) (fun hc0 => ?_)
    · skip
      skip
      have hd : (stripB p a && stripB p b) = false := by
        cases hq : (stripB p a && stripB p b) with
        | false => rfl
        | true => simp at hq; simp [hq] at hc0
      refine awp_sr rfl fun K hK => ?_
      simp -dsimp
      refine hK _ _ ?_; clear hK K
      exact awp_ret (by simp [hd])
    · skip
      skip
      have hd : stripB p a = true ∧ stripB p b = true := by simp at hc0; simp [hc0]
      obtain ⟨ha, hb⟩ := hd
      have oa := strip_fine hv ha
      have ob := strip_fine hv hb
      refine awp_skip ?_
      simp only [thenA, inBlockA, reduceIte, Nat.reduceEqDiff, eq_self]
      refine hK1 _ _ ?_
      refine awp_prune [4, 5, 8] ?_
      simp only [prune, List.map_cons, List.map_nil, Go.AM.look, Nat.reduceEqDiff, reduceIte]
      refine awp_sd mixed rfl fun K hK => ?_
      simp -dsimp
      refine callK_intro _ (c_of p a ha) (by simp) ?_
      simp -dsimp
      refine callK_intro _ (c_of p b hb) (by simp) ?_
      simp -dsimp
      refine callK_intro _ (c_gap (p.strip a).a (p.strip a).b (p.strip b).a (p.strip b).b oa.a oa.b ob.a ob.b) (by simp) ?_
      simp -dsimp
      refine hK _ _ _ (by decide +kernel) ?_; clear hK K
      exact awp_ret (by simp [ha, hb])

theorem c_prof2 (x y : Profile) : PureCall Tryz.prog 27 [.full 2 [x.cells, y.cells]] (Bo (profB x && profB y)) := by
  have h := (c_profiles [x, y] (by simp)).wk (args := [.full 2 [x.cells, y.cells]]) (by simp [AM.wk])
  simpa using h

theorem c_Foul (p : Plan) (a : Strip) (x : Profile) (b : Strip) (y : Profile) : PureCall Tryz.prog 22 [p.av, a.av, x.av, b.av, y.av]
    (if validB p && (stripB p a && (stripB p b && (profB x && profB y))) then .tup [Bo (foulB (p.strip a) x (p.strip b) y), I 0] else .tup [Bo false, I 2]) := by
  cases hv : validB p with
  | false =>
    refine PureCall.of_body Tryz.func22 rfl (by decide) (by simp [Tryz.ntmps22]) ?_
    simp only [Tryz.ntmps22, Tryz.results22]
    refine awp_sr rfl fun K hK => ?_
    simp -dsimp
    refine hK _ _ ?_; clear hK K
    refine awp_sr rfl fun K hK => ?_
    simp -dsimp
    refine callK_intro _ (c_begin_f p hv) (by simp) ?_
    simp -dsimp
    refine hK _ _ ?_; clear hK K
    refine awp_seq_k fun K1 hK1 => ?_
    refine awp_sr rfl fun K hK => ?_
    simp -dsimp
    refine callK_may _ (fun hm => (by simp at hm : PureCall Tryz.prog 32 _ (Bo false))) (by simp) ?_
    simp -dsimp
    refine callK_may _ (fun hm => (by simp at hm : PureCall Tryz.prog 32 _ (Bo false))) (by simp) ?_
    simp -dsimp
    refine callK_may _ (fun hm => (by simp at hm : PureCall Tryz.prog 27 _ (Bo false))) (by simp) ?_
    simp -dsimp
    refine hK _ _ ?_; clear hK K
    refine awp_cond rfl (fun hc0 => ?_) (fun hc0 => ?_)
    · skip
      skip
      refine awp_sr rfl fun K hK => ?_
      simp -dsimp
      refine hK _ _ ?_; clear hK K
      exact awp_ret (by simp)
    · skip
      skip
      simp at hc0
  | true =>
    refine PureCall.of_body Tryz.func22 rfl (by decide) (by simp [Tryz.ntmps22]) ?_
    simp only [Tryz.ntmps22, Tryz.results22]
    refine awp_sr rfl fun K hK => ?_
    simp -dsimp
    refine hK _ _ ?_; clear hK K
    refine awp_sr rfl fun K hK => ?_
    simp -dsimp
    refine callK_intro _ (c_begin p hv) (by simp) ?_
    simp -dsimp
    refine hK _ _ ?_; clear hK K
    refine awp_seq_k fun K1 hK1 => ?_
    refine awp_sr rfl fun K hK => ?_
    simp -dsimp
    refine callK_may _ (fun hm => c_shas p a) (by simp) ?_
    simp -dsimp
    refine callK_may _ (fun hm => c_shas p b) (by simp) ?_
    simp -dsimp
    refine callK_may _ (fun hm => c_prof2 x y) (by simp) ?_
    simp -dsimp
    refine hK _ _ ?_; clear hK K
    refine awp_cond rfl (fun hc0 => ?_) (fun hc0 => ?_)
    · skip
      skip
      have hd : (stripB p a && (stripB p b && (profB x && profB y))) = false := by
        cases hq : (stripB p a && (stripB p b && (profB x && profB y))) with
        | false => rfl
        | true => simp at hq; simp [hq] at hc0
      refine awp_sr rfl fun K hK => ?_
      simp -dsimp
      refine hK _ _ ?_; clear hK K
      exact awp_ret (by simp [hd])
    · skip
      skip
      have hd : stripB p a = true ∧ stripB p b = true ∧ profB x = true ∧ profB y = true := by simp at hc0; simp [hc0]
      obtain ⟨ha, hb, hx, hy⟩ := hd
      have oa := strip_fine hv ha
      have ob := strip_fine hv hb
      refine awp_skip ?_
      simp only [thenA, inBlockA, reduceIte, Nat.reduceEqDiff, eq_self]
      refine hK1 _ _ ?_
      refine awp_prune [6, 7, 8, 9, 12] ?_
      simp only [prune, List.map_cons, List.map_nil, Go.AM.look, Nat.reduceEqDiff, reduceIte]
      refine awp_sd mixed rfl fun K hK => ?_
      simp -dsimp
      refine callK_intro _ (c_of p a ha) (by simp) ?_
      simp -dsimp
      refine callK_intro _ (c_of p b hb) (by simp) ?_
      simp -dsimp
      refine callK_intro _ (c_foul (p.strip a) (p.strip b) x y oa ob hx hy) (by simp) ?_
      simp -dsimp
      refine hK _ _ _ (by decide +kernel) ?_; clear hK K
      exact awp_ret (by simp [ha, hb, hx, hy])
end Go.Tram
