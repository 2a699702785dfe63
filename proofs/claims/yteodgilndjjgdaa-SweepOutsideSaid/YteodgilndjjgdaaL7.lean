/- Walks: the law of zones. -/
import Derived.Test.YteodgilndjjgdaaL2
import Derived.Test.YteodgilndjjgdaaR5
namespace Go.Tram
open Go.AM Go.Proofs
set_option maxRecDepth 100000
set_option maxHeartbeats 4000000
set_option linter.unusedVariables false
set_option linter.unusedSimpArgs false

theorem c_Same (l : List Cover) (hn : l.length ≤ 100000) : PureCall Try.prog 34 [.lst 3 (l.map Cover.cells), .lst 3 (l.map Cover.cells)] (Bo true) := by
  refine PureCall.of_body Try.func34 rfl (by decide) (by simp [Try.ntmps34]) ?_
  simp only [Try.ntmps34, Try.results34]
  refine awp_sr rfl fun K hK => ?_
  simp -dsimp
  refine hK _ _ ?_; clear hK K
  refine awp_seq_k fun K1 hK1 => ?_
  refine awp_sr rfl fun K hK => ?_
  simp -dsimp
  refine hK _ _ ?_; clear hK K
  refine awp_cond rfl (fun hc0 => ?_) (fun hc0 => ?_)
  · skip
    skip
    simp at hc0
  · skip
    skip
    refine awp_skip ?_
    simp only [thenA, inBlockA, reduceIte, Nat.reduceEqDiff, eq_self]
    refine hK1 _ _ ?_
    refine awp_prune [0, 1] ?_
    simp only [prune, List.map_cons, List.map_nil, Go.AM.look, Nat.reduceEqDiff, reduceIte]
    refine awp_seq_k fun K2 hK2 => ?_
    refine awp_sr rfl fun K hK => ?_
    simp -dsimp
    refine hK _ _ ?_; clear hK K
    refine awp_block ?_
    refine awp_prune [0, 1, 5] ?_
    simp only [prune, List.map_cons, List.map_nil, Go.AM.look, Nat.reduceEqDiff, reduceIte]
    refine awp_loop_l [0, 1] (α := Nat) (fun k => [(5, I k)]) (fun _ => []) (fun k => k ≤ l.length) (fun k => l.length - k) 0 ?_ ?_ ?_
    · simp
    · exact sub_same (by simp)
    rintro k k1
    simp only [List.cons_append, List.nil_append, prune, List.map_cons, List.map_nil, Go.AM.look, Nat.reduceEqDiff, reduceIte]
    refine awp_seq_k fun K3 hK3 => ?_
    refine awp_sr rfl fun K hK => ?_
    simp -dsimp
    refine hK _ _ ?_; clear hK K
    refine awp_cond rfl (fun hc1 => ?_) (fun hc1 => ?_)
    · skip
      try simp at hc1
      obtain ⟨c, hx⟩ : ∃ c, l[k]? = some c := ⟨_, List.getElem?_eq_getElem hc1⟩
      have wk : IntKind.i64.wrap ((k : Int) + 1) = (k : Int) + 1 := wrap_in (by omega) (by omega)
      refine awp_skip ?_
      simp only [thenA, inBlockA, reduceIte, Nat.reduceEqDiff, eq_self]
      refine hK3 _ _ ?_
      refine awp_prune [0, 1, 5] ?_
      simp only [prune, List.map_cons, List.map_nil, Go.AM.look, Nat.reduceEqDiff, reduceIte]
      refine awp_seq_k fun K4 hK4 => ?_
      refine awp_block ?_
      refine awp_sd mixed rfl fun K hK => ?_
      simp -dsimp [hx]
      refine hK _ _ _ (by decide +kernel) ?_; clear hK K
      refine awp_cond rfl (fun hc2 => ?_) (fun hc2 => ?_)
      · skip
        skip
        simp at hc2
      · skip
        skip
        refine awp_skip ?_
        simp only [thenA, inBlockA, reduceIte, Nat.reduceEqDiff, eq_self]
        refine hK4 _ _ ?_
        refine awp_prune [0, 1, 5] ?_
        simp only [prune, List.map_cons, List.map_nil, Go.AM.look, Nat.reduceEqDiff, reduceIte]
        refine awp_r rfl fun K hK => ?_
        simp -dsimp [wk]
        refine hK _ _ ?_; clear hK K
        simp only [thenA, inBlockA, reduceIte, Nat.reduceEqDiff, eq_self]
        exact ⟨k + 1, by omega, by omega, sub_same (by simp)⟩
    · skip
      try simp at hc1
      refine awp_exit ?_
      simp only [thenA, inBlockA, reduceIte, Nat.reduceEqDiff, eq_self]
      refine hK2 _ _ ?_
      refine awp_prune [] ?_
      simp only [prune, List.map_cons, List.map_nil, Go.AM.look, Nat.reduceEqDiff, reduceIte]
      refine awp_sr rfl fun K hK => ?_
      simp -dsimp
      refine hK _ _ ?_; clear hK K
      exact awp_ret (by simp)

theorem zone_len {p : Plan} {a : Int} {x : Profile} {b : Int} {y : Profile} (hv : validB p = true) (ha : inr a 0 (p.Rails.length - 1) = true) : (zone p a x b y).length ≤ 31 := by
  have ia := inr_iff.1 ha
  have ra := rail_ok hv (r := a) (by omega) (by omega)
  have s30 := ra.s
  have gen : ∀ (l : List SS) (out : List Cover), (l.foldl (fun out s => if zoneHit p x b y s then zoneStep a out s else out) out).length ≤ out.length + l.length := by
    intro l
    induction l with
    | nil => intro out; simp
    | cons s l ih =>
      intro out
      simp only [List.foldl_cons]
      refine Nat.le_trans (ih _) ?_
      split
      · have := zoneStep_len a out s; simp; omega
      · simp
  have := gen (p.strips a) []
  rw [strips_len] at this
  unfold zone zoneL
  simp only [List.length_nil] at this
  omega

theorem c_SweepZones (p : Plan) (a : Int) (x : Profile) (b : Int) (y : Profile) (hf : p.Fit) : PureCall Try.prog 8 [p.av, I a, x.av, I b, y.av] (Bo true) := by
  cases hv : validB p with
  | false =>
    have h1 := c_Zone_v p a x b y hv
    have hval := c_Valid p
    rw [hv] at hval
    refine PureCall.of_body Try.func8 rfl (by decide) (by simp [Try.ntmps8]) ?_
    simp only [Try.ntmps8, Try.results8]
    refine awp_sr rfl fun K hK => ?_
    simp -dsimp
    refine hK _ _ ?_; clear hK K
    refine awp_seq_k fun K1 hK1 => ?_
    refine awp_sr rfl fun K hK => ?_
    simp -dsimp
    refine callK_intro _ (c_few p hf) (by simp) ?_
    simp -dsimp
    refine hK _ _ ?_; clear hK K
    refine awp_cond rfl (fun hc0 => ?_) (fun hc0 => ?_)
    · skip
      try simp at hc0
      refine awp_sr rfl fun K hK => ?_
      simp -dsimp
      refine callK_intro _ (c_known) (by simp) ?_
      simp -dsimp
      refine hK _ _ ?_; clear hK K
      exact awp_ret (by simp)
    · skip
      try simp at hc0
      refine awp_skip ?_
      simp only [thenA, inBlockA, reduceIte, Nat.reduceEqDiff, eq_self]
      refine hK1 _ _ ?_
      refine awp_prune [1, 3, 5, 7, 9] ?_
      simp only [prune, List.map_cons, List.map_nil, Go.AM.look, Nat.reduceEqDiff, reduceIte]
      refine awp_sr rfl fun K hK => ?_
      simp -dsimp
      refine callK_intro _ (h1) (by simp) ?_
      simp -dsimp
      refine hK _ _ ?_; clear hK K
      refine awp_seq_k fun K2 hK2 => ?_
      refine awp_sr rfl fun K hK => ?_
      simp -dsimp
      refine callK_intro _ (hval) (by simp) ?_
      simp -dsimp
      refine callK_may _ (fun hm => (by simp at hm : PureCall Try.prog 19 _ (Bo false))) (by simp) ?_
      simp -dsimp
      refine callK_may _ (fun hm => (by simp at hm : PureCall Try.prog 19 _ (Bo false))) (by simp) ?_
      simp -dsimp
      refine hK _ _ ?_; clear hK K
      refine awp_cond rfl (fun hc1 => ?_) (fun hc1 => ?_)
      · skip
        skip
        refine awp_sr rfl fun K hK => ?_
        simp -dsimp
        refine callK_may _ (fun hm => c_known) (by simp) ?_
        simp -dsimp
        refine hK _ _ ?_; clear hK K
        exact awp_ret (by simp)
      · skip
        skip
        simp at hc1
  | true =>
    have hval := c_Valid p
    rw [hv] at hval
    cases h : (inr a 0 (p.Rails.length - 1) && (inr b 0 (p.Rails.length - 1) && (profB x && profB y))) with
    | false =>
      have h1 := c_Zone_f p a x b y hv h
      refine PureCall.of_body Try.func8 rfl (by decide) (by simp [Try.ntmps8]) ?_
      simp only [Try.ntmps8, Try.results8]
      refine awp_sr rfl fun K hK => ?_
      simp -dsimp
      refine hK _ _ ?_; clear hK K
      refine awp_seq_k fun K1 hK1 => ?_
      refine awp_sr rfl fun K hK => ?_
      simp -dsimp
      refine callK_intro _ (c_few p hf) (by simp) ?_
      simp -dsimp
      refine hK _ _ ?_; clear hK K
      refine awp_cond rfl (fun hc0 => ?_) (fun hc0 => ?_)
      · skip
        try simp at hc0
        refine awp_sr rfl fun K hK => ?_
        simp -dsimp
        refine callK_intro _ (c_known) (by simp) ?_
        simp -dsimp
        refine hK _ _ ?_; clear hK K
        exact awp_ret (by simp)
      · skip
        try simp at hc0
        refine awp_skip ?_
        simp only [thenA, inBlockA, reduceIte, Nat.reduceEqDiff, eq_self]
        refine hK1 _ _ ?_
        refine awp_prune [1, 3, 5, 7, 9] ?_
        simp only [prune, List.map_cons, List.map_nil, Go.AM.look, Nat.reduceEqDiff, reduceIte]
        refine awp_sr rfl fun K hK => ?_
        simp -dsimp
        refine callK_intro _ (h1) (by simp) ?_
        simp -dsimp
        refine hK _ _ ?_; clear hK K
        refine awp_seq_k fun K2 hK2 => ?_
        refine awp_sr rfl fun K hK => ?_
        simp -dsimp
        refine callK_intro _ (hval) (by simp) ?_
        simp -dsimp
        refine callK_may _ (fun hm => c_rProfile x) (by simp) ?_
        simp -dsimp
        refine callK_may _ (fun hm => c_rProfile y) (by simp) ?_
        simp -dsimp
        refine hK _ _ ?_; clear hK K
        refine awp_cond rfl (fun hc1 => ?_) (fun hc1 => ?_)
        · skip
          skip
          refine awp_sr rfl fun K hK => ?_
          simp -dsimp
          refine callK_may _ (fun hm => c_known) (by simp) ?_
          simp -dsimp
          refine hK _ _ ?_; clear hK K
          exact awp_ret (by simp)
        · skip
          skip
          exfalso; simp at hc1; simp [hc1, inr] at h; omega
    | true =>
      have hall : inr a 0 (p.Rails.length - 1) = true ∧ inr b 0 (p.Rails.length - 1) = true ∧ profB x = true ∧ profB y = true := by simpa using h
      obtain ⟨ha, hb, hx, hy⟩ := hall
      have ia := inr_iff.1 ha
      have ib := inr_iff.1 hb
      have h1 := c_Zone_t p a x b y hv ha hb hx hy
      have hz := c_rZone p a x b y hv ha hb hx hy
      have hpx := c_rProfile x
      have hpy := c_rProfile y
      rw [hx] at hpx
      rw [hy] at hpy
      have hs := c_Same (zone p a x b y) (by have := zone_len (x := x) (b := b) (y := y) hv ha; omega)
      have na : ¬ a < 0 ∧ ¬ ((p.Rails.length : Int) ≤ a) := by omega
      have nb : ¬ b < 0 ∧ ¬ ((p.Rails.length : Int) ≤ b) := by omega
      refine PureCall.of_body Try.func8 rfl (by decide) (by simp [Try.ntmps8]) ?_
      simp only [Try.ntmps8, Try.results8]
      refine awp_sr rfl fun K hK => ?_
      simp -dsimp
      refine hK _ _ ?_; clear hK K
      refine awp_seq_k fun K1 hK1 => ?_
      refine awp_sr rfl fun K hK => ?_
      simp -dsimp
      refine callK_intro _ (c_few p hf) (by simp) ?_
      simp -dsimp
      refine hK _ _ ?_; clear hK K
      refine awp_cond rfl (fun hc0 => ?_) (fun hc0 => ?_)
      · skip
        try simp at hc0
        refine awp_sr rfl fun K hK => ?_
        simp -dsimp
        refine callK_intro _ (c_known) (by simp) ?_
        simp -dsimp
        refine hK _ _ ?_; clear hK K
        exact awp_ret (by simp)
      · skip
        try simp at hc0
        refine awp_skip ?_
        simp only [thenA, inBlockA, reduceIte, Nat.reduceEqDiff, eq_self]
        refine hK1 _ _ ?_
        refine awp_prune [1, 3, 5, 7, 9] ?_
        simp only [prune, List.map_cons, List.map_nil, Go.AM.look, Nat.reduceEqDiff, reduceIte]
        refine awp_sr rfl fun K hK => ?_
        simp -dsimp
        refine callK_intro _ (h1) (by simp) ?_
        simp -dsimp
        refine hK _ _ ?_; clear hK K
        refine awp_seq_k fun K2 hK2 => ?_
        refine awp_sr rfl fun K hK => ?_
        simp -dsimp [na, nb]
        refine callK_intro _ (hval) (by simp) ?_
        simp -dsimp [na, nb]
        refine callK_may _ (fun hm => hpx) (by simp) ?_
        simp -dsimp [na, nb]
        refine callK_may _ (fun hm => hpy) (by simp) ?_
        simp -dsimp [na, nb]
        refine hK _ _ ?_; clear hK K
        refine awp_cond rfl (fun hc1 => ?_) (fun hc1 => ?_)
        · skip
          skip
          simp at hc1
        · skip
          skip
          refine awp_skip ?_
          simp only [thenA, inBlockA, reduceIte, Nat.reduceEqDiff, eq_self]
          refine hK2 _ _ ?_
          refine awp_prune [1, 3, 5, 7, 9, 11, 12] ?_
          simp only [prune, List.map_cons, List.map_nil, Go.AM.look, Nat.reduceEqDiff, reduceIte]
          refine awp_sr rfl fun K hK => ?_
          simp -dsimp
          refine callK_may _ (fun hm => hz) (by simp) ?_
          simp -dsimp
          refine callK_may _ (fun hm => hs) (by simp) ?_
          simp -dsimp
          refine callK_may _ (fun hm => c_known) (by simp) ?_
          simp -dsimp
          refine hK _ _ ?_; clear hK K
          exact awp_ret (by simp)
end Go.Tram
