/- Walks: the specification of what is foul of a rail. -/
import Derived.Test.YteodgilndjjgdaaR4
import Derived.Test.YteodgilndjjgdaaW16
namespace Go.Tram
open Go.AM Go.Proofs
set_option maxRecDepth 10000
set_option maxHeartbeats 4000000
set_option linter.unusedVariables false
set_option linter.unusedSimpArgs false

theorem zoneHit_range (p : Plan) (x : Profile) (b : Int) (y : Profile) (s : SS) : zoneHit p x b y s = (List.range ((p.rail b).Shape.length + 1)).any fun j => foulB s x (stripOf (p.line b) b j) y := by
  simp [zoneHit, Plan.strips, stripsTo, List.any_map, Function.comp_def]
theorem any_range_succ (f : Nat → Bool) (n : Nat) : (List.range (n + 1)).any f = ((List.range n).any f || f n) := by
  rw [List.range_succ, List.any_append]; simp

theorem c_rZone (p : Plan) (a : Int) (x : Profile) (b : Int) (y : Profile) (hv : validB p = true) (ha : inr a 0 (p.Rails.length - 1) = true) (hb : inr b 0 (p.Rails.length - 1) = true) (hx : profB x = true) (hy : profB y = true) :
    PureCall Try.prog 35 [p.av, I a, x.av, I b, y.av] (.lst 3 ((zone p a x b y).map Cover.cells)) := by
  have ia := inr_iff.1 ha
  have ib := inr_iff.1 hb
  have ra := rail_ok hv (r := a) (by omega) (by omega)
  have rb := rail_ok hv (r := b) (by omega) (by omega)
  have s30 := ra.s
  have t30 := rb.s
  have sla := strips_len p a
  have ca := c_rStrips p a (by omega) (by omega) (by omega)
  have cb := c_rStrips p b (by omega) (by omega) (by omega)
  refine PureCall.of_body Try.func35 rfl (by decide) (by simp [Try.ntmps35]) ?_
  simp only [Try.ntmps35, Try.results35]
  refine awp_sr rfl fun K hK => ?_
  simp -dsimp
  refine hK _ _ ?_; clear hK K
  refine awp_sr rfl fun K hK => ?_
  simp -dsimp
  refine hK _ _ ?_; clear hK K
  refine awp_seq_k fun K1 hK1 => ?_
  refine awp_sr rfl fun K hK => ?_
  simp -dsimp
  refine hK _ _ ?_; clear hK K
  refine awp_block ?_
  refine awp_prune [1, 3, 5, 7, 9, 11, 12] ?_
  simp only [prune, List.map_cons, List.map_nil, Go.AM.look, Nat.reduceEqDiff, reduceIte]
  refine awp_loop_l [1, 3, 5, 7, 9] (α := Nat) (fun k => [(12, I k), (11, .row 3 0 (zoneL p a x b y ((p.strips a).take k)).length)]) (fun k => [some (.els 2 [p.cells]), some (.els 2 [x.cells]), some (.els 2 [y.cells]), some (.els 3 ((zoneL p a x b y ((p.strips a).take k)).map Cover.cells))]) (fun k => k ≤ (p.rail a).Shape.length + 1 ∧ (zoneL p a x b y ((p.strips a).take k)).length ≤ k) (fun k => (p.rail a).Shape.length + 1 - k) 0 ?_ ?_ ?_
  · simp [zoneL]
  · exact (sub_nil 11 3 (by simp)).trans (sub_rb [some 0, some 1, some 2, some 3] rfl (by simp [zoneL]) (by simp [zoneL]))
  rintro k ⟨k1, k2⟩
  have hst : ∀ s, (p.strips a)[k]? = some s → zoneL p a x b y ((p.strips a).take (k + 1)) = if zoneHit p x b y s then zoneStep a (zoneL p a x b y ((p.strips a).take k)) s else zoneL p a x b y ((p.strips a).take k) := fun s h => zoneL_take h
  have hfin : k = (p.rail a).Shape.length + 1 → zoneL p a x b y ((p.strips a).take k) = zone p a x b y := fun h => by rw [List.take_of_length_le (by omega)]; rfl
  generalize hout : zoneL p a x b y ((p.strips a).take k) = out at hst k2 hfin ⊢
  have hsl : ∀ s, (zoneStep a out s).length ≤ k + 1 := fun s => by have := zoneStep_len a out s; omega
  have f1 : Fits (out.length + 1) 25 := fits_of (by omega) (by omega)
  have hct := cov_take out
  rcases nil_or_snoc out with ho | ⟨i, c, ho⟩
  all_goals subst ho
  · skip
    simp only [List.cons_append, List.nil_append, prune, List.map_cons, List.map_nil, Go.AM.look, Nat.reduceEqDiff, reduceIte]
    refine awp_seq_k fun K2 hK2 => ?_
    refine awp_sr rfl fun K hK => ?_
    simp -dsimp
    refine callK_intro _ (ca) (by simp) ?_
    simp -dsimp
    refine hK _ _ ?_; clear hK K
    refine awp_cond rfl (fun hc0 => ?_) (fun hc0 => ?_)
    · skip
      try simp at hc0
      have wk : IntKind.i64.wrap ((k : Int) + 1) = (k : Int) + 1 := wrap_in (by omega) (by omega)
      have hkn : k < (p.rail a).Shape.length + 1 := by omega
      have hz := hst _ (strips_get hkn)
      have hzl := hsl (stripOf (p.line a) a k)
      refine awp_skip ?_
      simp only [thenA, inBlockA, reduceIte, Nat.reduceEqDiff, eq_self]
      refine hK2 _ _ ?_
      refine awp_prune [1, 3, 5, 7, 9, 11, 12] ?_
      simp only [prune, List.map_cons, List.map_nil, Go.AM.look, Nat.reduceEqDiff, reduceIte]
      refine awp_seq_k fun K3 hK3 => ?_
      refine awp_block ?_
      refine awp_sr rfl fun K hK => ?_
      simp -dsimp
      refine hK _ _ ?_; clear hK K
      refine awp_sr rfl fun K hK => ?_
      simp -dsimp
      refine hK _ _ ?_; clear hK K
      refine awp_seq_k fun K4 hK4 => ?_
      refine awp_sr rfl fun K hK => ?_
      simp -dsimp
      refine hK _ _ ?_; clear hK K
      refine awp_block ?_
      refine awp_prune [1, 3, 5, 7, 9, 11, 12, 13, 14, 15] ?_
      simp only [prune, List.map_cons, List.map_nil, Go.AM.look, Nat.reduceEqDiff, reduceIte]
      refine awp_loop_l [1, 3, 5, 7, 9, 11, 12, 13] (α := Nat) (fun j => [(15, I j), (14, Bo ((List.range j).any fun j => foulB (stripOf (p.line a) a k) x (stripOf (p.line b) b j) y))]) (fun _ => [some (.els 2 [p.cells]), some (.els 2 [x.cells]), some (.els 2 [y.cells]), some (.els 3 (([] : List Cover).map Cover.cells)), some (.els 2 [[I a, I k]])]) (fun j => j ≤ (p.rail b).Shape.length + 1) (fun j => (p.rail b).Shape.length + 1 - j) 0 ?_ ?_ ?_
      · simp
      · exact sub_rb [some 0, some 1, some 2, some 3, some 4] rfl (by simp) (by simp)
      rintro j j1
      simp only [List.cons_append, List.nil_append, prune, List.map_cons, List.map_nil, Go.AM.look, Nat.reduceEqDiff, reduceIte]
      refine awp_seq_k fun K5 hK5 => ?_
      refine awp_sr rfl fun K hK => ?_
      simp -dsimp
      refine callK_intro _ (cb) (by simp) ?_
      simp -dsimp
      refine hK _ _ ?_; clear hK K
      refine awp_cond rfl (fun hc1 => ?_) (fun hc1 => ?_)
      · skip
        try simp at hc1
        have wj : IntKind.i64.wrap ((j : Int) + 1) = (j : Int) + 1 := wrap_in (by omega) (by omega)
        refine awp_skip ?_
        simp only [thenA, inBlockA, reduceIte, Nat.reduceEqDiff, eq_self]
        refine hK5 _ _ ?_
        refine awp_prune [1, 3, 5, 7, 9, 11, 12, 13, 14, 15] ?_
        simp only [prune, List.map_cons, List.map_nil, Go.AM.look, Nat.reduceEqDiff, reduceIte]
        refine awp_seq_k fun K6 hK6 => ?_
        refine awp_block ?_
        refine awp_r rfl fun K hK => ?_
        simp -dsimp
        refine callK_may _ (fun hm => c_rFoul p a k x b j y (by omega) (by omega) ra (by omega) (by omega) (by omega) rb (by omega) hx hy) (by simp) ?_
        simp -dsimp
        refine hK _ _ ?_; clear hK K
        simp only [thenA, inBlockA, reduceIte, Nat.reduceEqDiff, eq_self]
        refine hK6 _ _ ?_
        refine awp_prune [1, 3, 5, 7, 9, 11, 12, 13, 14, 15] ?_
        simp only [prune, List.map_cons, List.map_nil, Go.AM.look, Nat.reduceEqDiff, reduceIte]
        refine awp_r rfl fun K hK => ?_
        simp -dsimp [wj]
        refine hK _ _ ?_; clear hK K
        simp only [thenA, inBlockA, reduceIte, Nat.reduceEqDiff, eq_self]
        exact ⟨j + 1, by omega, by omega, sub_rb [some 0, some 1, some 2, some 3, some 4] rfl (by simp [any_range_succ]) (by simp)⟩
      · skip
        try simp at hc1
        have hje : j = (p.rail b).Shape.length + 1 := by omega
        subst hje
        refine awp_exit ?_
        simp only [thenA, inBlockA, reduceIte, Nat.reduceEqDiff, eq_self]
        refine hK4 _ _ ?_
        refine awp_prune [1, 3, 5, 7, 9, 11, 12, 13, 14] ?_
        simp only [prune, List.map_cons, List.map_nil, Go.AM.look, Nat.reduceEqDiff, reduceIte]
        refine awp_seq_k fun K7 hK7 => ?_
        refine awp_sr rfl fun K hK => ?_
        simp -dsimp
        refine hK _ _ ?_; clear hK K
        refine awp_cond rfl (fun hc2 => ?_) (fun hc2 => ?_)
        · skip
          have hh := zoneHit_range p x b y (stripOf (p.line a) a k)
          simp only [Bool.not_eq_true', Bool.not_eq_false'] at hc2
          rw [← hh] at hc2
          rw [hc2] at hz
          simp only [Bool.false_eq_true, if_false, if_true] at hz
          refine awp_exit ?_
          simp only [thenA, inBlockA, reduceIte, Nat.reduceEqDiff, eq_self]
          refine hK3 _ _ ?_
          refine awp_prune [1, 3, 5, 7, 9, 11, 12] ?_
          simp only [prune, List.map_cons, List.map_nil, Go.AM.look, Nat.reduceEqDiff, reduceIte]
          refine awp_r rfl fun K hK => ?_
          simp -dsimp [wk]
          refine hK _ _ ?_; clear hK K
          simp only [thenA, inBlockA, reduceIte, Nat.reduceEqDiff, eq_self]
          exact ⟨k + 1, ⟨by omega, by rw [hz]; omega⟩, by omega, sub_rb [some 0, some 1, some 2, some 3] rfl (by simp [hz]) (by simp [hz])⟩
        · skip
          have hh := zoneHit_range p x b y (stripOf (p.line a) a k)
          simp only [Bool.not_eq_true', Bool.not_eq_false'] at hc2
          rw [← hh] at hc2
          rw [hc2] at hz
          simp only [Bool.false_eq_true, if_false, if_true] at hz
          refine awp_skip ?_
          simp only [thenA, inBlockA, reduceIte, Nat.reduceEqDiff, eq_self]
          refine hK7 _ _ ?_
          refine awp_prune [1, 3, 5, 7, 9, 11, 12, 13] ?_
          simp only [prune, List.map_cons, List.map_nil, Go.AM.look, Nat.reduceEqDiff, reduceIte]
          refine awp_sr rfl fun K hK => ?_
          simp -dsimp
          refine callK_intro _ (c_rPlace p a k (by omega) (by omega) ra (by omega)) (by simp) ?_
          simp -dsimp
          refine hK _ _ ?_; clear hK K
          refine awp_sr rfl fun K hK => ?_
          simp -dsimp [List.length_append, List.length_singleton]
          refine hK _ _ ?_; clear hK K
          refine awp_sr rfl fun K hK => ?_
          simp -dsimp
          refine hK _ _ ?_; clear hK K
          refine awp_cond rfl (fun hc3 => ?_) (fun hc3 => ?_)
          · skip
            skip
            simp at hc3
          · skip
            skip
            rw [zoneStep_nil] at hz
            refine awp_r rfl fun K hK => ?_
            simp -dsimp [fits1]
            refine hK _ _ ?_; clear hK K
            simp only [thenA, inBlockA, reduceIte, Nat.reduceEqDiff, eq_self]
            refine hK3 _ _ ?_
            refine awp_prune [1, 3, 5, 7, 9, 11, 12] ?_
            simp only [prune, List.map_cons, List.map_nil, Go.AM.look, Nat.reduceEqDiff, reduceIte]
            refine awp_r rfl fun K hK => ?_
            simp -dsimp [wk]
            refine hK _ _ ?_; clear hK K
            simp only [thenA, inBlockA, reduceIte, Nat.reduceEqDiff, eq_self]
            exact ⟨k + 1, ⟨by omega, by rw [hz]; simp⟩, by omega, sub_rb [some 0, some 1, some 2, some 5] rfl (by simp [hz]) (by simp [hz, stripOf])⟩
    · skip
      try simp at hc0
      have hze := hfin (by omega)
      refine awp_exit ?_
      simp only [thenA, inBlockA, reduceIte, Nat.reduceEqDiff, eq_self]
      refine hK1 _ _ ?_
      refine awp_prune [11] ?_
      simp only [prune, List.map_cons, List.map_nil, Go.AM.look, Nat.reduceEqDiff, reduceIte]
      refine awp_sr rfl fun K hK => ?_
      simp -dsimp
      refine hK _ _ ?_; clear hK K
      exact awp_ret (by simp [← hze])
  · skip
    simp only [List.cons_append, List.nil_append, prune, List.map_cons, List.map_nil, Go.AM.look, Nat.reduceEqDiff, reduceIte]
    refine awp_seq_k fun K8 hK8 => ?_
    refine awp_sr rfl fun K hK => ?_
    simp -dsimp
    refine callK_intro _ (ca) (by simp) ?_
    simp -dsimp
    refine hK _ _ ?_; clear hK K
    refine awp_cond rfl (fun hc0 => ?_) (fun hc0 => ?_)
    · skip
      try simp at hc0
      have wk : IntKind.i64.wrap ((k : Int) + 1) = (k : Int) + 1 := wrap_in (by omega) (by omega)
      have hkn : k < (p.rail a).Shape.length + 1 := by omega
      have hz := hst _ (strips_get hkn)
      have hzl := hsl (stripOf (p.line a) a k)
      refine awp_skip ?_
      simp only [thenA, inBlockA, reduceIte, Nat.reduceEqDiff, eq_self]
      refine hK8 _ _ ?_
      refine awp_prune [1, 3, 5, 7, 9, 11, 12] ?_
      simp only [prune, List.map_cons, List.map_nil, Go.AM.look, Nat.reduceEqDiff, reduceIte]
      refine awp_seq_k fun K9 hK9 => ?_
      refine awp_block ?_
      refine awp_sr rfl fun K hK => ?_
      simp -dsimp
      refine hK _ _ ?_; clear hK K
      refine awp_sr rfl fun K hK => ?_
      simp -dsimp
      refine hK _ _ ?_; clear hK K
      refine awp_seq_k fun K10 hK10 => ?_
      refine awp_sr rfl fun K hK => ?_
      simp -dsimp
      refine hK _ _ ?_; clear hK K
      refine awp_block ?_
      refine awp_prune [1, 3, 5, 7, 9, 11, 12, 13, 14, 15] ?_
      simp only [prune, List.map_cons, List.map_nil, Go.AM.look, Nat.reduceEqDiff, reduceIte]
      refine awp_loop_l [1, 3, 5, 7, 9, 11, 12, 13] (α := Nat) (fun j => [(15, I j), (14, Bo ((List.range j).any fun j => foulB (stripOf (p.line a) a k) x (stripOf (p.line b) b j) y))]) (fun _ => [some (.els 2 [p.cells]), some (.els 2 [x.cells]), some (.els 2 [y.cells]), some (.els 3 ((i ++ [c]).map Cover.cells)), some (.els 2 [[I a, I k]])]) (fun j => j ≤ (p.rail b).Shape.length + 1) (fun j => (p.rail b).Shape.length + 1 - j) 0 ?_ ?_ ?_
      · simp
      · exact sub_rb [some 0, some 1, some 2, some 3, some 4] rfl (by simp) (by simp)
      rintro j j1
      simp only [List.cons_append, List.nil_append, prune, List.map_cons, List.map_nil, Go.AM.look, Nat.reduceEqDiff, reduceIte]
      refine awp_seq_k fun K11 hK11 => ?_
      refine awp_sr rfl fun K hK => ?_
      simp -dsimp
      refine callK_intro _ (cb) (by simp) ?_
      simp -dsimp
      refine hK _ _ ?_; clear hK K
      refine awp_cond rfl (fun hc1 => ?_) (fun hc1 => ?_)
      · skip
        try simp at hc1
        have wj : IntKind.i64.wrap ((j : Int) + 1) = (j : Int) + 1 := wrap_in (by omega) (by omega)
        refine awp_skip ?_
        simp only [thenA, inBlockA, reduceIte, Nat.reduceEqDiff, eq_self]
        refine hK11 _ _ ?_
        refine awp_prune [1, 3, 5, 7, 9, 11, 12, 13, 14, 15] ?_
        simp only [prune, List.map_cons, List.map_nil, Go.AM.look, Nat.reduceEqDiff, reduceIte]
        refine awp_seq_k fun K12 hK12 => ?_
        refine awp_block ?_
        refine awp_r rfl fun K hK => ?_
        simp -dsimp
        refine callK_may _ (fun hm => c_rFoul p a k x b j y (by omega) (by omega) ra (by omega) (by omega) (by omega) rb (by omega) hx hy) (by simp) ?_
        simp -dsimp
        refine hK _ _ ?_; clear hK K
        simp only [thenA, inBlockA, reduceIte, Nat.reduceEqDiff, eq_self]
        refine hK12 _ _ ?_
        refine awp_prune [1, 3, 5, 7, 9, 11, 12, 13, 14, 15] ?_
        simp only [prune, List.map_cons, List.map_nil, Go.AM.look, Nat.reduceEqDiff, reduceIte]
        refine awp_r rfl fun K hK => ?_
        simp -dsimp [wj]
        refine hK _ _ ?_; clear hK K
        simp only [thenA, inBlockA, reduceIte, Nat.reduceEqDiff, eq_self]
        exact ⟨j + 1, by omega, by omega, sub_rb [some 0, some 1, some 2, some 3, some 4] rfl (by simp [any_range_succ]) (by simp)⟩
      · skip
        try simp at hc1
        have hje : j = (p.rail b).Shape.length + 1 := by omega
        subst hje
        refine awp_exit ?_
        simp only [thenA, inBlockA, reduceIte, Nat.reduceEqDiff, eq_self]
        refine hK10 _ _ ?_
        refine awp_prune [1, 3, 5, 7, 9, 11, 12, 13, 14] ?_
        simp only [prune, List.map_cons, List.map_nil, Go.AM.look, Nat.reduceEqDiff, reduceIte]
        refine awp_seq_k fun K13 hK13 => ?_
        refine awp_sr rfl fun K hK => ?_
        simp -dsimp
        refine hK _ _ ?_; clear hK K
        refine awp_cond rfl (fun hc2 => ?_) (fun hc2 => ?_)
        · skip
          have hh := zoneHit_range p x b y (stripOf (p.line a) a k)
          simp only [Bool.not_eq_true', Bool.not_eq_false'] at hc2
          rw [← hh] at hc2
          rw [hc2] at hz
          simp only [Bool.false_eq_true, if_false, if_true] at hz
          refine awp_exit ?_
          simp only [thenA, inBlockA, reduceIte, Nat.reduceEqDiff, eq_self]
          refine hK9 _ _ ?_
          refine awp_prune [1, 3, 5, 7, 9, 11, 12] ?_
          simp only [prune, List.map_cons, List.map_nil, Go.AM.look, Nat.reduceEqDiff, reduceIte]
          refine awp_r rfl fun K hK => ?_
          simp -dsimp [wk]
          refine hK _ _ ?_; clear hK K
          simp only [thenA, inBlockA, reduceIte, Nat.reduceEqDiff, eq_self]
          exact ⟨k + 1, ⟨by omega, by rw [hz]; omega⟩, by omega, sub_rb [some 0, some 1, some 2, some 3] rfl (by simp [hz]) (by simp [hz])⟩
        · skip
          have hh := zoneHit_range p x b y (stripOf (p.line a) a k)
          simp only [Bool.not_eq_true', Bool.not_eq_false'] at hc2
          rw [← hh] at hc2
          rw [hc2] at hz
          simp only [Bool.false_eq_true, if_false, if_true] at hz
          refine awp_skip ?_
          simp only [thenA, inBlockA, reduceIte, Nat.reduceEqDiff, eq_self]
          refine hK13 _ _ ?_
          refine awp_prune [1, 3, 5, 7, 9, 11, 12, 13] ?_
          simp only [prune, List.map_cons, List.map_nil, Go.AM.look, Nat.reduceEqDiff, reduceIte]
          refine awp_sr rfl fun K hK => ?_
          simp -dsimp
          refine callK_intro _ (c_rPlace p a k (by omega) (by omega) ra (by omega)) (by simp) ?_
          simp -dsimp
          refine hK _ _ ?_; clear hK K
          refine awp_sr rfl fun K hK => ?_
          simp -dsimp [List.length_append, List.length_singleton]
          refine hK _ _ ?_; clear hK K
          refine awp_sr rfl fun K hK => ?_
          simp -dsimp [wrap_small i.length (by have := k2; simp at this; omega), snoc_get]
          refine hK _ _ ?_; clear hK K
          refine awp_cond rfl (fun hc3 => ?_) (fun hc3 => ?_)
          · skip
            skip
            have hse : c.To = (stripOf (p.line a) a k).From := by simpa [stripOf] using hc3
            rw [zoneStep_on hse] at hz
            refine awp_r rfl fun K hK => ?_
            simp -dsimp [wrap_small i.length (by have := k2; simp at this; omega), snoc_get, snoc_set]
            refine hK _ _ ?_; clear hK K
            simp only [thenA, inBlockA, reduceIte, Nat.reduceEqDiff, eq_self]
            refine hK9 _ _ ?_
            refine awp_prune [1, 3, 5, 7, 9, 11, 12] ?_
            simp only [prune, List.map_cons, List.map_nil, Go.AM.look, Nat.reduceEqDiff, reduceIte]
            refine awp_r rfl fun K hK => ?_
            simp -dsimp [wk]
            refine hK _ _ ?_; clear hK K
            simp only [thenA, inBlockA, reduceIte, Nat.reduceEqDiff, eq_self]
            exact ⟨k + 1, ⟨by omega, by rw [hz]; simp at k2 ⊢; omega⟩, by omega, sub_rb [some 0, some 1, some 2, some 3] rfl (by simp [hz]) (by simp [hz, stripOf])⟩
          · skip
            skip
            have hse : ¬ c.To = (stripOf (p.line a) a k).From := by simpa [stripOf] using hc3
            rw [zoneStep_new hse] at hz
            refine awp_r rfl fun K hK => ?_
            simp -dsimp [(fits_of (by have := k2; simp at this; omega) (by omega) : Fits (i.length + 1 + 1) 25), snoc_take]
            refine hK _ _ ?_; clear hK K
            simp only [thenA, inBlockA, reduceIte, Nat.reduceEqDiff, eq_self]
            refine hK9 _ _ ?_
            refine awp_prune [1, 3, 5, 7, 9, 11, 12] ?_
            simp only [prune, List.map_cons, List.map_nil, Go.AM.look, Nat.reduceEqDiff, reduceIte]
            refine awp_r rfl fun K hK => ?_
            simp -dsimp [wk]
            refine hK _ _ ?_; clear hK K
            simp only [thenA, inBlockA, reduceIte, Nat.reduceEqDiff, eq_self]
            exact ⟨k + 1, ⟨by omega, by rw [hz]; simp at k2 ⊢; omega⟩, by omega, sub_rb [some 0, some 1, some 2, some 5] rfl (by simp [hz]) (by simp [hz, stripOf])⟩
    · skip
      try simp at hc0
      have hze := hfin (by omega)
      refine awp_exit ?_
      simp only [thenA, inBlockA, reduceIte, Nat.reduceEqDiff, eq_self]
      refine hK1 _ _ ?_
      refine awp_prune [11] ?_
      simp only [prune, List.map_cons, List.map_nil, Go.AM.look, Nat.reduceEqDiff, reduceIte]
      refine awp_sr rfl fun K hK => ?_
      simp -dsimp
      refine hK _ _ ?_; clear hK K
      exact awp_ret (by simp [← hze, snoc_take])
end Go.Tram
