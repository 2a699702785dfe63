/- Walks: the specification of rails that are foul, and of where they come nearest. -/
import Derived.Test.YteodgilndjjgdaaR3
import Derived.Test.YteodgilndjjgdaaV3
import Derived.Test.YteodgilndjjgdaaV4
namespace Go.Tram
open Go.AM Go.Proofs
set_option maxRecDepth 10000
set_option maxHeartbeats 4000000
set_option linter.unusedVariables false
set_option linter.unusedSimpArgs false

theorem c_rProfiles (l : List Profile) (hn : l.length ≤ 100000) : PureCall Try.prog 40 [.lst 2 (l.map Profile.cells)] (Bo (profsB l)) := by
  refine PureCall.of_body Try.func40 rfl (by decide) (by simp [Try.ntmps40]) ?_
  simp only [Try.ntmps40, Try.results40]
  refine awp_sr rfl fun K hK => ?_
  simp -dsimp
  refine hK _ _ ?_; clear hK K
  refine awp_seq_k fun K1 hK1 => ?_
  refine awp_sr rfl fun K hK => ?_
  simp -dsimp
  refine hK _ _ ?_; clear hK K
  refine awp_block ?_
  refine awp_prune [0, 3] ?_
  simp only [prune, List.map_cons, List.map_nil, Go.AM.look, Nat.reduceEqDiff, reduceIte]
  refine awp_loop_l [0] (α := Nat) (fun k => [(3, I k)]) (fun _ => []) (fun k => k ≤ l.length ∧ (l.take k).all profB = true) (fun k => l.length - k) 0 ?_ ?_ ?_
  · simp
  · exact sub_same (by simp)
  rintro k ⟨k1, k2⟩
  simp only [List.cons_append, List.nil_append, prune, List.map_cons, List.map_nil, Go.AM.look, Nat.reduceEqDiff, reduceIte]
  refine awp_seq_k fun K2 hK2 => ?_
  refine awp_sr rfl fun K hK => ?_
  simp -dsimp
  refine hK _ _ ?_; clear hK K
  refine awp_cond rfl (fun hc0 => ?_) (fun hc0 => ?_)
  · skip
    try simp at hc0
    obtain ⟨x, hx⟩ : ∃ x, l[k]? = some x := ⟨_, List.getElem?_eq_getElem hc0⟩
    have wk : IntKind.i64.wrap ((k : Int) + 1) = (k : Int) + 1 := wrap_in (by omega) (by omega)
    refine awp_skip ?_
    simp only [thenA, inBlockA, reduceIte, Nat.reduceEqDiff, eq_self]
    refine hK2 _ _ ?_
    refine awp_prune [0, 3] ?_
    simp only [prune, List.map_cons, List.map_nil, Go.AM.look, Nat.reduceEqDiff, reduceIte]
    refine awp_seq_k fun K3 hK3 => ?_
    refine awp_block ?_
    refine awp_sr rfl fun K hK => ?_
    simp -dsimp [hx]
    refine callK_intro _ (c_rProfile x) (by simp) ?_
    simp -dsimp [hx]
    refine hK _ _ ?_; clear hK K
    refine awp_cond rfl (fun hc1 => ?_) (fun hc1 => ?_)
    · skip
      try simp at hc1
      have hb : profsB l = false := by simp [profsB, all_ff hx hc1]
      refine awp_sr rfl fun K hK => ?_
      simp -dsimp
      refine hK _ _ ?_; clear hK K
      exact awp_ret (by simp [hb])
    · skip
      try simp at hc1
      refine awp_skip ?_
      simp only [thenA, inBlockA, reduceIte, Nat.reduceEqDiff, eq_self]
      refine hK3 _ _ ?_
      refine awp_prune [0, 3] ?_
      simp only [prune, List.map_cons, List.map_nil, Go.AM.look, Nat.reduceEqDiff, reduceIte]
      refine awp_r rfl fun K hK => ?_
      simp -dsimp [wk]
      refine hK _ _ ?_; clear hK K
      simp only [thenA, inBlockA, reduceIte, Nat.reduceEqDiff, eq_self]
      exact ⟨k + 1, ⟨by omega, by rw [take_all' hx, k2, hc1]; rfl⟩, by omega, sub_same (by simp)⟩
  · skip
    try simp at hc0
    have hall := all_of_take (by omega) k2
    refine awp_exit ?_
    simp only [thenA, inBlockA, reduceIte, Nat.reduceEqDiff, eq_self]
    refine hK1 _ _ ?_
    refine awp_prune [0] ?_
    simp only [prune, List.map_cons, List.map_nil, Go.AM.look, Nat.reduceEqDiff, reduceIte]
    refine awp_sr rfl fun K hK => ?_
    simp -dsimp
    refine callK_intro _ (c_in2 l.length 1 6) (by simp) ?_
    simp -dsimp
    refine hK _ _ ?_; clear hK K
    refine awp_ret ?_
    simp [profsB, hall, inr]
    exact Bool.eq_iff_iff.2 (by simp; omega)

theorem anyR_succ (f : Nat → Bool) (n : Nat) : (List.range (n + 1)).any f = ((List.range n).any f || f n) := by
  rw [List.range_succ, List.any_append]; simp
theorem anyR_hit {f : Nat → Bool} {n k : Nat} (hk : k < n) (h : f k = true) : (List.range n).any f = true := List.any_eq_true.2 ⟨k, List.mem_range.2 hk, h⟩

theorem c_rRails (p : Plan) (a : Int) (x : Profile) (b : Int) (y : Profile) (hv : validB p = true) (ha : inr a 0 (p.Rails.length - 1) = true) (hb : inr b 0 (p.Rails.length - 1) = true) (hx : profB x = true) (hy : profB y = true) :
    PureCall Try.prog 75 [p.av, I a, x.av, I b, y.av] (Bo (railsB p a x b y)) := by
  have ia := inr_iff.1 ha
  have ib := inr_iff.1 hb
  have ra := rail_ok hv (r := a) (by omega) (by omega)
  have rb := rail_ok hv (r := b) (by omega) (by omega)
  have s30 := ra.s
  have t30 := rb.s
  have ca := c_rStrips p a (by omega) (by omega) (by omega)
  have cb := c_rStrips p b (by omega) (by omega) (by omega)
  rw [railsB_range]
  generalize hg : (fun i k => foulB (stripOf (p.line a) a i) x (stripOf (p.line b) b k) y) = g
  have hgv : ∀ i k, foulB (stripOf (p.line a) a i) x (stripOf (p.line b) b k) y = g i k := fun i k => by rw [← hg]
  have hcf : ∀ i k : Nat, i < (p.rail a).Shape.length + 1 → k < (p.rail b).Shape.length + 1 → PureCall Try.prog 20 [p.av, sAV a i, x.av, sAV b k, y.av] (Bo (g i k)) := by
    intro i k hi hk
    rw [← hgv]
    exact c_rFoul p a i x b k y (by omega) (by omega) ra hi (by omega) (by omega) rb hk hx hy
  simp only [hgv]
  refine PureCall.of_body Try.func75 rfl (by decide) (by simp [Try.ntmps75]) ?_
  simp only [Try.ntmps75, Try.results75]
  refine awp_sr rfl fun K hK => ?_
  simp -dsimp
  refine hK _ _ ?_; clear hK K
  refine awp_seq_k fun K1 hK1 => ?_
  refine awp_sr rfl fun K hK => ?_
  simp -dsimp
  refine hK _ _ ?_; clear hK K
  refine awp_block ?_
  refine awp_prune [1, 3, 5, 7, 9, 11] ?_
  simp only [prune, List.map_cons, List.map_nil, Go.AM.look, Nat.reduceEqDiff, reduceIte]
  refine awp_loop_l [1, 3, 5, 7, 9] (α := Nat) (fun i => [(11, I i)]) (fun _ => [some (.els 2 [p.cells]), some (.els 2 [x.cells]), some (.els 2 [y.cells])]) (fun i => i ≤ (p.rail a).Shape.length + 1 ∧ ((List.range i).any fun i => (List.range ((p.rail b).Shape.length + 1)).any fun k => g i k) = false) (fun i => (p.rail a).Shape.length + 1 - i) 0 ?_ ?_ ?_
  · simp
  · exact sub_same (by simp)
  rintro i ⟨i1, i2⟩
  simp only [List.cons_append, List.nil_append, prune, List.map_cons, List.map_nil, Go.AM.look, Nat.reduceEqDiff, reduceIte]
  refine awp_seq_k fun K2 hK2 => ?_
  refine awp_sr rfl fun K hK => ?_
  simp -dsimp
  refine callK_intro _ (ca) (by simp) ?_
  simp -dsimp
  refine hK _ _ ?_; clear hK K
  refine awp_cond rfl (fun hc0 => ?_) (fun hc0 => ?_)
  · skip
    try simp at hc0
    have wi : IntKind.i64.wrap ((i : Int) + 1) = (i : Int) + 1 := wrap_in (by omega) (by omega)
    refine awp_skip ?_
    simp only [thenA, inBlockA, reduceIte, Nat.reduceEqDiff, eq_self]
    refine hK2 _ _ ?_
    refine awp_prune [1, 3, 5, 7, 9, 11] ?_
    simp only [prune, List.map_cons, List.map_nil, Go.AM.look, Nat.reduceEqDiff, reduceIte]
    refine awp_seq_k fun K3 hK3 => ?_
    refine awp_block ?_
    refine awp_sr rfl fun K hK => ?_
    simp -dsimp
    refine hK _ _ ?_; clear hK K
    refine awp_block ?_
    refine awp_prune [1, 3, 5, 7, 9, 11, 12] ?_
    simp only [prune, List.map_cons, List.map_nil, Go.AM.look, Nat.reduceEqDiff, reduceIte]
    refine awp_loop_l [1, 3, 5, 7, 9, 11] (α := Nat) (fun k => [(12, I k)]) (fun _ => [some (.els 2 [p.cells]), some (.els 2 [x.cells]), some (.els 2 [y.cells])]) (fun k => k ≤ (p.rail b).Shape.length + 1 ∧ ((List.range k).any fun k => g i k) = false) (fun k => (p.rail b).Shape.length + 1 - k) 0 ?_ ?_ ?_
    · simp
    · exact sub_same (by simp)
    rintro k ⟨k1, k2⟩
    simp only [List.cons_append, List.nil_append, prune, List.map_cons, List.map_nil, Go.AM.look, Nat.reduceEqDiff, reduceIte]
    refine awp_seq_k fun K4 hK4 => ?_
    refine awp_sr rfl fun K hK => ?_
    simp -dsimp
    refine callK_intro _ (cb) (by simp) ?_
    simp -dsimp
    refine hK _ _ ?_; clear hK K
    refine awp_cond rfl (fun hc1 => ?_) (fun hc1 => ?_)
    · skip
      try simp at hc1
      have wk : IntKind.i64.wrap ((k : Int) + 1) = (k : Int) + 1 := wrap_in (by omega) (by omega)
      refine awp_skip ?_
      simp only [thenA, inBlockA, reduceIte, Nat.reduceEqDiff, eq_self]
      refine hK4 _ _ ?_
      refine awp_prune [1, 3, 5, 7, 9, 11, 12] ?_
      simp only [prune, List.map_cons, List.map_nil, Go.AM.look, Nat.reduceEqDiff, reduceIte]
      refine awp_seq_k fun K5 hK5 => ?_
      refine awp_block ?_
      refine awp_sr rfl fun K hK => ?_
      simp -dsimp
      refine callK_intro _ (hcf i k (by omega) (by omega)) (by simp) ?_
      simp -dsimp
      refine hK _ _ ?_; clear hK K
      refine awp_cond rfl (fun hc2 => ?_) (fun hc2 => ?_)
      · skip
        try simp at hc2
        have hany : ((List.range ((p.rail a).Shape.length + 1)).any fun i => (List.range ((p.rail b).Shape.length + 1)).any fun k => g i k) = true := anyR_hit (k := i) (by omega) (anyR_hit (k := k) (by omega) hc2)
        refine awp_sr rfl fun K hK => ?_
        simp -dsimp
        refine hK _ _ ?_; clear hK K
        exact awp_ret (by simp only [hany]; simp)
      · skip
        try simp at hc2
        refine awp_skip ?_
        simp only [thenA, inBlockA, reduceIte, Nat.reduceEqDiff, eq_self]
        refine hK5 _ _ ?_
        refine awp_prune [1, 3, 5, 7, 9, 11, 12] ?_
        simp only [prune, List.map_cons, List.map_nil, Go.AM.look, Nat.reduceEqDiff, reduceIte]
        refine awp_r rfl fun K hK => ?_
        simp -dsimp [wk]
        refine hK _ _ ?_; clear hK K
        simp only [thenA, inBlockA, reduceIte, Nat.reduceEqDiff, eq_self]
        exact ⟨k + 1, ⟨by omega, by rw [anyR_succ, k2, hc2]; rfl⟩, by omega, sub_same (by simp)⟩
    · skip
      try simp at hc1
      have hke : k = (p.rail b).Shape.length + 1 := by omega
      subst hke
      refine awp_exit ?_
      simp only [thenA, inBlockA, reduceIte, Nat.reduceEqDiff, eq_self]
      refine hK3 _ _ ?_
      refine awp_prune [1, 3, 5, 7, 9, 11] ?_
      simp only [prune, List.map_cons, List.map_nil, Go.AM.look, Nat.reduceEqDiff, reduceIte]
      refine awp_r rfl fun K hK => ?_
      simp -dsimp [wi]
      refine hK _ _ ?_; clear hK K
      simp only [thenA, inBlockA, reduceIte, Nat.reduceEqDiff, eq_self]
      exact ⟨i + 1, ⟨by omega, by rw [anyR_succ, i2, k2]; rfl⟩, by omega, sub_same (by simp)⟩
  · skip
    try simp at hc0
    have hie : i = (p.rail a).Shape.length + 1 := by omega
    subst hie
    refine awp_exit ?_
    simp only [thenA, inBlockA, reduceIte, Nat.reduceEqDiff, eq_self]
    refine hK1 _ _ ?_
    refine awp_prune [] ?_
    simp only [prune, List.map_cons, List.map_nil, Go.AM.look, Nat.reduceEqDiff, reduceIte]
    refine awp_sr rfl fun K hK => ?_
    simp -dsimp
    refine hK _ _ ?_; clear hK K
    exact awp_ret (by simp only [i2]; simp)

theorem c_rFouls (p : Plan) (l : List Profile) (hv : validB p = true) (h : profsB l = true) (hN : p.Rails.length ≤ 12) : PureCall Try.prog 42 [p.av, .lst 2 (l.map Profile.cells)] (.lst 4 ((foulsL p l).map Foul.cells)) := by
  have hl : 1 ≤ l.length ∧ l.length ≤ 6 ∧ ∀ x ∈ l, profB x = true := by simpa [profsB] using h
  obtain ⟨hl1, hl6, hpr⟩ := hl
  have hcf := fun a x b y => c_rRails p a x b y hv
  refine PureCall.of_body Try.func42 rfl (by decide) (by simp [Try.ntmps42]) ?_
  simp only [Try.ntmps42, Try.results42]
  refine awp_sr rfl fun K hK => ?_
  simp -dsimp
  refine hK _ _ ?_; clear hK K
  refine awp_sr rfl fun K hK => ?_
  simp -dsimp
  refine hK _ _ ?_; clear hK K
  refine awp_seq_k fun K1 hK1 => ?_
  refine awp_sr rfl fun K hK => ?_
  simp -dsimp
  refine hK _ _ ?_; clear hK K
  refine awp_block ?_
  refine awp_prune [1, 2, 5, 6] ?_
  simp only [prune, List.map_cons, List.map_nil, Go.AM.look, Nat.reduceEqDiff, reduceIte]
  refine awp_loop_l [1, 2] (α := Nat) (fun a => [(6, I a), (5, .row 1 0 (fA p l a).length)]) (fun a => [some (.els 2 [p.cells]), some (.els 4 ((fA p l a).map Foul.cells))]) (fun a => a ≤ p.Rails.length) (fun a => p.Rails.length - a) 0 ?_ ?_ ?_
  · simp
  · exact (sub_nil 5 4 (by simp)).trans (sub_rb [some 0, some 1] rfl (by simp [fA]) (by simp [fA]))
  rintro a a1
  simp only [List.cons_append, List.nil_append, prune, List.map_cons, List.map_nil, Go.AM.look, Nat.reduceEqDiff, reduceIte]
  refine awp_seq_k fun K2 hK2 => ?_
  refine awp_sr rfl fun K hK => ?_
  simp -dsimp
  refine hK _ _ ?_; clear hK K
  refine awp_cond rfl (fun hc0 => ?_) (fun hc0 => ?_)
  · skip
    try simp at hc0
    have wa : IntKind.i64.wrap ((a : Int) + 1) = (a : Int) + 1 := wrap_in (by omega) (by omega)
    refine awp_skip ?_
    simp only [thenA, inBlockA, reduceIte, Nat.reduceEqDiff, eq_self]
    refine hK2 _ _ ?_
    refine awp_prune [1, 2, 5, 6] ?_
    simp only [prune, List.map_cons, List.map_nil, Go.AM.look, Nat.reduceEqDiff, reduceIte]
    refine awp_seq_k fun K3 hK3 => ?_
    refine awp_block ?_
    refine awp_sr rfl fun K hK => ?_
    simp -dsimp
    refine hK _ _ ?_; clear hK K
    refine awp_block ?_
    refine awp_prune [1, 2, 5, 6, 7] ?_
    simp only [prune, List.map_cons, List.map_nil, Go.AM.look, Nat.reduceEqDiff, reduceIte]
    refine awp_loop_l [1, 2, 6] (α := Nat) (fun i => [(7, I i), (5, .row 1 0 (fA p l a ++ fI p l a i).length)]) (fun i => [some (.els 2 [p.cells]), some (.els 4 ((fA p l a ++ fI p l a i).map Foul.cells))]) (fun i => i ≤ l.length) (fun i => l.length - i) 0 ?_ ?_ ?_
    · simp
    · exact sub_rb [some 0, some 1] rfl (by simp [fI]) (by simp [fI])
    rintro i i1
    simp only [List.cons_append, List.nil_append, prune, List.map_cons, List.map_nil, Go.AM.look, Nat.reduceEqDiff, reduceIte]
    refine awp_seq_k fun K4 hK4 => ?_
    refine awp_sr rfl fun K hK => ?_
    simp -dsimp
    refine hK _ _ ?_; clear hK K
    refine awp_cond rfl (fun hc1 => ?_) (fun hc1 => ?_)
    · skip
      try simp at hc1
      have wi : IntKind.i64.wrap ((i : Int) + 1) = (i : Int) + 1 := wrap_in (by omega) (by omega)
      obtain ⟨x, hx⟩ : ∃ x, l[i]? = some x := ⟨_, List.getElem?_eq_getElem hc1⟩
      have px := hpr x (List.mem_of_getElem? hx)
      refine awp_skip ?_
      simp only [thenA, inBlockA, reduceIte, Nat.reduceEqDiff, eq_self]
      refine hK4 _ _ ?_
      refine awp_prune [1, 2, 5, 6, 7] ?_
      simp only [prune, List.map_cons, List.map_nil, Go.AM.look, Nat.reduceEqDiff, reduceIte]
      refine awp_seq_k fun K5 hK5 => ?_
      refine awp_block ?_
      refine awp_sr rfl fun K hK => ?_
      simp -dsimp
      refine hK _ _ ?_; clear hK K
      refine awp_block ?_
      refine awp_prune [1, 2, 5, 6, 7, 8] ?_
      simp only [prune, List.map_cons, List.map_nil, Go.AM.look, Nat.reduceEqDiff, reduceIte]
      refine awp_loop_l [1, 2, 6, 7] (α := Nat) (fun d => [(8, I ((a : Int) + d)), (5, .row 1 0 (fA p l a ++ fI p l a i ++ fB p l a i d).length)]) (fun d => [some (.els 2 [p.cells]), some (.els 4 ((fA p l a ++ fI p l a i ++ fB p l a i d).map Foul.cells))]) (fun d => d ≤ p.Rails.length - a) (fun d => p.Rails.length - a - d) 0 ?_ ?_ ?_
      · simp
      · exact sub_rb [some 0, some 1] rfl (by simp [fB]) (by simp [fB])
      rintro d d1
      simp only [List.cons_append, List.nil_append, prune, List.map_cons, List.map_nil, Go.AM.look, Nat.reduceEqDiff, reduceIte]
      refine awp_seq_k fun K6 hK6 => ?_
      refine awp_sr rfl fun K hK => ?_
      simp -dsimp
      refine hK _ _ ?_; clear hK K
      refine awp_cond rfl (fun hc2 => ?_) (fun hc2 => ?_)
      · skip
        try simp at hc2
        have wd : IntKind.i64.wrap ((a : Int) + d + 1) = (a : Int) + d + 1 := wrap_in (by omega) (by omega)
        refine awp_skip ?_
        simp only [thenA, inBlockA, reduceIte, Nat.reduceEqDiff, eq_self]
        refine hK6 _ _ ?_
        refine awp_prune [1, 2, 5, 6, 7, 8] ?_
        simp only [prune, List.map_cons, List.map_nil, Go.AM.look, Nat.reduceEqDiff, reduceIte]
        refine awp_seq_k fun K7 hK7 => ?_
        refine awp_block ?_
        refine awp_sr rfl fun K hK => ?_
        simp -dsimp
        refine hK _ _ ?_; clear hK K
        refine awp_block ?_
        refine awp_prune [1, 2, 5, 6, 7, 8, 9] ?_
        simp only [prune, List.map_cons, List.map_nil, Go.AM.look, Nat.reduceEqDiff, reduceIte]
        refine awp_loop_l [1, 2, 6, 7, 8] (α := Nat) (fun k => [(9, I k), (5, .row 1 0 (fA p l a ++ fI p l a i ++ fB p l a i d ++ fK p l a i (a + d) k).length)]) (fun k => [some (.els 2 [p.cells]), some (.els 4 ((fA p l a ++ fI p l a i ++ fB p l a i d ++ fK p l a i (a + d) k).map Foul.cells))]) (fun k => k ≤ l.length) (fun k => l.length - k) 0 ?_ ?_ ?_
        · simp
        · exact sub_rb [some 0, some 1] rfl (by simp [fK]) (by simp [fK])
        rintro k k1
        have hbd := fouls_bd p l (N := 12) (a := a) (i := i) (d := d) (k := k) hN (by omega) hc0 i1 (by omega) k1
        have hsK := fK_succ p l a i (a + d) k
        have hsB := fB_succ p l a i d
        generalize hout : fA p l a ++ fI p l a i ++ fB p l a i d ++ fK p l a i (a + d) k = out at hbd ⊢
        have f1 : Fits (out.length + 1) 33 := fits_of (by omega) (by omega)
        have hot := fl_take out
        simp only [List.cons_append, List.nil_append, prune, List.map_cons, List.map_nil, Go.AM.look, Nat.reduceEqDiff, reduceIte]
        refine awp_seq_k fun K8 hK8 => ?_
        refine awp_sr rfl fun K hK => ?_
        simp -dsimp
        refine hK _ _ ?_; clear hK K
        refine awp_cond rfl (fun hc3 => ?_) (fun hc3 => ?_)
        · skip
          try simp at hc3
          have wk : IntKind.i64.wrap ((k : Int) + 1) = (k : Int) + 1 := wrap_in (by omega) (by omega)
          obtain ⟨y, hy⟩ : ∃ y, l[k]? = some y := ⟨_, List.getElem?_eq_getElem hc3⟩
          have py := hpr y (List.mem_of_getElem? hy)
          have hF : hitF p l a i (a + d) k = ((decide ((a : Int) < a + d) || decide (i ≤ k)) && railsB p a x ((a : Int) + d) y) := by unfold hitF; rw [pr_get hx, pr_get hy, Int.natCast_add, show decide (a < a + d) = decide ((a : Int) < a + d) from decide_eq_decide.2 (by omega)]
          refine awp_skip ?_
          simp only [thenA, inBlockA, reduceIte, Nat.reduceEqDiff, eq_self]
          refine hK8 _ _ ?_
          refine awp_prune [1, 2, 5, 6, 7, 8, 9] ?_
          simp only [prune, List.map_cons, List.map_nil, Go.AM.look, Nat.reduceEqDiff, reduceIte]
          refine awp_seq_k fun K9 hK9 => ?_
          refine awp_block ?_
          refine awp_sd mixed rfl fun K hK => ?_
          simp -dsimp [hx, hy]
          refine idxK_intro x.cells (fun _ => by simp [hx]) ?_
          simp -dsimp [hx, hy]
          refine idxK_intro y.cells (fun _ => by simp [hy]) ?_
          simp -dsimp [hx, hy]
          refine callK_may _ (fun hm => hcf a x ((a : Int) + d) y (inr_iff.2 (by omega)) (inr_iff.2 (by omega)) px py) (by simp) ?_
          simp -dsimp [hx, hy]
          refine hK _ _ _ (by decide +kernel) ?_; clear hK K
          refine awp_cond rfl (fun hc4 => ?_) (fun hc4 => ?_)
          · skip
            skip
            have hh : hitF p l a i (a + d) k = true := hF.trans hc4
            refine awp_r rfl fun K hK => ?_
            simp -dsimp [f1]
            refine hK _ _ ?_; clear hK K
            simp only [thenA, inBlockA, reduceIte, Nat.reduceEqDiff, eq_self]
            refine hK9 _ _ ?_
            refine awp_prune [1, 2, 5, 6, 7, 8, 9] ?_
            simp only [prune, List.map_cons, List.map_nil, Go.AM.look, Nat.reduceEqDiff, reduceIte]
            refine awp_r rfl fun K hK => ?_
            simp -dsimp [wk]
            refine hK _ _ ?_; clear hK K
            simp only [thenA, inBlockA, reduceIte, Nat.reduceEqDiff, eq_self]
            exact ⟨k + 1, by omega, by omega, sub_rb [some 0, some 2] rfl (by simp [hsK, hh, ← hout]; omega) (by simp [hsK, hh, ← List.append_assoc, hout, hot])⟩
          · skip
            skip
            have hh : hitF p l a i (a + d) k = false := hF.trans hc4
            refine awp_skip ?_
            simp only [thenA, inBlockA, reduceIte, Nat.reduceEqDiff, eq_self]
            refine hK9 _ _ ?_
            refine awp_prune [1, 2, 5, 6, 7, 8, 9] ?_
            simp only [prune, List.map_cons, List.map_nil, Go.AM.look, Nat.reduceEqDiff, reduceIte]
            refine awp_r rfl fun K hK => ?_
            simp -dsimp [wk]
            refine hK _ _ ?_; clear hK K
            simp only [thenA, inBlockA, reduceIte, Nat.reduceEqDiff, eq_self]
            exact ⟨k + 1, by omega, by omega, sub_rb [some 0, some 1] rfl (by simp only [hsK, hh, Bool.false_eq_true, if_false, List.append_nil, hout]; simp) (by simp only [hsK, hh, Bool.false_eq_true, if_false, List.append_nil, hout]; simp [hot])⟩
        · skip
          try simp at hc3
          have hke : k = l.length := by omega
          subst hke
          refine awp_exit ?_
          simp only [thenA, inBlockA, reduceIte, Nat.reduceEqDiff, eq_self]
          refine hK7 _ _ ?_
          refine awp_prune [1, 2, 5, 6, 7, 8] ?_
          simp only [prune, List.map_cons, List.map_nil, Go.AM.look, Nat.reduceEqDiff, reduceIte]
          refine awp_r rfl fun K hK => ?_
          simp -dsimp [wd]
          refine hK _ _ ?_; clear hK K
          simp only [thenA, inBlockA, reduceIte, Nat.reduceEqDiff, eq_self]
          exact ⟨d + 1, by omega, by omega, sub_rb [some 0, some 1] rfl (by simp [hsB, ← hout, Int.add_assoc]) (by simp [hsB, ← hout])⟩
      · skip
        try simp at hc2
        have hde : d = p.Rails.length - a := by omega
        subst hde
        refine awp_exit ?_
        simp only [thenA, inBlockA, reduceIte, Nat.reduceEqDiff, eq_self]
        refine hK5 _ _ ?_
        refine awp_prune [1, 2, 5, 6, 7] ?_
        simp only [prune, List.map_cons, List.map_nil, Go.AM.look, Nat.reduceEqDiff, reduceIte]
        refine awp_r rfl fun K hK => ?_
        simp -dsimp [wi]
        refine hK _ _ ?_; clear hK K
        simp only [thenA, inBlockA, reduceIte, Nat.reduceEqDiff, eq_self]
        exact ⟨i + 1, by omega, by omega, sub_rb [some 0, some 1] rfl (by simp [fI_succ]) (by simp [fI_succ])⟩
    · skip
      try simp at hc1
      have hie : i = l.length := by omega
      subst hie
      refine awp_exit ?_
      simp only [thenA, inBlockA, reduceIte, Nat.reduceEqDiff, eq_self]
      refine hK3 _ _ ?_
      refine awp_prune [1, 2, 5, 6] ?_
      simp only [prune, List.map_cons, List.map_nil, Go.AM.look, Nat.reduceEqDiff, reduceIte]
      refine awp_r rfl fun K hK => ?_
      simp -dsimp [wa]
      refine hK _ _ ?_; clear hK K
      simp only [thenA, inBlockA, reduceIte, Nat.reduceEqDiff, eq_self]
      exact ⟨a + 1, by omega, by omega, sub_rb [some 0, some 1] rfl (by simp [fA_succ]) (by simp [fA_succ])⟩
  · skip
    try simp at hc0
    have hae : a = p.Rails.length := by omega
    subst hae
    refine awp_exit ?_
    simp only [thenA, inBlockA, reduceIte, Nat.reduceEqDiff, eq_self]
    refine hK1 _ _ ?_
    refine awp_prune [5] ?_
    simp only [prune, List.map_cons, List.map_nil, Go.AM.look, Nat.reduceEqDiff, reduceIte]
    refine awp_sr rfl fun K hK => ?_
    simp -dsimp
    refine hK _ _ ?_; clear hK K
    exact awp_ret (by simp [foulsL, fl_take])

theorem c_rSame (l : List Foul) (hn : l.length ≤ 100000) : PureCall Try.prog 41 [.lst 4 (l.map Foul.cells), .lst 4 (l.map Foul.cells)] (Bo true) := by
  refine PureCall.of_body Try.func41 rfl (by decide) (by simp [Try.ntmps41]) ?_
  simp only [Try.ntmps41, Try.results41]
  refine awp_sr rfl fun K hK => ?_
  simp -dsimp
  refine hK _ _ ?_; clear hK K
  refine awp_seq_k fun K1 hK1 => ?_
  refine awp_sr rfl fun K hK => ?_
  simp -dsimp
  refine hK _ _ ?_; clear hK K
  refine awp_cond rfl (fun hc0 => ?_) (fun hc0 => ?_)
  · skip
    skip
    simp at hc0
  · skip
    skip
    refine awp_skip ?_
    simp only [thenA, inBlockA, reduceIte, Nat.reduceEqDiff, eq_self]
    refine hK1 _ _ ?_
    refine awp_prune [0, 1] ?_
    simp only [prune, List.map_cons, List.map_nil, Go.AM.look, Nat.reduceEqDiff, reduceIte]
    refine awp_seq_k fun K2 hK2 => ?_
    refine awp_sr rfl fun K hK => ?_
    simp -dsimp
    refine hK _ _ ?_; clear hK K
    refine awp_block ?_
    refine awp_prune [0, 1, 5] ?_
    simp only [prune, List.map_cons, List.map_nil, Go.AM.look, Nat.reduceEqDiff, reduceIte]
    refine awp_loop_l [0, 1] (α := Nat) (fun k => [(5, I k)]) (fun _ => []) (fun k => k ≤ l.length) (fun k => l.length - k) 0 ?_ ?_ ?_
    · simp
    · exact sub_same (by simp)
    rintro k k1
    simp only [List.cons_append, List.nil_append, prune, List.map_cons, List.map_nil, Go.AM.look, Nat.reduceEqDiff, reduceIte]
    refine awp_seq_k fun K3 hK3 => ?_
    refine awp_sr rfl fun K hK => ?_
    simp -dsimp
    refine hK _ _ ?_; clear hK K
    refine awp_cond rfl (fun hc1 => ?_) (fun hc1 => ?_)
    · skip
      try simp at hc1
      obtain ⟨c, hx⟩ : ∃ c, l[k]? = some c := ⟨_, List.getElem?_eq_getElem hc1⟩
      have wk : IntKind.i64.wrap ((k : Int) + 1) = (k : Int) + 1 := wrap_in (by omega) (by omega)
      refine awp_skip ?_
      simp only [thenA, inBlockA, reduceIte, Nat.reduceEqDiff, eq_self]
      refine hK3 _ _ ?_
      refine awp_prune [0, 1, 5] ?_
      simp only [prune, List.map_cons, List.map_nil, Go.AM.look, Nat.reduceEqDiff, reduceIte]
      refine awp_seq_k fun K4 hK4 => ?_
      refine awp_block ?_
      refine awp_sd mixed rfl fun K hK => ?_
      simp -dsimp [hx]
      refine hK _ _ _ (by decide +kernel) ?_; clear hK K
      refine awp_cond rfl (fun hc2 => ?_) (fun hc2 => ?_)
      · skip
        skip
        simp at hc2
      · skip
        skip
        refine awp_skip ?_
        simp only [thenA, inBlockA, reduceIte, Nat.reduceEqDiff, eq_self]
        refine hK4 _ _ ?_
        refine awp_prune [0, 1, 5] ?_
        simp only [prune, List.map_cons, List.map_nil, Go.AM.look, Nat.reduceEqDiff, reduceIte]
        refine awp_r rfl fun K hK => ?_
        simp -dsimp [wk]
        refine hK _ _ ?_; clear hK K
        simp only [thenA, inBlockA, reduceIte, Nat.reduceEqDiff, eq_self]
        exact ⟨k + 1, by omega, by omega, sub_same (by simp)⟩
    · skip
      try simp at hc1
      refine awp_exit ?_
      simp only [thenA, inBlockA, reduceIte, Nat.reduceEqDiff, eq_self]
      refine hK2 _ _ ?_
      refine awp_prune [] ?_
      simp only [prune, List.map_cons, List.map_nil, Go.AM.look, Nat.reduceEqDiff, reduceIte]
      refine awp_sr rfl fun K hK => ?_
      simp -dsimp
      refine hK _ _ ?_; clear hK K
      exact awp_ret (by simp)

theorem foul_eq (x y : Foul) : x = y ↔ x.RailA = y.RailA ∧ x.ProfileA = y.ProfileA ∧ x.RailB = y.RailB ∧ x.ProfileB = y.ProfileB := by
  cases x; cases y; simp
theorem c_has (l : List Foul) (f : Foul) (hn : l.length ≤ 100000) (hf : f ∈ l) : PureCall Try.prog 43 [.lst 4 (l.map Foul.cells), f.av] (Bo true) := by
  refine PureCall.of_body Try.func43 rfl (by decide) (by simp [Try.ntmps43]) ?_
  simp only [Try.ntmps43, Try.results43]
  refine awp_sr rfl fun K hK => ?_
  simp -dsimp
  refine hK _ _ ?_; clear hK K
  refine awp_seq_k fun K1 hK1 => ?_
  refine awp_sr rfl fun K hK => ?_
  simp -dsimp
  refine hK _ _ ?_; clear hK K
  refine awp_block ?_
  refine awp_prune [0, 3, 5] ?_
  simp only [prune, List.map_cons, List.map_nil, Go.AM.look, Nat.reduceEqDiff, reduceIte]
  refine awp_loop_l [0, 3] (α := Nat) (fun k => [(5, I k)]) (fun _ => [some (.els 4 [f.cells])]) (fun k => k ≤ l.length ∧ (l.take k).any (fun x => decide (x = f)) = false) (fun k => l.length - k) 0 ?_ ?_ ?_
  · simp
  · exact sub_same (by simp)
  rintro k ⟨k1, k2⟩
  simp only [List.cons_append, List.nil_append, prune, List.map_cons, List.map_nil, Go.AM.look, Nat.reduceEqDiff, reduceIte]
  refine awp_seq_k fun K2 hK2 => ?_
  refine awp_sr rfl fun K hK => ?_
  simp -dsimp
  refine hK _ _ ?_; clear hK K
  refine awp_cond rfl (fun hc0 => ?_) (fun hc0 => ?_)
  · skip
    try simp at hc0
    obtain ⟨x, hx⟩ : ∃ x, l[k]? = some x := ⟨_, List.getElem?_eq_getElem hc0⟩
    have wk : IntKind.i64.wrap ((k : Int) + 1) = (k : Int) + 1 := wrap_in (by omega) (by omega)
    refine awp_skip ?_
    simp only [thenA, inBlockA, reduceIte, Nat.reduceEqDiff, eq_self]
    refine hK2 _ _ ?_
    refine awp_prune [0, 3, 5] ?_
    simp only [prune, List.map_cons, List.map_nil, Go.AM.look, Nat.reduceEqDiff, reduceIte]
    refine awp_seq_k fun K3 hK3 => ?_
    refine awp_block ?_
    refine awp_sd mixed rfl fun K hK => ?_
    simp -dsimp [hx]
    refine hK _ _ _ (by decide +kernel) ?_; clear hK K
    refine awp_cond rfl (fun hc1 => ?_) (fun hc1 => ?_)
    · skip
      skip
      refine awp_sr rfl fun K hK => ?_
      simp -dsimp
      refine hK _ _ ?_; clear hK K
      exact awp_ret (by simp)
    · skip
      skip
      have hne : decide (x = f) = false := by rw [decide_eq_false_iff_not, foul_eq]; simp at hc1; intro h; simp [h] at hc1
      refine awp_skip ?_
      simp only [thenA, inBlockA, reduceIte, Nat.reduceEqDiff, eq_self]
      refine hK3 _ _ ?_
      refine awp_prune [0, 3, 5] ?_
      simp only [prune, List.map_cons, List.map_nil, Go.AM.look, Nat.reduceEqDiff, reduceIte]
      refine awp_r rfl fun K hK => ?_
      simp -dsimp [wk]
      refine hK _ _ ?_; clear hK K
      simp only [thenA, inBlockA, reduceIte, Nat.reduceEqDiff, eq_self]
      exact ⟨k + 1, ⟨by omega, by rw [any_take hx, k2, hne]; rfl⟩, by omega, sub_same (by simp)⟩
  · skip
    try simp at hc0
    have hall := any_of_take (by omega) k2
    exfalso; rw [List.any_eq_false] at hall; exact hall f hf (by simp)

theorem c_rWitness (p : Plan) (a b : Int) (hv : validB p = true) (ha : inr a 0 (p.Rails.length - 1) = true) (hb : inr b 0 (p.Rails.length - 1) = true) :
    PureCall Try.prog 38 [p.av, I a, I b] (.tup [.agg [I (wit p a b).a.Rail, I (wit p a b).a.Segment], .agg [I (wit p a b).b.Rail, I (wit p a b).b.Segment], I (wit p a b).gap]) := by
  have ia := inr_iff.1 ha
  have ib := inr_iff.1 hb
  have ra := rail_ok hv (r := a) (by omega) (by omega)
  have rb := rail_ok hv (r := b) (by omega) (by omega)
  have s30 := ra.s
  have t30 := rb.s
  have la := strips_len p a
  have lb := strips_len p b
  have hpl := pairs_len p a b
  have hwl : (witQ p a b).length = (pairs p a b).length := by simp [witQ]
  have ca := c_rStrips p a (by omega) (by omega) (by omega)
  have cb := c_rStrips p b (by omega) (by omega) (by omega)
  have hat : ∀ i k : Nat, i < (p.rail a).Shape.length + 1 → k < (p.rail b).Shape.length + 1 → (witQ p a b)[i * ((p.rail b).Shape.length + 1) + k]? = some ⟨⟨a, i⟩, ⟨b, k⟩, gap (nth (p.line a) i) (nth (p.line a) (i + 1)) (nth (p.line b) k) (nth (p.line b) (k + 1))⟩ := by
    intro i k hi hk
    have h := pairs_at (strips_get hi) (strips_get hk)
    rw [lb] at h
    unfold witQ
    rw [List.getElem?_map, h]; rfl
  unfold wit
  generalize witQ p a b = W at hat hwl ⊢
  have h00 : leastP (W.take 0) = pair0 := rfl
  refine PureCall.of_body Try.func38 rfl (by decide) (by simp [Try.ntmps38]) ?_
  simp only [Try.ntmps38, Try.results38]
  refine awp_sr rfl fun K hK => ?_
  simp -dsimp
  refine hK _ _ ?_; clear hK K
  refine awp_sr rfl fun K hK => ?_
  simp -dsimp
  refine hK _ _ ?_; clear hK K
  refine awp_sr rfl fun K hK => ?_
  simp -dsimp
  refine hK _ _ ?_; clear hK K
  refine awp_seq_k fun K1 hK1 => ?_
  refine awp_sr rfl fun K hK => ?_
  simp -dsimp
  refine hK _ _ ?_; clear hK K
  refine awp_block ?_
  refine awp_prune [1, 2, 3, 6, 7, 9, 10, 11, 12] ?_
  simp only [prune, List.map_cons, List.map_nil, Go.AM.look, Nat.reduceEqDiff, reduceIte]
  refine awp_loop_l [1, 2, 3, 6, 7, 9, 10] (α := Nat) (fun i => [(12, I i), (11, I (leastP (W.take (i * ((p.rail b).Shape.length + 1)))).gap)]) (fun i => [some (.els 2 [p.cells]), some (.els 2 [[I 0, I 0]]), some (.els 2 [[I 0, I 0]]), some (.els 2 [(leastP (W.take (i * ((p.rail b).Shape.length + 1)))).a.cells]), some (.els 2 [(leastP (W.take (i * ((p.rail b).Shape.length + 1)))).b.cells])]) (fun i => i ≤ (p.rail a).Shape.length + 1) (fun i => (p.rail a).Shape.length + 1 - i) 0 ?_ ?_ ?_
  · simp
  · exact sub_rb [some 0, some 1, some 2, some 3, some 4] rfl (by simp [leastP, pair0]) (by simp [leastP, pair0])
  rintro i i1
  simp only [List.cons_append, List.nil_append, prune, List.map_cons, List.map_nil, Go.AM.look, Nat.reduceEqDiff, reduceIte]
  refine awp_seq_k fun K2 hK2 => ?_
  refine awp_sr rfl fun K hK => ?_
  simp -dsimp
  refine callK_intro _ (ca) (by simp) ?_
  simp -dsimp
  refine hK _ _ ?_; clear hK K
  refine awp_cond rfl (fun hc0 => ?_) (fun hc0 => ?_)
  · skip
    try simp at hc0
    have wi : IntKind.i64.wrap ((i : Int) + 1) = (i : Int) + 1 := wrap_in (by omega) (by omega)
    refine awp_skip ?_
    simp only [thenA, inBlockA, reduceIte, Nat.reduceEqDiff, eq_self]
    refine hK2 _ _ ?_
    refine awp_prune [1, 2, 3, 6, 7, 9, 10, 11, 12] ?_
    simp only [prune, List.map_cons, List.map_nil, Go.AM.look, Nat.reduceEqDiff, reduceIte]
    refine awp_seq_k fun K3 hK3 => ?_
    refine awp_block ?_
    refine awp_sr rfl fun K hK => ?_
    simp -dsimp
    refine hK _ _ ?_; clear hK K
    refine awp_block ?_
    refine awp_prune [1, 2, 3, 6, 7, 9, 10, 11, 12, 13] ?_
    simp only [prune, List.map_cons, List.map_nil, Go.AM.look, Nat.reduceEqDiff, reduceIte]
    refine awp_loop_l [1, 2, 3, 6, 7, 9, 10, 12] (α := Nat) (fun k => [(13, I k), (11, I (leastP (W.take (i * ((p.rail b).Shape.length + 1) + k))).gap)]) (fun k => [some (.els 2 [p.cells]), some (.els 2 [[I 0, I 0]]), some (.els 2 [[I 0, I 0]]), some (.els 2 [(leastP (W.take (i * ((p.rail b).Shape.length + 1) + k))).a.cells]), some (.els 2 [(leastP (W.take (i * ((p.rail b).Shape.length + 1) + k))).b.cells])]) (fun k => k ≤ (p.rail b).Shape.length + 1) (fun k => (p.rail b).Shape.length + 1 - k) 0 ?_ ?_ ?_
    · simp
    · exact sub_same (by simp)
    rintro k k1
    simp only [List.cons_append, List.nil_append, prune, List.map_cons, List.map_nil, Go.AM.look, Nat.reduceEqDiff, reduceIte]
    refine awp_seq_k fun K4 hK4 => ?_
    refine awp_sr rfl fun K hK => ?_
    simp -dsimp
    refine callK_intro _ (cb) (by simp) ?_
    simp -dsimp
    refine hK _ _ ?_; clear hK K
    refine awp_cond rfl (fun hc1 => ?_) (fun hc1 => ?_)
    · skip
      try simp at hc1
      have wk : IntKind.i64.wrap ((k : Int) + 1) = (k : Int) + 1 := wrap_in (by omega) (by omega)
      have hst := leastP_take (hat i k (by omega) (by omega))
      generalize hO : leastP (W.take (i * ((p.rail b).Shape.length + 1) + k)) = O at hst ⊢
      refine awp_skip ?_
      simp only [thenA, inBlockA, reduceIte, Nat.reduceEqDiff, eq_self]
      refine hK4 _ _ ?_
      refine awp_prune [1, 2, 3, 6, 7, 9, 10, 11, 12, 13] ?_
      simp only [prune, List.map_cons, List.map_nil, Go.AM.look, Nat.reduceEqDiff, reduceIte]
      refine awp_seq_k fun K5 hK5 => ?_
      refine awp_block ?_
      refine awp_sr rfl fun K hK => ?_
      simp -dsimp
      refine hK _ _ ?_; clear hK K
      refine awp_sr rfl fun K hK => ?_
      simp -dsimp
      refine callK_intro _ (c_rGap p a i b k (by omega) (by omega) ra (by omega) (by omega) (by omega) rb (by omega)) (by simp) ?_
      simp -dsimp
      refine hK _ _ ?_; clear hK K
      refine awp_sr rfl fun K hK => ?_
      simp -dsimp
      refine hK _ _ ?_; clear hK K
      refine awp_cond rfl (fun hc2 => ?_) (fun hc2 => ?_)
      · skip
        try simp at hc2
        have hs2 : leastP (W.take (i * ((p.rail b).Shape.length + 1) + k + 1)) = ⟨⟨a, i⟩, ⟨b, k⟩, gap (nth (p.line a) i) (nth (p.line a) (i + 1)) (nth (p.line b) k) (nth (p.line b) (k + 1))⟩ := by rw [hst]; exact if_pos hc2
        refine awp_draw mixed rfl fun K hK => ?_
        simp -dsimp
        refine hK _ _ _ (by decide +kernel) ?_; clear hK K
        simp only [thenA, inBlockA, reduceIte, Nat.reduceEqDiff, eq_self]
        refine hK5 _ _ ?_
        refine awp_prune [1, 2, 3, 6, 7, 9, 10, 11, 12, 13] ?_
        simp only [prune, List.map_cons, List.map_nil, Go.AM.look, Nat.reduceEqDiff, reduceIte]
        refine awp_r rfl fun K hK => ?_
        simp -dsimp [wk]
        refine hK _ _ ?_; clear hK K
        simp only [thenA, inBlockA, reduceIte, Nat.reduceEqDiff, eq_self]
        exact ⟨k + 1, by omega, by omega, sub_rb [some 0, some 1, some 2, some 3, some 4] rfl (by simp [← Nat.add_assoc, hs2]) (by simp [← Nat.add_assoc, hs2])⟩
      · skip
        try simp at hc2
        have hs2 : leastP (W.take (i * ((p.rail b).Shape.length + 1) + k + 1)) = O := by rw [hst]; exact if_neg (by simpa using hc2)
        refine awp_skip ?_
        simp only [thenA, inBlockA, reduceIte, Nat.reduceEqDiff, eq_self]
        refine hK5 _ _ ?_
        refine awp_prune [1, 2, 3, 6, 7, 9, 10, 11, 12, 13] ?_
        simp only [prune, List.map_cons, List.map_nil, Go.AM.look, Nat.reduceEqDiff, reduceIte]
        refine awp_r rfl fun K hK => ?_
        simp -dsimp [wk]
        refine hK _ _ ?_; clear hK K
        simp only [thenA, inBlockA, reduceIte, Nat.reduceEqDiff, eq_self]
        exact ⟨k + 1, by omega, by omega, sub_rb [some 0, some 1, some 2, some 3, some 4] rfl (by simp [← Nat.add_assoc, hs2]) (by simp [← Nat.add_assoc, hs2])⟩
    · skip
      try simp at hc1
      have hke : k = (p.rail b).Shape.length + 1 := by omega
      subst hke
      refine awp_exit ?_
      simp only [thenA, inBlockA, reduceIte, Nat.reduceEqDiff, eq_self]
      refine hK3 _ _ ?_
      refine awp_prune [1, 2, 3, 6, 7, 9, 10, 11, 12] ?_
      simp only [prune, List.map_cons, List.map_nil, Go.AM.look, Nat.reduceEqDiff, reduceIte]
      refine awp_r rfl fun K hK => ?_
      simp -dsimp [wi]
      refine hK _ _ ?_; clear hK K
      simp only [thenA, inBlockA, reduceIte, Nat.reduceEqDiff, eq_self]
      exact ⟨i + 1, by omega, by omega, sub_rb [some 0, some 1, some 2, some 3, some 4] rfl (by simp [Nat.succ_mul]) (by simp [Nat.succ_mul])⟩
  · skip
    try simp at hc0
    have hie : i = (p.rail a).Shape.length + 1 := by omega
    have htk : W.take (i * ((p.rail b).Shape.length + 1)) = W := List.take_of_length_le (by rw [hwl, hpl, la, lb, hie]; exact Nat.le_refl _)
    refine awp_exit ?_
    simp only [thenA, inBlockA, reduceIte, Nat.reduceEqDiff, eq_self]
    refine hK1 _ _ ?_
    refine awp_prune [6, 7, 9, 10, 11] ?_
    simp only [prune, List.map_cons, List.map_nil, Go.AM.look, Nat.reduceEqDiff, reduceIte]
    refine awp_sd mixed rfl fun K hK => ?_
    simp -dsimp
    refine hK _ _ _ (by decide +kernel) ?_; clear hK K
    exact awp_ret (by simp [htk])
end Go.Tram
