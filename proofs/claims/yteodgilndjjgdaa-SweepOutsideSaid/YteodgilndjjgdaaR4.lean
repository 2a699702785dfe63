/- Walks: the specification of cars that stand somewhere. -/
import Derived.Test.YteodgilndjjgdaaR3
import Derived.Test.YteodgilndjjgdaaW15
namespace Go.Tram
open Go.AM Go.Proofs
set_option maxRecDepth 10000
set_option maxHeartbeats 4000000
set_option linter.unusedVariables false
set_option linter.unusedSimpArgs false

theorem c_rLength (p : Plan) (r : Int) (h0 : 0 ≤ r) (h1 : r < p.Rails.length) (ro : RailOk p r) : PureCall Try.prog 36 [p.av, I r] (I (p.len r)) :=
  c_Length p r h0 h1 ro.f ro.t (by have := ro.s; omega) ro.spots

theorem c_rCovers (p : Plan) (l : List Cover) (hv : validB p = true) (hn : l.length ≤ 9223372036854775807) : PureCall Try.prog 22 [p.av, .lst 3 (l.map Cover.cells)] (Bo (coversB p l)) := by
  obtain ⟨hN, hR, _⟩ := valid_parts hv
  have wr : IntKind.i64.wrap ((p.Rails.length : Int) - 1) = (p.Rails.length : Int) - 1 := wrap_in (by omega) (by omega)
  refine PureCall.of_body Try.func22 rfl (by decide) (by simp [Try.ntmps22]) ?_
  simp only [Try.ntmps22, Try.results22]
  refine awp_sr rfl fun K hK => ?_
  simp -dsimp
  refine hK _ _ ?_; clear hK K
  refine awp_seq_k fun K1 hK1 => ?_
  refine awp_sr rfl fun K hK => ?_
  simp -dsimp
  refine hK _ _ ?_; clear hK K
  refine awp_block ?_
  refine awp_prune [1, 2, 5] ?_
  simp only [prune, List.map_cons, List.map_nil, Go.AM.look, Nat.reduceEqDiff, reduceIte]
  refine awp_loop_l [1, 2] (α := Nat) (fun k => [(5, I k)]) (fun _ => [some (.els 2 [p.cells])]) (fun k => k ≤ l.length ∧ (l.take k).all (coverB p) = true) (fun k => l.length - k) 0 ?_ ?_ ?_
  · simp
  · exact sub_same (by simp)
  rintro k ⟨k1, k2⟩
  simp only [List.cons_append, List.nil_append, prune, List.map_cons, List.map_nil, Go.AM.look, Nat.reduceEqDiff, reduceIte]
  refine awp_seq_k fun K2 hK2 => ?_
  refine awp_sr rfl fun K hK => ?_
  simp -dsimp
  refine hK _ _ ?_; clear hK K
  refine awp_cond rfl (fun hc0 => ?_) (fun hc0 => ?_)
  · skip
    try simp at hc0
    obtain ⟨c, hx⟩ : ∃ c, l[k]? = some c := ⟨_, List.getElem?_eq_getElem hc0⟩
    have wk : IntKind.i64.wrap ((k : Int) + 1) = (k : Int) + 1 := wrap_in (by omega) (by omega)
    refine awp_skip ?_
    simp only [thenA, inBlockA, reduceIte, Nat.reduceEqDiff, eq_self]
    refine hK2 _ _ ?_
    refine awp_prune [1, 2, 5] ?_
    simp only [prune, List.map_cons, List.map_nil, Go.AM.look, Nat.reduceEqDiff, reduceIte]
    refine awp_seq_k fun K3 hK3 => ?_
    refine awp_block ?_
    refine awp_sd mixed rfl fun K hK => ?_
    simp -dsimp [wr, hx]
    refine callK_intro _ (c_in2 _ _ _) (by simp) ?_
    simp -dsimp [wr, hx]
    refine idxK_intro c.cells (fun _ => by simp [hx]) ?_
    simp -dsimp [wr, hx]
    refine idxK_intro c.cells (fun _ => by simp [hx]) ?_
    simp -dsimp [wr, hx]
    refine idxK_intro c.cells (fun _ => by simp [hx]) ?_
    simp -dsimp [wr, hx]
    refine idxK_intro c.cells (fun _ => by simp [hx]) ?_
    simp -dsimp [wr, hx]
    refine idxK_intro c.cells (fun _ => by simp [hx]) ?_
    simp -dsimp [wr, hx]
    refine callK_may _ (fun hm => c_rLength p c.Rail (by simp [inr_iff] at hm; omega) (by simp [inr_iff] at hm; omega) (rail_ok hv (by simp [inr_iff] at hm; omega) (by simp [inr_iff] at hm; omega))) (by simp) ?_
    simp -dsimp [wr, hx]
    refine hK _ _ _ (by decide +kernel) ?_; clear hK K
    refine awp_cond rfl (fun hc1 => ?_) (fun hc1 => ?_)
    · skip
      skip
      have hf : coversB p l = false := covers_ff hx (by cases hq : coverB p c with | false => rfl | true => (rw [coverB_iff] at hq; simp [hq] at hc1; omega))
      refine awp_sr rfl fun K hK => ?_
      simp -dsimp
      refine hK _ _ ?_; clear hK K
      exact awp_ret (by simp [hf])
    · skip
      skip
      have hok : coverB p c = true := by rw [coverB_iff]; simp at hc1; exact ⟨hc1.1.1.1, by omega, by omega, by omega⟩
      refine awp_skip ?_
      simp only [thenA, inBlockA, reduceIte, Nat.reduceEqDiff, eq_self]
      refine hK3 _ _ ?_
      refine awp_prune [1, 2, 5] ?_
      simp only [prune, List.map_cons, List.map_nil, Go.AM.look, Nat.reduceEqDiff, reduceIte]
      refine awp_r rfl fun K hK => ?_
      simp -dsimp [wk]
      refine hK _ _ ?_; clear hK K
      simp only [thenA, inBlockA, reduceIte, Nat.reduceEqDiff, eq_self]
      exact ⟨k + 1, ⟨by omega, by rw [take_all' hx, k2, hok]; rfl⟩, by omega, sub_same (by simp)⟩
  · skip
    try simp at hc0
    have hall := all_of_take (by omega) k2
    refine awp_exit ?_
    simp only [thenA, inBlockA, reduceIte, Nat.reduceEqDiff, eq_self]
    refine hK1 _ _ ?_
    refine awp_prune [1] ?_
    simp only [prune, List.map_cons, List.map_nil, Go.AM.look, Nat.reduceEqDiff, reduceIte]
    refine awp_sr rfl fun K hK => ?_
    simp -dsimp
    refine hK _ _ ?_; clear hK K
    exact awp_ret (by simp [coversB, hall]; omega)

/-- Strips by their rails and numbers. -/
def tkOne (p : Plan) (c : Cover) (n : Nat) : List (Int × Nat) := ((List.range n).filter fun k => hitOne c (stripOf (p.line c.Rail) c.Rail k)).map fun k => (c.Rail, k)
def tkAll (p : Plan) (l : List Cover) : List (Int × Nat) := l.flatMap fun c => tkOne p c ((p.rail c.Rail).Shape.length + 1)
def pC (x : Int × Nat) : List AV := [I x.1, I x.2]
def stP (p : Plan) (x : Int × Nat) : SS := stripOf (p.line x.1) x.1 x.2
theorem tkOne_succ (p : Plan) (c : Cover) (n : Nat) : tkOne p c (n + 1) = tkOne p c n ++ (if hitOne c (stripOf (p.line c.Rail) c.Rail n) then [(c.Rail, n)] else []) := by
  unfold tkOne
  rw [List.range_succ, List.filter_append, List.map_append]
  congr 1
  simp only [List.filter_cons, List.filter_nil]
  split <;> simp
theorem tkAll_take {p : Plan} {l : List Cover} {i : Nat} {c : Cover} (h : l[i]? = some c) : tkAll p (l.take (i + 1)) = tkAll p (l.take i) ++ tkOne p c ((p.rail c.Rail).Shape.length + 1) := by
  simp [tkAll, List.take_add_one, h]
theorem tkOne_map (p : Plan) (c : Cover) : (tkOne p c ((p.rail c.Rail).Shape.length + 1)).map (stP p) = touchedOne p c := by
  unfold tkOne touchedOne Plan.strips stripsTo
  rw [List.map_map, List.filter_map]
  rfl
theorem tkAll_map (p : Plan) (l : List Cover) : (tkAll p l).map (stP p) = touched p l := by
  unfold tkAll touched
  rw [List.map_flatMap]
  congr 1
  funext c
  exact tkOne_map p c
theorem tkOne_len (p : Plan) (c : Cover) (n : Nat) : (tkOne p c n).length ≤ n := by
  unfold tkOne
  rw [List.length_map]
  exact Nat.le_trans (List.length_filter_le _ _) (by simp)
theorem tk_mem {p : Plan} {l : List Cover} {x : Int × Nat} (hc : coversB p l = true) (hx : x ∈ tkAll p l) : (0 ≤ x.1 ∧ x.1 < p.Rails.length) ∧ x.2 < (p.rail x.1).Shape.length + 1 := by
  simp only [tkAll, List.mem_flatMap] at hx
  obtain ⟨c, hcl, hx⟩ := hx
  simp only [tkOne, List.mem_map, List.mem_filter, List.mem_range] at hx
  obtain ⟨k, hk, rfl⟩ := hx
  simp only [coversB, Bool.and_eq_true, List.all_eq_true] at hc
  have hi := inr_iff.1 (coverB_iff.1 (hc.2 c hcl)).1
  exact ⟨by simp only []; omega, hk.1⟩
theorem flat_pc (l : List (Int × Nat)) : (l.map pC).all (fun e => e.all flatC) = true := by simp [pC, flatC]
@[simp high] theorem flat_pc_ren (l : List (Int × Nat)) (g : List (Option Nat)) (n : Nat) : (l.map pC).map (fun e => e.map (renAV g n)) = l.map pC := map_flatC (fun x h => flatC_ren h g n) (flat_pc l)
@[simp high] theorem flat_pc_frzP (l : List (Int × Nat)) (H : Hp) (n : Nat) : (l.map pC).map (fun e => e.map (frzP H n)) = l.map pC := map_flatC (fun x h => flatC_frzP h H n) (flat_pc l)
theorem pc_take (l : List (Int × Nat)) : (l.map pC).take l.length = l.map pC := List.take_of_length_le (by simp)

theorem c_rtouched (p : Plan) (l : List Cover) (hv : validB p = true) (hc : coversB p l = true) : PureCall Try.prog 62 [p.av, .lst 3 (l.map Cover.cells)] (.lst 2 ((tkAll p l).map pC)) := by
  have hc' := hc
  simp only [coversB, Bool.and_eq_true, List.all_eq_true, decide_eq_true_eq] at hc'
  obtain ⟨hn, hall⟩ := hc'
  refine PureCall.of_body Try.func62 rfl (by decide) (by simp [Try.ntmps62]) ?_
  simp only [Try.ntmps62, Try.results62]
  refine awp_sr rfl fun K hK => ?_
  simp -dsimp
  refine hK _ _ ?_; clear hK K
  refine awp_sr rfl fun K hK => ?_
  simp -dsimp
  refine hK _ _ ?_; clear hK K
  refine awp_seq_k fun K1 hK1 => ?_
  refine awp_sr rfl fun K hK => ?_
  simp -dsimp
  refine hK _ _ ?_; clear hK K
  refine awp_block ?_
  refine awp_prune [1, 2, 5, 6] ?_
  simp only [prune, List.map_cons, List.map_nil, Go.AM.look, Nat.reduceEqDiff, reduceIte]
  refine awp_loop_l [1, 2] (α := Nat) (fun i => [(6, I i), (5, .row 1 0 (tkAll p (l.take i)).length)]) (fun i => [some (.els 2 [p.cells]), some (.els 2 ((tkAll p (l.take i)).map pC))]) (fun i => i ≤ l.length ∧ (tkAll p (l.take i)).length ≤ 31 * i) (fun i => l.length - i) 0 ?_ ?_ ?_
  · simp [tkAll]
  · exact (sub_nil 5 2 (by simp)).trans (sub_rb [some 0, some 1] rfl (by simp [tkAll]) (by simp [tkAll]))
  rintro i ⟨i1, i2⟩
  simp only [List.cons_append, List.nil_append, prune, List.map_cons, List.map_nil, Go.AM.look, Nat.reduceEqDiff, reduceIte]
  refine awp_seq_k fun K2 hK2 => ?_
  refine awp_sr rfl fun K hK => ?_
  simp -dsimp
  refine hK _ _ ?_; clear hK K
  refine awp_cond rfl (fun hc0 => ?_) (fun hc0 => ?_)
  · skip
    try simp at hc0
    obtain ⟨c, hx⟩ : ∃ c, l[i]? = some c := ⟨_, List.getElem?_eq_getElem hc0⟩
    have wi : IntKind.i64.wrap ((i : Int) + 1) = (i : Int) + 1 := wrap_in (by omega) (by omega)
    have hcb := coverB_iff.1 (hall c (List.mem_of_getElem? hx))
    have hin := inr_iff.1 hcb.1
    have ro := rail_ok hv (r := c.Rail) (by omega) (by omega)
    have hs30 := ro.s
    have hlen := ro.len
    refine awp_skip ?_
    simp only [thenA, inBlockA, reduceIte, Nat.reduceEqDiff, eq_self]
    refine hK2 _ _ ?_
    refine awp_prune [1, 2, 5, 6] ?_
    simp only [prune, List.map_cons, List.map_nil, Go.AM.look, Nat.reduceEqDiff, reduceIte]
    refine awp_seq_k fun K3 hK3 => ?_
    refine awp_block ?_
    refine awp_sr rfl fun K hK => ?_
    simp -dsimp
    refine hK _ _ ?_; clear hK K
    refine awp_block ?_
    refine awp_prune [1, 2, 5, 6, 7] ?_
    simp only [prune, List.map_cons, List.map_nil, Go.AM.look, Nat.reduceEqDiff, reduceIte]
    refine awp_loop_l [1, 2, 6] (α := Nat) (fun j => [(7, I j), (5, .row 1 0 (tkAll p (l.take i) ++ tkOne p c j).length)]) (fun j => [some (.els 2 [p.cells]), some (.els 2 ((tkAll p (l.take i) ++ tkOne p c j).map pC))]) (fun j => j ≤ (p.rail c.Rail).Shape.length + 1) (fun j => (p.rail c.Rail).Shape.length + 1 - j) 0 ?_ ?_ ?_
    · simp
    · exact sub_rb [some 0, some 1] rfl (by simp [tkOne]) (by simp [tkOne])
    rintro j j1
    have hjl := tkOne_len p c j
    have hso := tkOne_succ p c j
    generalize hout : tkAll p (l.take i) ++ tkOne p c j = out
    have hol : out.length ≤ 3300 := by rw [← hout, List.length_append]; omega
    have hot := pc_take out
    have f1 : Fits (out.length + 1) 17 := fits_of (by omega) (by omega)
    simp only [List.cons_append, List.nil_append, prune, List.map_cons, List.map_nil, Go.AM.look, Nat.reduceEqDiff, reduceIte]
    refine awp_seq_k fun K4 hK4 => ?_
    refine awp_sd mixed rfl fun K hK => ?_
    simp -dsimp [hx]
    refine callK_intro _ (c_rStrips p c.Rail (by omega) (by omega) (by omega)) (by simp) ?_
    simp -dsimp [hx]
    refine hK _ _ _ (by decide +kernel) ?_; clear hK K
    refine awp_cond rfl (fun hc1 => ?_) (fun hc1 => ?_)
    · skip
      try simp at hc1
      have wj : IntKind.i64.wrap ((j : Int) + 1) = (j : Int) + 1 := wrap_in (by omega) (by omega)
      refine awp_skip ?_
      simp only [thenA, inBlockA, reduceIte, Nat.reduceEqDiff, eq_self]
      refine hK4 _ _ ?_
      refine awp_prune [1, 2, 5, 6, 7] ?_
      simp only [prune, List.map_cons, List.map_nil, Go.AM.look, Nat.reduceEqDiff, reduceIte]
      refine awp_seq_k fun K5 hK5 => ?_
      refine awp_block ?_
      refine awp_sr rfl fun K hK => ?_
      simp -dsimp [hx]
      refine hK _ _ ?_; clear hK K
      refine awp_sr rfl fun K hK => ?_
      simp -dsimp
      refine callK_intro _ (c_rPlace p c.Rail j (by omega) (by omega) ro (by omega)) (by simp) ?_
      simp -dsimp
      refine hK _ _ ?_; clear hK K
      refine awp_sr rfl fun K hK => ?_
      simp -dsimp [hx]
      refine idxK_intro c.cells (fun _ => by simp [hx]) ?_
      simp -dsimp [hx]
      refine hK _ _ ?_; clear hK K
      refine awp_cond rfl (fun hc2 => ?_) (fun hc2 => ?_)
      · skip
        simp at hc2
        have hh : hitOne c (stripOf (p.line c.Rail) c.Rail j) = true := by simp only [hitOne, stripOf, Bool.and_eq_true]; exact ⟨decide_eq_true hc2.1, decide_eq_true hc2.2⟩
        refine awp_r rfl fun K hK => ?_
        simp -dsimp [f1]
        refine hK _ _ ?_; clear hK K
        simp only [thenA, inBlockA, reduceIte, Nat.reduceEqDiff, eq_self]
        refine hK5 _ _ ?_
        refine awp_prune [1, 2, 5, 6, 7] ?_
        simp only [prune, List.map_cons, List.map_nil, Go.AM.look, Nat.reduceEqDiff, reduceIte]
        refine awp_r rfl fun K hK => ?_
        simp -dsimp [wj]
        refine hK _ _ ?_; clear hK K
        simp only [thenA, inBlockA, reduceIte, Nat.reduceEqDiff, eq_self]
        exact ⟨j + 1, by omega, by omega, sub_rb [some 0, some 3] rfl (by simp [hso, hh, ← hout]; omega) (by simp [hso, hh, ← List.append_assoc, hout, hot, pC])⟩
      · skip
        simp at hc2
        have hh : hitOne c (stripOf (p.line c.Rail) c.Rail j) = false := by
          cases hq : hitOne c (stripOf (p.line c.Rail) c.Rail j) with
          | false => rfl
          | true =>
            exfalso
            have hb := Bool.and_eq_true_iff.1 hq
            have u := of_decide_eq_true hb.1
            have v := of_decide_eq_true hb.2
            simp only [stripOf] at u v
            have := hc2 u
            omega
        refine awp_skip ?_
        simp only [thenA, inBlockA, reduceIte, Nat.reduceEqDiff, eq_self]
        refine hK5 _ _ ?_
        refine awp_prune [1, 2, 5, 6, 7] ?_
        simp only [prune, List.map_cons, List.map_nil, Go.AM.look, Nat.reduceEqDiff, reduceIte]
        refine awp_r rfl fun K hK => ?_
        simp -dsimp [wj]
        refine hK _ _ ?_; clear hK K
        simp only [thenA, inBlockA, reduceIte, Nat.reduceEqDiff, eq_self]
        exact ⟨j + 1, by omega, by omega, sub_rb [some 0, some 1] rfl (by simp [hso, hh, ← hout]) (by simp [hso, hh, hout, hot])⟩
    · skip
      try simp at hc1
      have hje : j = (p.rail c.Rail).Shape.length + 1 := by omega
      have htt := tkAll_take (p := p) hx
      refine awp_exit ?_
      simp only [thenA, inBlockA, reduceIte, Nat.reduceEqDiff, eq_self]
      refine hK3 _ _ ?_
      refine awp_prune [1, 2, 5, 6] ?_
      simp only [prune, List.map_cons, List.map_nil, Go.AM.look, Nat.reduceEqDiff, reduceIte]
      refine awp_r rfl fun K hK => ?_
      simp -dsimp [wi]
      refine hK _ _ ?_; clear hK K
      simp only [thenA, inBlockA, reduceIte, Nat.reduceEqDiff, eq_self]
      exact ⟨i + 1, ⟨by omega, by rw [htt, List.length_append, ← hje]; omega⟩, by omega, sub_rb [some 0, some 1] rfl (by simp [htt, ← hje, ← hout]) (by simp [htt, ← hje, hout])⟩
  · skip
    try simp at hc0
    have hil : l.take i = l := List.take_of_length_le (by omega)
    refine awp_exit ?_
    simp only [thenA, inBlockA, reduceIte, Nat.reduceEqDiff, eq_self]
    refine hK1 _ _ ?_
    refine awp_prune [5] ?_
    simp only [prune, List.map_cons, List.map_nil, Go.AM.look, Nat.reduceEqDiff, reduceIte]
    refine awp_sr rfl fun K hK => ?_
    simp -dsimp
    refine hK _ _ ?_; clear hK K
    rw [hil]
    exact awp_ret (by simp [pc_take])

theorem c_rClear (p : Plan) (a : List Cover) (x : Profile) (b : List Cover) (y : Profile) (hv : validB p = true) (hx : profB x = true) (hy : profB y = true) (ha : coversB p a = true) (hb : coversB p b = true) :
    PureCall Try.prog 23 [p.av, .lst 3 (a.map Cover.cells), x.av, .lst 3 (b.map Cover.cells), y.av] (Bo (clearB p a x b y)) := by
  have la := touched_len' hv ha
  have lb := touched_len' hv hb
  have hcl : clearB p a x b y = !(tkAll p a).any fun s => (tkAll p b).any fun t => foulB (stP p s) x (stP p t) y := by
    unfold clearB
    rw [← tkAll_map, ← tkAll_map]
    simp only [List.any_map]
    rfl
  rw [← tkAll_map, List.length_map] at la lb
  have ma := fun s hs => tk_mem (p := p) (l := a) (x := s) ha hs
  have mb := fun s hs => tk_mem (p := p) (l := b) (x := s) hb hs
  have ca := c_rtouched p a hv ha
  have cb := c_rtouched p b hv hb
  rw [hcl]
  generalize tkAll p a = A at *
  generalize tkAll p b = B at *
  refine PureCall.of_body Try.func23 rfl (by decide) (by simp [Try.ntmps23]) ?_
  simp only [Try.ntmps23, Try.results23]
  refine awp_sr rfl fun K hK => ?_
  simp -dsimp
  refine hK _ _ ?_; clear hK K
  refine awp_sd mixed rfl fun K hK => ?_
  simp -dsimp
  refine callK_intro _ (ca) (by simp) ?_
  simp -dsimp
  refine callK_intro _ (cb) (by simp) ?_
  simp -dsimp
  refine hK _ _ _ (by decide +kernel) ?_; clear hK K
  refine awp_seq_k fun K1 hK1 => ?_
  refine awp_sr rfl fun K hK => ?_
  simp -dsimp
  refine hK _ _ ?_; clear hK K
  refine awp_block ?_
  refine awp_prune [5, 7, 9, 11, 12, 13] ?_
  simp only [prune, List.map_cons, List.map_nil, Go.AM.look, Nat.reduceEqDiff, reduceIte]
  refine awp_loop_l [5, 7, 9, 11, 12] (α := Nat) (fun k => [(13, I k)]) (fun _ => [some (.els 2 [p.cells]), some (.els 2 [x.cells]), some (.els 2 [y.cells])]) (fun k => k ≤ A.length ∧ (A.take k).any (fun s => B.any fun t => foulB (stP p s) x (stP p t) y) = false) (fun k => A.length - k) 0 ?_ ?_ ?_
  · simp
  · exact sub_same (by simp)
  rintro k ⟨k1, k2⟩
  simp only [List.cons_append, List.nil_append, prune, List.map_cons, List.map_nil, Go.AM.look, Nat.reduceEqDiff, reduceIte]
  refine awp_seq_k fun K2 hK2 => ?_
  refine awp_sr rfl fun K hK => ?_
  simp -dsimp
  refine hK _ _ ?_; clear hK K
  refine awp_cond rfl (fun hc0 => ?_) (fun hc0 => ?_)
  · skip
    try simp at hc0
    obtain ⟨s, hs⟩ : ∃ s, A[k]? = some s := ⟨_, List.getElem?_eq_getElem hc0⟩
    have wk : IntKind.i64.wrap ((k : Int) + 1) = (k : Int) + 1 := wrap_in (by omega) (by omega)
    obtain ⟨s1, s2⟩ := ma s (List.mem_of_getElem? hs)
    refine awp_skip ?_
    simp only [thenA, inBlockA, reduceIte, Nat.reduceEqDiff, eq_self]
    refine hK2 _ _ ?_
    refine awp_prune [5, 7, 9, 11, 12, 13] ?_
    simp only [prune, List.map_cons, List.map_nil, Go.AM.look, Nat.reduceEqDiff, reduceIte]
    refine awp_seq_k fun K3 hK3 => ?_
    refine awp_block ?_
    refine awp_sr rfl fun K hK => ?_
    simp -dsimp
    refine hK _ _ ?_; clear hK K
    refine awp_block ?_
    refine awp_prune [5, 7, 9, 11, 12, 13, 14] ?_
    simp only [prune, List.map_cons, List.map_nil, Go.AM.look, Nat.reduceEqDiff, reduceIte]
    refine awp_loop_l [5, 7, 9, 11, 12, 13] (α := Nat) (fun j => [(14, I j)]) (fun _ => [some (.els 2 [p.cells]), some (.els 2 [x.cells]), some (.els 2 [y.cells])]) (fun j => j ≤ B.length ∧ (B.take j).any (fun t => foulB (stP p s) x (stP p t) y) = false) (fun j => B.length - j) 0 ?_ ?_ ?_
    · simp
    · exact sub_same (by simp)
    rintro j ⟨j1, j2⟩
    simp only [List.cons_append, List.nil_append, prune, List.map_cons, List.map_nil, Go.AM.look, Nat.reduceEqDiff, reduceIte]
    refine awp_seq_k fun K4 hK4 => ?_
    refine awp_sr rfl fun K hK => ?_
    simp -dsimp
    refine hK _ _ ?_; clear hK K
    refine awp_cond rfl (fun hc1 => ?_) (fun hc1 => ?_)
    · skip
      try simp at hc1
      obtain ⟨t, ht⟩ : ∃ t, B[j]? = some t := ⟨_, List.getElem?_eq_getElem hc1⟩
      have wj : IntKind.i64.wrap ((j : Int) + 1) = (j : Int) + 1 := wrap_in (by omega) (by omega)
      obtain ⟨t1, t2⟩ := mb t (List.mem_of_getElem? ht)
      refine awp_skip ?_
      simp only [thenA, inBlockA, reduceIte, Nat.reduceEqDiff, eq_self]
      refine hK4 _ _ ?_
      refine awp_prune [5, 7, 9, 11, 12, 13, 14] ?_
      simp only [prune, List.map_cons, List.map_nil, Go.AM.look, Nat.reduceEqDiff, reduceIte]
      refine awp_seq_k fun K5 hK5 => ?_
      refine awp_block ?_
      refine awp_sd mixed rfl fun K hK => ?_
      simp -dsimp [hs, ht, pC]
      refine callK_intro _ (c_rFoul p s.1 s.2 x t.1 t.2 y s1.1 s1.2 (rail_ok hv s1.1 s1.2) s2 t1.1 t1.2 (rail_ok hv t1.1 t1.2) t2 hx hy) (by simp) ?_
      simp -dsimp [hs, ht, pC]
      refine hK _ _ _ (by decide +kernel) ?_; clear hK K
      refine awp_cond rfl (fun hc2 => ?_) (fun hc2 => ?_)
      · skip
        try simp at hc2
        have hany : (A.any fun s => B.any fun t => foulB (stP p s) x (stP p t) y) = true := List.any_eq_true.2 ⟨s, List.mem_of_getElem? hs, List.any_eq_true.2 ⟨t, List.mem_of_getElem? ht, hc2⟩⟩
        refine awp_sr rfl fun K hK => ?_
        simp -dsimp
        refine hK _ _ ?_; clear hK K
        exact awp_ret (by simp only [hany]; simp)
      · skip
        try simp at hc2
        refine awp_skip ?_
        simp only [thenA, inBlockA, reduceIte, Nat.reduceEqDiff, eq_self]
        refine hK5 _ _ ?_
        refine awp_prune [5, 7, 9, 11, 12, 13, 14] ?_
        simp only [prune, List.map_cons, List.map_nil, Go.AM.look, Nat.reduceEqDiff, reduceIte]
        refine awp_r rfl fun K hK => ?_
        simp -dsimp [wj]
        refine hK _ _ ?_; clear hK K
        simp only [thenA, inBlockA, reduceIte, Nat.reduceEqDiff, eq_self]
        exact ⟨j + 1, ⟨by omega, by rw [any_take ht, j2]; simp only [Bool.false_or]; exact hc2⟩, by omega, sub_same (by simp)⟩
    · skip
      try simp at hc1
      have hin := any_of_take (by omega) j2
      refine awp_exit ?_
      simp only [thenA, inBlockA, reduceIte, Nat.reduceEqDiff, eq_self]
      refine hK3 _ _ ?_
      refine awp_prune [5, 7, 9, 11, 12, 13] ?_
      simp only [prune, List.map_cons, List.map_nil, Go.AM.look, Nat.reduceEqDiff, reduceIte]
      refine awp_r rfl fun K hK => ?_
      simp -dsimp [wk]
      refine hK _ _ ?_; clear hK K
      simp only [thenA, inBlockA, reduceIte, Nat.reduceEqDiff, eq_self]
      exact ⟨k + 1, ⟨by omega, by rw [any_take hs, k2, hin]; rfl⟩, by omega, sub_same (by simp)⟩
  · skip
    try simp at hc0
    have hany := any_of_take (by omega) k2
    refine awp_exit ?_
    simp only [thenA, inBlockA, reduceIte, Nat.reduceEqDiff, eq_self]
    refine hK1 _ _ ?_
    refine awp_prune [] ?_
    simp only [prune, List.map_cons, List.map_nil, Go.AM.look, Nat.reduceEqDiff, reduceIte]
    refine awp_sr rfl fun K hK => ?_
    simp -dsimp
    refine hK _ _ ?_; clear hK K
    exact awp_ret (by simp only [hany]; simp)
end Go.Tram
