/- Walks: what can be reached, in the program. -/
import Derived.Test.YtdabjdajemiagaaGreatP10
import Derived.Test.YtdabjdajemiagaaGreatE1
namespace Go.Tram
open Go.AM Go.Proofs
set_option maxRecDepth 10000
set_option maxHeartbeats 4000000
set_option linter.unusedVariables false
set_option linter.unusedSimpArgs false

abbrev bCell (b : Bool) : List AV := [Bo b]
theorem flat_b (l : List Bool) : (l.map bCell).all (fun e => e.all flatC) = true := by simp [flatC]
@[simp high] theorem flat_b_ren (l : List Bool) (g : List (Option Nat)) (n : Nat) : (l.map bCell).map (fun e => e.map (renAV g n)) = l.map bCell := map_flatC (fun x h => flatC_ren h g n) (flat_b l)
@[simp high] theorem flat_b_renF (l : List Bool) (H : Nat → Option ARow) (g : List (Option Nat)) (n : Nat) : (l.map bCell).map (fun e => e.map (renF H g n)) = l.map bCell := map_flatC (fun x h => flatC_renF h H g n) (flat_b l)
@[simp high] theorem flat_b_frzP (l : List Bool) (H : Hp) (n : Nat) : (l.map bCell).map (fun e => e.map (frzP H n)) = l.map bCell := map_flatC (fun x h => flatC_frzP h H n) (flat_b l)
@[simp high] theorem flat_b_plain (l : List Bool) : plainEls (l.map bCell) = true := plain_flat (flat_b l)
abbrev brow (l : List Bool) : Option ARow := some (.els 1 (l.map bCell))

def qO (o : Nat) (q0 qn : List Int) : Nat := if qn.length = q0.length then o else 0
def qL (L q0 qn : List Int) : List Int := if qn.length = q0.length then L else qn
theorem bFold_pre : ∀ (L : List Int) (out : List Bool) (q : List Int), ∃ t, (bFold (out, q) L).2 = q ++ t
  | [], out, q => ⟨[], by simp [bFold]⟩
  | k :: L, out, q => by
    show ∃ t, (bFold (bStep (out, q) k) L).2 = q ++ t
    unfold bStep
    split
    · exact bFold_pre L out q
    · obtain ⟨t, ht⟩ := bFold_pre L (out.set k.toNat true) (q ++ [k])
      exact ⟨k :: t, by rw [ht]; simp⟩
theorem qLO {o : Nat} {L q0 qn t : List Int} (h : (L.drop o).take q0.length = q0) (hl : o + q0.length ≤ L.length) (ht : qn = q0 ++ t) : ((qL L q0 qn).drop (qO o q0 qn)).take qn.length = qn ∧ qO o q0 qn + qn.length ≤ (qL L q0 qn).length := by
  unfold qL qO
  split
  · rename_i e
    have : t = [] := by rw [ht, List.length_append] at e; exact List.eq_nil_of_length_eq_zero (by omega)
    subst this
    simp at ht
    subst ht
    exact ⟨h, hl⟩
  · simp

theorem c_reached (p : Plan) (from0 : Int) (hv : validB p = true) (h0 : 0 ≤ from0) (h1 : from0 < 2 * p.Rails.length) : PureCall Tryz.prog 74 [.iptr (net p), I from0] (.lst 1 ((reachL p from0).map bCell)) := by
  have hR := (valid_parts hv).2.1
  have w2 : IntKind.i64.wrap (2 * (p.Rails.length : Int)) = 2 * (p.Rails.length : Int) := wrap_in (by omega) (by omega)
  have wt : (2 * (p.Rails.length : Int)).toNat = 2 * p.Rails.length := by omega
  have f1 : Fits (2 * p.Rails.length) 2 := fits_of (by omega) (by omega)
  have w0 : 0 ≤ 2 * (p.Rails.length : Int) := by omega
  have hnx := c_tnext p
  have hit := fun m => c_next1 p m hv
  have hsh : net p = p.cells ++ (net p).drop p.cells.length := by rfl
  refine PureCall.of_bodyG Tryz.func74 rfl (by decide) (by simp [Tryz.ntmps74]) ?_
  intro J hJ
  simp only [Tryz.ntmps74, Tryz.results74]
  refine gwp_sr rfl (by decide) rfl rfl fun K hK => ?_
  simp -dsimp
  refine hK _ _ ?_; clear hK K
  refine gwp_sr rfl (by decide) rfl rfl fun K hK => ?_
  simp -dsimp [w2, wt, f1, w0, net]
  refine hK _ _ ?_; clear hK K
  refine gwp_flag (by decide) ?_
  refine gwp_sr rfl (by decide) rfl rfl fun K hK => ?_
  simp -dsimp
  refine hK _ _ ?_; clear hK K
  refine gwp_seq_k fun K1 hK1 => ?_
  refine gwp_block ?_
  refine gwp_prune [0, 5, 6] (Or.inr (by simp)) ?_
  simp only [prune, List.map_cons, List.map_nil, Go.AM.look, Nat.reduceEqDiff, reduceIte]
  refine gwp_loop_l [0, 5, 6] (α := List Bool × List Int × Nat × List Int) (fun _ => []) (fun s => [brow s.1, some (.els 1 [[.row 0 0 (2 * p.Rails.length)]]), irow s.2.1, some (.els 1 [[.row 2 s.2.2.1 s.2.2.2.length]])]) (fun s => BInv p from0 s.1 s.2.2.2 ∧ (s.2.1.drop s.2.2.1).take s.2.2.2.length = s.2.2.2 ∧ s.2.2.1 + s.2.2.2.length ≤ s.2.1.length) (fun s => s.2.2.2.length + unm s.1) (List.replicate (2 * p.Rails.length) false, [from0], 0, [from0]) ?_ ?_ ?_
  · exact ⟨binv_init h0 h1, rfl, Nat.le_refl _⟩
  · exact gsub (sub_rb [some 0, some 1, some 2, some 3] rfl (by simp) (by simp)) (by simp)
  rintro ⟨out, L, o, q⟩ ⟨i1, i2, i3⟩
  simp only at i1 i2 i3 ⊢
  simp only [List.cons_append, List.nil_append, prune, List.map_cons, List.map_nil, Go.AM.look, Nat.reduceEqDiff, reduceIte]
  refine gwp_seq_k fun K2 hK2 => ?_
  refine gwp_sr rfl (by decide) rfl rfl fun K hK => ?_
  simp -dsimp
  refine hK _ _ ?_; clear hK K
  refine gwp_cond rfl (fun hc0 => ?_) (fun hc0 => ?_)
  · skip
    try simp at hc0
    obtain ⟨x, q', rfl⟩ : ∃ x q', q = x :: q' := by rcases q with _ | ⟨x, q'⟩; simp at hc0; exact ⟨x, q', rfl⟩
    obtain ⟨⟨hx0, hx1⟩, _⟩ := i1.qi x (by simp)
    have hLx : L[o]? = some x := by have := congrArg (fun l => l[0]?) i2; simpa [List.getElem?_take, List.getElem?_drop] using this
    have hi2 : (L.drop (o + 1)).take q'.length = q' := by have := congrArg (List.drop 1) i2; simpa [List.drop_take, List.drop_drop] using this
    have hi3 : o + 1 + q'.length ≤ L.length := by simp only [List.length_cons] at i3; omega
    have hbs := binv_step hv h0 h1 i1
    have hbF := fun l hl => bFold_ok (n := 2 * p.Rails.length) l out q' i1.len hl
    have hbP := fun l => bFold_pre l out q'
    have hsz := i1.sz
    have hi3b : o + (q'.length + 1) ≤ L.length := by omega
    refine gwp_skip ?_
    simp only [thenA, inBlockA, reduceIte, Nat.reduceEqDiff, eq_self]
    refine hK2 _ _ ?_
    refine gwp_prune [0, 5, 6] (Or.inr (by simp)) ?_
    simp only [prune, List.map_cons, List.map_nil, Go.AM.look, Nat.reduceEqDiff, reduceIte]
    refine gwp_block ?_
    refine gwp_sr rfl (by decide) rfl rfl fun K hK => ?_
    simp -dsimp [hLx]
    refine hK _ _ ?_; clear hK K
    refine gwp_sr rfl (by decide) rfl rfl fun K hK => ?_
    simp -dsimp [hi3b]
    refine hK _ _ ?_; clear hK K
    refine gwp_sr rfl (by decide) rfl rfl fun K hK => ?_
    simp -dsimp
    refine callK_intro _ (c_move x hx0 (by omega)) (by simp) ?_
    simp -dsimp
    refine callK_intro _ (hnx (moveM x)) (by simp) ?_
    simp -dsimp
    refine hK _ _ ?_; clear hK K
    refine gwp_block ?_
    refine gwp_prune [0, 5, 6, 31] (Or.inr (by simp)) ?_
    simp only [prune, List.map_cons, List.map_nil, Go.AM.look, Nat.reduceEqDiff, reduceIte]
    refine gwp_range_s hJ [0, 5, 6, 31] (fun n => [brow (bFold (out, q') ((nxI p x).take n)).1, some (.els 1 [[.row 0 0 (2 * p.Rails.length)]]), irow (qL L q' (bFold (out, q') ((nxI p x).take n)).2), some (.els 1 [[.row 2 (qO (o + 1) q' (bFold (out, q') ((nxI p x).take n)).2) (bFold (out, q') ((nxI p x).take n)).2.length]])]) (fun n => True) rfl (hit (moveM x) (mov_of hx0 hx1)) rfl (by simp) (by decide) (by decide) (by decide) (by intro z hz; obtain ⟨q, _, rfl⟩ := List.mem_map.1 hz; rfl) ?_ ?_ ?_ ?_
    · trivial
    · exact sub_rb [some 0, some 1, some 2, some 3] rfl (by simp) (by simp [bFold, qL, qO])
    · intro n xv hxn hi l1 J1 hJ1
      rw [nxI_next] at hxn
      obtain ⟨k, hk, rfl⟩ : ∃ k, (nxI p x)[n]? = some k ∧ [(moveM k).av] = xv := by simpa using hxn
      have hkb := nxI_bd hv hx0 hx1 (List.mem_of_getElem? hk)
      have hst : bFold (out, q') ((nxI p x).take (n + 1)) = bStep (bFold (out, q') ((nxI p x).take n)) k := by rw [List.take_add_one, hk]; exact bFold_snoc _ _ _
      have hF := hbF ((nxI p x).take n) (fun y hy => by have := nxI_bd hv hx0 hx1 (List.mem_of_mem_take hy); omega)
      obtain ⟨t, ht⟩ := hbP ((nxI p x).take n)
      obtain ⟨hqa, hqb⟩ := qLO hi2 hi3 ht
      generalize bFold (out, q') ((nxI p x).take n) = s at hst hF ht hqa hqb ⊢
      obtain ⟨on, qn⟩ := s
      simp only at hst hF ht hqa hqb ⊢
      have hql := hF.sz
      have hqn : qn.length = q'.length + t.length := by rw [ht, List.length_append]
      have hnum := c_number (moveM k) (by simp only [moveM]; omega) (by simp only [moveM]; omega)
      rw [numM_moveM hkb.1] at hnum
      have hkt : k.toNat < 2 * p.Rails.length := by omega
      have hgk : on[k.toNat]? = some (gd on k.toNat) := getD_at (by rw [hF.len]; exact hkt)
      have f2 : Fits (qn.length + 1) 9 := fits_of (by simp only [List.length_cons] at hsz; omega) (by omega)
      have hqa' : (List.drop (qO (o + 1) q' qn) ((qL L q' qn).map nCell)).take qn.length = qn.map nCell := by rw [← List.map_drop, ← List.map_take, hqa]
      simp only [List.zip_cons_cons, List.zip_nil_left, List.zip_nil_right, List.cons_append, List.nil_append]
      refine gwp_r rfl (by decide) rfl rfl fun K hK => ?_
      simp -dsimp
      refine hK _ _ ?_; clear hK K
      simp only [onlyN]
      intro J2 hJ2
      refine gwp_prune [0, 5, 6, 8, 31] (Or.inr (by simp)) ?_
      simp only [prune, List.map_cons, List.map_nil, Go.AM.look, Nat.reduceEqDiff, reduceIte]
      refine gwp_block ?_
      refine gwp_sr rfl (by decide) rfl rfl fun K hK => ?_
      simp -dsimp
      refine callK_intro _ (hnum) (by simp) ?_
      simp -dsimp
      refine hK _ _ ?_; clear hK K
      refine gwp_sr rfl (by decide) rfl rfl fun K hK => ?_
      simp -dsimp [hgk, hkb.1, hkt]
      refine hK _ _ ?_; clear hK K
      refine gwp_cond rfl (fun hc1 => ?_) (fun hc1 => ?_)
      · skip
        skip
        have hgf : ¬ gd on k.toNat = true := by simpa using hc1
        have hst2 : bStep (on, qn) k = (on.set k.toNat true, qn ++ [k]) := by unfold bStep; rw [if_neg hgf]
        rw [hst2] at hst
        have hq1 : qL L q' (qn ++ [k]) = qn ++ [k] := by unfold qL; rw [if_neg (by rw [List.length_append, List.length_singleton]; omega)]
        have hq2 : qO (o + 1) q' (qn ++ [k]) = 0 := by unfold qO; rw [if_neg (by rw [List.length_append, List.length_singleton]; omega)]
        refine gwp_sr rfl (by decide) rfl rfl fun K hK => ?_
        simp -dsimp [hgk, hkb.1, hkt]
        refine hK _ _ ?_; clear hK K
        refine gwp_r rfl (by decide) rfl rfl fun K hK => ?_
        simp -dsimp [f2, hqa', hqb]
        refine hK _ _ ?_; clear hK K
        simp only [thenA, inBlockA, roundQ, reduceIte, Nat.reduceEqDiff, eq_self]
        refine ⟨trivial, sub_rb [some 0, some 1, some 5, some 3] rfl (by simp) (by simp [hst, hq1, hq2])⟩
      · skip
        skip
        have hgf : gd on k.toNat = true := by simpa using hc1
        have hst2 : bStep (on, qn) k = (on, qn) := by unfold bStep; rw [if_pos hgf]
        rw [hst2] at hst
        refine gwp_skip ?_
        simp only [thenA, inBlockA, roundQ, reduceIte, Nat.reduceEqDiff, eq_self]
        refine ⟨trivial, sub_rb [some 0, some 1, some 2, some 3] rfl (by simp) (by simp [hst])⟩
    · intro hdone
      simp only [thenA, inBlockA, reduceIte, Nat.reduceEqDiff, eq_self]
      have hbe := hbF (nxI p x) (fun y hy => by have := nxI_bd hv hx0 hx1 hy; omega)
      obtain ⟨t, ht⟩ := hbP (nxI p x)
      obtain ⟨hqa, hqb⟩ := qLO hi2 hi3 ht
      have hxl : ((nextL p (moveM x)).map fun k => [k.av]).length = (nxI p x).length := by rw [List.length_map, nxI_len]
      exact ⟨((bFold (out, q') (nxI p x)).1, qL L q' (bFold (out, q') (nxI p x)).2, qO (o + 1) q' (bFold (out, q') (nxI p x)).2, (bFold (out, q') (nxI p x)).2), ⟨hbs.1, hqa, hqb⟩, by have := hbs.2; simp only [List.length_cons] at this ⊢; omega, gsub (sub_rb [some 0, some 1, some 2, some 3] rfl (by simp) (by rw [hxl]; simp)) (by simp)⟩
  · skip
    try simp at hc0
    have hq : q = [] := by simpa using hc0
    subst hq
    have hend := binv_end hv h0 h1 i1
    subst hend
    refine gwp_exit ?_
    simp only [thenA, inBlockA, reduceIte, Nat.reduceEqDiff, eq_self]
    refine hK1 _ _ ?_
    refine gwp_prune [5] (Or.inr (by simp)) ?_
    simp only [prune, List.map_cons, List.map_nil, Go.AM.look, Nat.reduceEqDiff, reduceIte]
    refine gwp_sr rfl (by decide) rfl rfl fun K hK => ?_
    simp -dsimp
    refine hK _ _ ?_; clear hK K
    have g1 : List.take (2 * p.Rails.length) ((reachL p from0).map bCell) = (reachL p from0).map bCell := List.take_of_length_le (by simp [reachL_len])
    exact gwp_ret (by simp [g1, reachL_len])
end Go.Tram
