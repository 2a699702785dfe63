/- Walks: what can be reached, in the program. -/
import Derived.Test.YtdabjdajemiagaaGreatP10
import Derived.Test.YtdabjdajemiagaaGreatE1
import Derived.Test.YtdabjdajemiagaaGreatR7
import Derived.Test.YtdabjdajemiagaaGreatP6
/- Walks: what can be reached, in the program. -/
namespace Go.Tram
open Go.AM Go.Proofs
set_option maxRecDepth 10000
set_option maxHeartbeats 4000000
set_option linter.unusedVariables false
set_option linter.unusedSimpArgs false

abbrev bCell (b : Bool) : List AV := [Bo b]
theorem flat_b (l : List Bool) : (l.map bCell).all (fun e => e.all flatC) = true := by simp [flatC]
@[simp high] theorem flat_b_ren (l : List Bool) (g : List (Option Nat)) (n : Nat) : (l.map bCell).map (fun e => e.map (renAV g n)) = l.map bCell := map_flatC (fun x h => flatC_ren h g n) (flat_b l)
@[simp high] theorem flat_b_renF (l : List Bool) (H : Nat → Option ARow) (g : List (Option Nat)) (n : Nat) : (l.map bCell).map (fun e => e.map (renF H g n)) = l.map bCell := map_flatC (fun x h => flatC_renF h H g n) (flat_b l)
@[simp high] theorem flat_b_frzP (l : List Bool) (H : Hp) (n : Nat) : (l.map bCell).map (fun e => e.map (frzP H n)) = l.map bCell := map_flatC (fun x h => flatC_frzP h H n) (flat_b l)
@[simp high] theorem flat_b_plain (l : List Bool) : plainEls (l.map bCell) = true := plain_flat (flat_b l)
abbrev brow (l : List Bool) : Option ARow := some (.els 1 (l.map bCell))

def qO (o : Nat) (q0 qn : List Int) : Nat := if qn.length = q0.length then o else 0
def qL (L q0 qn : List Int) : List Int := if qn.length = q0.length then L else qn
theorem bFold_pre : ∀ (L : List Int) (out : List Bool) (q : List Int), ∃ t, (bFold (out, q) L).2 = q ++ t
  | [], out, q => ⟨[], by simp [bFold]⟩
  | k :: L, out, q => by
    show ∃ t, (bFold (bStep (out, q) k) L).2 = q ++ t
    unfold bStep
    split
    · exact bFold_pre L out q
    · obtain ⟨t, ht⟩ := bFold_pre L (out.set k.toNat true) (q ++ [k])
      exact ⟨k :: t, by rw [ht]; simp⟩
theorem qLO {o : Nat} {L q0 qn t : List Int} (h : (L.drop o).take q0.length = q0) (hl : o + q0.length ≤ L.length) (ht : qn = q0 ++ t) : ((qL L q0 qn).drop (qO o q0 qn)).take qn.length = qn ∧ qO o q0 qn + qn.length ≤ (qL L q0 qn).length := by
  unfold qL qO
  split
  · rename_i e
    have : t = [] := by rw [ht, List.length_append] at e; exact List.eq_nil_of_length_eq_zero (by omega)
    subst this
    simp at ht
    subst ht
    exact ⟨h, hl⟩
  · simp

theorem c_reached (p : Plan) (from0 : Int) (hv : validB p = true) (h0 : 0 ≤ from0) (h1 : from0 < 2 * p.Rails.length) : PureCall Tryz.prog 74 [.iptr (net p), I from0] (.lst 1 ((reachL p from0).map bCell)) := by
  have hR := (valid_parts hv).2.1
  have w2 : IntKind.i64.wrap (2 * (p.Rails.length : Int)) = 2 * (p.Rails.length : Int) := wrap_in (by omega) (by omega)
  have wt : (2 * (p.Rails.length : Int)).toNat = 2 * p.Rails.length := by omega
  have f1 : Fits (2 * p.Rails.length) 2 := fits_of (by omega) (by omega)
  have w0 : 0 ≤ 2 * (p.Rails.length : Int) := by omega
  have hnx := c_tnext p
  have hit := fun m => c_next1 p m hv
  have hsh : net p = p.cells ++ (net p).drop p.cells.length := by rfl
  refine PureCall.of_bodyG Tryz.func74 rfl (by decide) (by simp [Tryz.ntmps74]) ?_
  intro J hJ
  simp only [Tryz.ntmps74, Tryz.results74]
  refine gwp_sr rfl (by decide) rfl rfl fun K hK => ?_
  simp -dsimp
  refine hK _ _ ?_; clear hK K
  refine gwp_sr rfl (by decide) rfl rfl fun K hK => ?_
  simp -dsimp [w2, wt, f1, w0, net]
  refine hK _ _ ?_; clear hK K
  refine gwp_flag (by decide) ?_
  refine gwp_sr rfl (by decide) rfl rfl fun K hK => ?_
  simp -dsimp
  refine hK _ _ ?_; clear hK K
  refine gwp_seq_k fun K1 hK1 => ?_
  refine gwp_block ?_
  refine gwp_prune [0, 5, 6] (Or.inr (by simp)) ?_
  simp only [prune, List.map_cons, List.map_nil, Go.AM.look, Nat.reduceEqDiff, reduceIte]
  refine gwp_loop_l [0, 5, 6] (α := List Bool × List Int × Nat × List Int) (fun _ => []) (fun s => [brow s.1, some (.els 1 [[.row 0 0 (2 * p.Rails.length)]]), irow s.2.1, some (.els 1 [[.row 2 s.2.2.1 s.2.2.2.length]])]) (fun s => BInv p from0 s.1 s.2.2.2 ∧ (s.2.1.drop s.2.2.1).take s.2.2.2.length = s.2.2.2 ∧ s.2.2.1 + s.2.2.2.length ≤ s.2.1.length) (fun s => s.2.2.2.length + unm s.1) (List.replicate (2 * p.Rails.length) false, [from0], 0, [from0]) ?_ ?_ ?_
  · exact ⟨binv_init h0 h1, rfl, Nat.le_refl _⟩
  · exact gsub (sub_rb [some 0, some 1, some 2, some 3] rfl (by simp) (by simp)) (by simp)
  rintro ⟨out, L, o, q⟩ ⟨i1, i2, i3⟩
  simp only at i1 i2 i3 ⊢
  simp only [List.cons_append, List.nil_append, prune, List.map_cons, List.map_nil, Go.AM.look, Nat.reduceEqDiff, reduceIte]
  refine gwp_seq_k fun K2 hK2 => ?_
  refine gwp_sr rfl (by decide) rfl rfl fun K hK => ?_
  simp -dsimp
  refine hK _ _ ?_; clear hK K
  refine gwp_cond rfl (fun hc0 => ?_) (fun hc0 => ?_)
  · skip
    try simp at hc0
    obtain ⟨x, q', rfl⟩ : ∃ x q', q = x :: q' := by rcases q with _ | ⟨x, q'⟩; simp at hc0; exact ⟨x, q', rfl⟩
    obtain ⟨⟨hx0, hx1⟩, _⟩ := i1.qi x (by simp)
    have hLx : L[o]? = some x := by have := congrArg (fun l => l[0]?) i2; simpa [List.getElem?_take, List.getElem?_drop] using this
    have hi2 : (L.drop (o + 1)).take q'.length = q' := by have := congrArg (List.drop 1) i2; simpa [List.drop_take, List.drop_drop] using this
    have hi3 : o + 1 + q'.length ≤ L.length := by simp only [List.length_cons] at i3; omega
    have hbs := binv_step hv h0 h1 i1
    have hbF := fun l hl => bFold_ok (n := 2 * p.Rails.length) l out q' i1.len hl
    have hbP := fun l => bFold_pre l out q'
    have hsz := i1.sz
    have hi3b : o + (q'.length + 1) ≤ L.length := by omega
    refine gwp_skip ?_
    simp only [thenA, inBlockA, reduceIte, Nat.reduceEqDiff, eq_self]
    refine hK2 _ _ ?_
    refine gwp_prune [0, 5, 6] (Or.inr (by simp)) ?_
    simp only [prune, List.map_cons, List.map_nil, Go.AM.look, Nat.reduceEqDiff, reduceIte]
    refine gwp_block ?_
    refine gwp_sr rfl (by decide) rfl rfl fun K hK => ?_
    simp -dsimp [hLx]
    refine hK _ _ ?_; clear hK K
    refine gwp_sr rfl (by decide) rfl rfl fun K hK => ?_
    simp -dsimp [hi3b]
    refine hK _ _ ?_; clear hK K
    refine gwp_sr rfl (by decide) rfl rfl fun K hK => ?_
    simp -dsimp
    refine callK_intro _ (c_move x hx0 (by omega)) (by simp) ?_
    simp -dsimp
    refine callK_intro _ (hnx (moveM x)) (by simp) ?_
    simp -dsimp
    refine hK _ _ ?_; clear hK K
    refine gwp_block ?_
    refine gwp_prune [0, 5, 6, 31] (Or.inr (by simp)) ?_
    simp only [prune, List.map_cons, List.map_nil, Go.AM.look, Nat.reduceEqDiff, reduceIte]
    refine gwp_range_s hJ [0, 5, 6, 31] (fun n => [brow (bFold (out, q') ((nxI p x).take n)).1, some (.els 1 [[.row 0 0 (2 * p.Rails.length)]]), irow (qL L q' (bFold (out, q') ((nxI p x).take n)).2), some (.els 1 [[.row 2 (qO (o + 1) q' (bFold (out, q') ((nxI p x).take n)).2) (bFold (out, q') ((nxI p x).take n)).2.length]])]) (fun n => True) rfl (hit (moveM x) (mov_of hx0 hx1)) rfl (by simp) (by decide) (by decide) (by decide) (by intro z hz; obtain ⟨q, _, rfl⟩ := List.mem_map.1 hz; rfl) ?_ ?_ ?_ ?_
    · trivial
    · exact sub_rb [some 0, some 1, some 2, some 3] rfl (by simp) (by simp [bFold, qL, qO])
    · intro n xv hxn hi l1 J1 hJ1
      rw [nxI_next] at hxn
      obtain ⟨k, hk, rfl⟩ : ∃ k, (nxI p x)[n]? = some k ∧ [(moveM k).av] = xv := by simpa using hxn
      have hkb := nxI_bd hv hx0 hx1 (List.mem_of_getElem? hk)
      have hst : bFold (out, q') ((nxI p x).take (n + 1)) = bStep (bFold (out, q') ((nxI p x).take n)) k := by rw [List.take_add_one, hk]; exact bFold_snoc _ _ _
      have hF := hbF ((nxI p x).take n) (fun y hy => by have := nxI_bd hv hx0 hx1 (List.mem_of_mem_take hy); omega)
      obtain ⟨t, ht⟩ := hbP ((nxI p x).take n)
      obtain ⟨hqa, hqb⟩ := qLO hi2 hi3 ht
      generalize bFold (out, q') ((nxI p x).take n) = s at hst hF ht hqa hqb ⊢
      obtain ⟨on, qn⟩ := s
      simp only at hst hF ht hqa hqb ⊢
      have hql := hF.sz
      have hqn : qn.length = q'.length + t.length := by rw [ht, List.length_append]
      have hnum := c_number (moveM k) (by simp only [moveM]; omega) (by simp only [moveM]; omega)
      rw [numM_moveM hkb.1] at hnum
      have hkt : k.toNat < 2 * p.Rails.length := by omega
      have hgk : on[k.toNat]? = some (gd on k.toNat) := getD_at (by rw [hF.len]; exact hkt)
      have f2 : Fits (qn.length + 1) 9 := fits_of (by simp only [List.length_cons] at hsz; omega) (by omega)
      have hqa' : (List.drop (qO (o + 1) q' qn) ((qL L q' qn).map nCell)).take qn.length = qn.map nCell := by rw [← List.map_drop, ← List.map_take, hqa]
      simp only [List.zip_cons_cons, List.zip_nil_left, List.zip_nil_right, List.cons_append, List.nil_append]
      refine gwp_r rfl (by decide) rfl rfl fun K hK => ?_
      simp -dsimp
      refine hK _ _ ?_; clear hK K
      simp only [onlyN]
      intro J2 hJ2
      refine gwp_prune [0, 5, 6, 8, 31] (Or.inr (by simp)) ?_
      simp only [prune, List.map_cons, List.map_nil, Go.AM.look, Nat.reduceEqDiff, reduceIte]
      refine gwp_block ?_
      refine gwp_sr rfl (by decide) rfl rfl fun K hK => ?_
      simp -dsimp
      refine callK_intro _ (hnum) (by simp) ?_
      simp -dsimp
      refine hK _ _ ?_; clear hK K
      refine gwp_sr rfl (by decide) rfl rfl fun K hK => ?_
      simp -dsimp [hgk, hkb.1, hkt]
      refine hK _ _ ?_; clear hK K
      refine gwp_cond rfl (fun hc1 => ?_) (fun hc1 => ?_)
      · skip
        skip
        have hgf : ¬ gd on k.toNat = true := by simpa using hc1
        have hst2 : bStep (on, qn) k = (on.set k.toNat true, qn ++ [k]) := by unfold bStep; rw [if_neg hgf]
        rw [hst2] at hst
        have hq1 : qL L q' (qn ++ [k]) = qn ++ [k] := by unfold qL; rw [if_neg (by rw [List.length_append, List.length_singleton]; omega)]
        have hq2 : qO (o + 1) q' (qn ++ [k]) = 0 := by unfold qO; rw [if_neg (by rw [List.length_append, List.length_singleton]; omega)]
        refine gwp_sr rfl (by decide) rfl rfl fun K hK => ?_
        simp -dsimp [hgk, hkb.1, hkt]
        refine hK _ _ ?_; clear hK K
        refine gwp_r rfl (by decide) rfl rfl fun K hK => ?_
        simp -dsimp [f2, hqa', hqb]
        refine hK _ _ ?_; clear hK K
        simp only [thenA, inBlockA, roundQ, reduceIte, Nat.reduceEqDiff, eq_self]
        refine ⟨trivial, sub_rb [some 0, some 1, some 5, some 3] rfl (by simp) (by simp [hst, hq1, hq2])⟩
      · skip
        skip
        have hgf : gd on k.toNat = true := by simpa using hc1
        have hst2 : bStep (on, qn) k = (on, qn) := by unfold bStep; rw [if_pos hgf]
        rw [hst2] at hst
        refine gwp_skip ?_
        simp only [thenA, inBlockA, roundQ, reduceIte, Nat.reduceEqDiff, eq_self]
        refine ⟨trivial, sub_rb [some 0, some 1, some 2, some 3] rfl (by simp) (by simp [hst])⟩
    · intro hdone
      simp only [thenA, inBlockA, reduceIte, Nat.reduceEqDiff, eq_self]
      have hbe := hbF (nxI p x) (fun y hy => by have := nxI_bd hv hx0 hx1 hy; omega)
      obtain ⟨t, ht⟩ := hbP (nxI p x)
      obtain ⟨hqa, hqb⟩ := qLO hi2 hi3 ht
      have hxl : ((nextL p (moveM x)).map fun k => [k.av]).length = (nxI p x).length := by rw [List.length_map, nxI_len]
      exact ⟨((bFold (out, q') (nxI p x)).1, qL L q' (bFold (out, q') (nxI p x)).2, qO (o + 1) q' (bFold (out, q') (nxI p x)).2, (bFold (out, q') (nxI p x)).2), ⟨hbs.1, hqa, hqb⟩, by have := hbs.2; simp only [List.length_cons] at this ⊢; omega, gsub (sub_rb [some 0, some 1, some 2, some 3] rfl (by simp) (by rw [hxl]; simp)) (by simp)⟩
  · skip
    try simp at hc0
    have hq : q = [] := by simpa using hc0
    subst hq
    have hend := binv_end hv h0 h1 i1
    subst hend
    refine gwp_exit ?_
    simp only [thenA, inBlockA, reduceIte, Nat.reduceEqDiff, eq_self]
    refine hK1 _ _ ?_
    refine gwp_prune [5] (Or.inr (by simp)) ?_
    simp only [prune, List.map_cons, List.map_nil, Go.AM.look, Nat.reduceEqDiff, reduceIte]
    refine gwp_sr rfl (by decide) rfl rfl fun K hK => ?_
    simp -dsimp
    refine hK _ _ ?_; clear hK K
    have g1 : List.take (2 * p.Rails.length) ((reachL p from0).map bCell) = (reachL p from0).map bCell := List.take_of_length_le (by simp [reachL_len])
    exact gwp_ret (by simp [g1, reachL_len])
end Go.Tram
/- Walks: what turns, and what is endless, in the program. -/
namespace Go.Tram
open Go.AM Go.Proofs
set_option maxRecDepth 10000
set_option maxHeartbeats 4000000
set_option linter.unusedVariables false
set_option linter.unusedSimpArgs false

noncomputable def turnB (p : Plan) (r : Int) : Bool := rB p (2 * r) (2 * r + 1) || rB p (2 * r + 1) (2 * r)
theorem reachL_at {p : Plan} {f k : Int} (h0 : 0 ≤ k) (h1 : k < 2 * p.Rails.length) : (reachL p f)[k.toNat]? = some (rB p f k) := by
  have := reachL_get (p := p) (f := f) (k := k.toNat) (by omega)
  rwa [show ((k.toNat : Nat) : Int) = k by omega] at this

theorem c_tTurns_v (p : Plan) (r : Int) (h : validB p = false) : PureCall Tryz.prog 38 [p.av, I r] (.tup [Bo false, I 2]) := by
  refine PureCall.of_body Tryz.func38 rfl (by decide) (by simp [Tryz.ntmps38]) ?_
  simp only [Tryz.ntmps38, Tryz.results38]
  refine awp_sr rfl fun K hK => ?_
  simp -dsimp
  refine hK _ _ ?_; clear hK K
  refine awp_sr rfl fun K hK => ?_
  simp -dsimp
  refine callK_intro _ (c_open_f p h) (by simp) ?_
  simp -dsimp
  refine hK _ _ ?_; clear hK K
  refine awp_seq_k fun K1 hK1 => ?_
  refine awp_sr rfl fun K hK => ?_
  simp -dsimp
  refine callK_may (Bo true) (fun hm => by simp at hm) (by simp) ?_
  simp -dsimp
  refine hK _ _ ?_; clear hK K
  refine awp_cond rfl (fun hc0 => ?_) (fun hc0 => ?_)
  · skip
    skip
    refine awp_sr rfl fun K hK => ?_
    simp -dsimp
    refine hK _ _ ?_; clear hK K
    exact awp_ret (by simp)
  · skip
    skip
    simp at hc0
theorem c_tTurns_m (p : Plan) (r : Int) (hv : validB p = true) (h : inr r 0 (p.Rails.length - 1) = false) : PureCall Tryz.prog 38 [p.av, I r] (.tup [Bo false, I 2]) := by
  have hop := c_open_t p hv
  have hh := c_nhas p r false hv
  rw [h] at hh
  generalize net p = sh at hop hh
  refine PureCall.of_body Tryz.func38 rfl (by decide) (by simp [Tryz.ntmps38]) ?_
  simp only [Tryz.ntmps38, Tryz.results38]
  refine awp_sr rfl fun K hK => ?_
  simp -dsimp
  refine hK _ _ ?_; clear hK K
  refine awp_sr rfl fun K hK => ?_
  simp -dsimp
  refine callK_intro _ (hop) (by simp) ?_
  simp -dsimp
  refine hK _ _ ?_; clear hK K
  refine awp_seq_k fun K1 hK1 => ?_
  refine awp_sr rfl fun K hK => ?_
  simp -dsimp
  refine callK_may _ (fun hm => hh) (by simp) ?_
  simp -dsimp
  refine hK _ _ ?_; clear hK K
  refine awp_cond rfl (fun hc0 => ?_) (fun hc0 => ?_)
  · skip
    skip
    refine awp_sr rfl fun K hK => ?_
    simp -dsimp
    refine hK _ _ ?_; clear hK K
    exact awp_ret (by simp)
  · skip
    skip
    simp at hc0
theorem c_tTurns_t (p : Plan) (r : Int) (hv : validB p = true) (h : inr r 0 (p.Rails.length - 1) = true) : PureCall Tryz.prog 38 [p.av, I r] (.tup [Bo (turnB p r), I 0]) := by
  have hR := (valid_parts hv).2.1
  have hr := inr_iff.1 h
  have hop := c_open_t p hv
  have hh := c_nhas p r false hv
  rw [h] at hh
  have hA := c_reached p (2 * r) hv (by omega) (by omega)
  have hB := c_reached p (2 * r + 1) hv (by omega) (by omega)
  have gA := reachL_at (p := p) (f := 2 * r) (k := 2 * r + 1) (by omega) (by omega)
  have gB := reachL_at (p := p) (f := 2 * r + 1) (k := 2 * r) (by omega) (by omega)
  have w1 : IntKind.i64.wrap (2 * r) = 2 * r := wrap_in (by omega) (by omega)
  have w2 : IntKind.i64.wrap (2 * r + 1) = 2 * r + 1 := wrap_in (by omega) (by omega)
  have n1 : 0 ≤ 2 * r := by omega
  have n2 : 0 ≤ 2 * r + 1 := by omega
  generalize net p = sh at hop hh hA hB
  refine PureCall.of_body Tryz.func38 rfl (by decide) (by simp [Tryz.ntmps38]) ?_
  simp only [Tryz.ntmps38, Tryz.results38]
  refine awp_sr rfl fun K hK => ?_
  simp -dsimp
  refine hK _ _ ?_; clear hK K
  refine awp_sr rfl fun K hK => ?_
  simp -dsimp
  refine callK_intro _ (hop) (by simp) ?_
  simp -dsimp
  refine hK _ _ ?_; clear hK K
  refine awp_seq_k fun K1 hK1 => ?_
  refine awp_sr rfl fun K hK => ?_
  simp -dsimp
  refine callK_may _ (fun hm => hh) (by simp) ?_
  simp -dsimp
  refine hK _ _ ?_; clear hK K
  refine awp_cond rfl (fun hc0 => ?_) (fun hc0 => ?_)
  · skip
    skip
    simp at hc0
  · skip
    skip
    refine awp_skip ?_
    simp only [thenA, inBlockA, reduceIte, Nat.reduceEqDiff, eq_self]
    refine hK1 _ _ ?_
    refine awp_prune [1, 6] ?_
    simp only [prune, List.map_cons, List.map_nil, Go.AM.look, Nat.reduceEqDiff, reduceIte]
    refine awp_sr rfl fun K hK => ?_
    simp -dsimp [w1, w2, n2, gA]
    refine callK_intro _ (hA) (by simp) ?_
    simp -dsimp [w1, w2, n2, gA]
    refine hK _ _ ?_; clear hK K
    refine awp_sr rfl fun K hK => ?_
    simp -dsimp [w1, w2, n1]
    refine callK_may _ (fun hm => hB) (by simp) ?_
    simp -dsimp [w1, w2, n1]
    refine idxK_intro [Bo (rB p (2 * r + 1) (2 * r))] (fun hm => by rw [List.getElem?_map, gB]; rfl) ?_
    simp -dsimp [w1, w2, n1]
    refine hK _ _ ?_; clear hK K
    exact awp_ret (by simp [turnB])

theorem c_tEndless_v (p : Plan) (h : validB p = false) : PureCall Tryz.prog 41 [p.av] (.tup [nilS, I 2]) := by
  refine PureCall.of_body Tryz.func41 rfl (by decide) (by simp [Tryz.ntmps41]) ?_
  simp only [Tryz.ntmps41, Tryz.results41]
  refine awp_sr rfl fun K hK => ?_
  simp -dsimp
  refine hK _ _ ?_; clear hK K
  refine awp_sr rfl fun K hK => ?_
  simp -dsimp
  refine callK_intro _ (c_open_f p h) (by simp) ?_
  simp -dsimp
  refine hK _ _ ?_; clear hK K
  refine awp_seq_k fun K1 hK1 => ?_
  refine awp_sr rfl fun K hK => ?_
  simp -dsimp
  refine hK _ _ ?_; clear hK K
  refine awp_cond rfl (fun hc0 => ?_) (fun hc0 => ?_)
  · skip
    skip
    refine awp_sr rfl fun K hK => ?_
    simp -dsimp
    refine hK _ _ ?_; clear hK K
    exact awp_ret (by simp)
  · skip
    skip
    simp at hc0

/-- For each move what can be reached from it. -/
noncomputable def reA (p : Plan) (n k : Nat) : List (List AV) := ((List.range k).map fun (i : Nat) => [.lst 1 ((reachL p i).map bCell)]) ++ List.replicate (n - k) [nilS]
@[simp high] theorem reA_ren (p : Plan) (n k : Nat) (g : List (Option Nat)) (m : Nat) : (reA p n k).map (fun e => e.map (renAV g m)) = reA p n k := by cases m <;> simp [reA]
theorem reA_len {p : Plan} {n k : Nat} (h : k ≤ n) : (reA p n k).length = n := by simp [reA]; omega
theorem reA_set {p : Plan} {n k : Nat} (h : k < n) : (reA p n k).set k [.lst 1 ((reachL p k).map bCell)] = reA p n (k + 1) := by
  obtain ⟨m, hm⟩ : ∃ m, n - k = m + 1 := ⟨n - k - 1, by omega⟩
  unfold reA
  rw [hm, show n - (k + 1) = m by omega, List.range_succ, List.map_append, List.append_assoc, List.set_append_right _ _ (by simp)]
  simp [List.replicate_succ]
theorem reA_cur {p : Plan} {n k : Nat} (h : k < n) : (reA p n k)[k]? = some [nilS] := by
  unfold reA
  rw [List.getElem?_append_right (by simp)]
  simp [List.getElem?_replicate]; omega
theorem reA_get {p : Plan} {n k : Nat} (h : k < n) : (reA p n n)[k]? = some [.lst 1 ((reachL p k).map bCell)] := by
  unfold reA
  simp [h]

noncomputable def enR (p : Plan) (n k : Nat) : List Bool := ((List.range k).map fun (i : Nat) => endTo p i n) ++ List.replicate (n - k) false
noncomputable def enS (p : Plan) (n k j : Nat) : List Bool := (enR p n k).set k (endTo p k j)
theorem enR_len {p : Plan} {n k : Nat} (h : k ≤ n) : (enR p n k).length = n := by simp [enR]; omega
theorem enS_len {p : Plan} {n k j : Nat} (h : k ≤ n) : (enS p n k j).length = n := by simp [enS, enR_len h]
theorem enS_end {p : Plan} {n k : Nat} (h : k < n) : enS p n k n = enR p n (k + 1) := by
  obtain ⟨m, hm⟩ : ∃ m, n - k = m + 1 := ⟨n - k - 1, by omega⟩
  unfold enS enR
  rw [hm, show n - (k + 1) = m by omega, List.range_succ, List.map_append, List.append_assoc, List.set_append_right _ _ (by simp)]
  simp [List.replicate_succ]
theorem enS_cur {p : Plan} {n k j : Nat} (h : k < n) : (enS p n k j)[k]? = some (endTo p k j) := by
  have := enR_len (p := p) (n := n) (k := k) (by omega)
  unfold enS
  rw [List.getElem?_set_self (by omega)]
theorem enS_set {p : Plan} {n k j : Nat} : (enS p n k j).set k (endTo p k (j + 1)) = enS p n k (j + 1) := by
  unfold enS; rw [List.set_set]
theorem enR_end {p : Plan} : enR p (2 * p.Rails.length) (2 * p.Rails.length) = endL p := by simp [enR, endL]

theorem c_tEndless_t (p : Plan) (hv : validB p = true) : PureCall Tryz.prog 41 [p.av] (.tup [.lst 1 ((endL p).map bCell), I 0]) := by
  have hR := (valid_parts hv).2.1
  have hop := c_open_t p hv
  have hre := fun k => c_reached p k hv
  have w2 : IntKind.i64.wrap (2 * (p.Rails.length : Int)) = 2 * (p.Rails.length : Int) := wrap_in (by omega) (by omega)
  have wt : (2 * (p.Rails.length : Int)).toNat = 2 * p.Rails.length := by omega
  have f1 : Fits (2 * p.Rails.length) 25 := fits_of (by omega) (by omega)
  have f2 : Fits (2 * p.Rails.length) 2 := fits_of (by omega) (by omega)
  have w0 : 0 ≤ 2 * (p.Rails.length : Int) := by omega
  generalize net p = sh at hop hre
  obtain ⟨n, hn⟩ : ∃ n, n = 2 * p.Rails.length := ⟨_, rfl⟩
  have hn' : 2 * (p.Rails.length : Int) = (n : Int) := by omega
  rw [← enR_end]
  rw [← hn] at wt f1 f2 ⊢
  rw [hn'] at w2 wt w0
  refine PureCall.of_body Tryz.func41 rfl (by decide) (by simp [Tryz.ntmps41]) ?_
  simp only [Tryz.ntmps41, Tryz.results41]
  refine awp_sr rfl fun K hK => ?_
  simp -dsimp
  refine hK _ _ ?_; clear hK K
  refine awp_sr rfl fun K hK => ?_
  simp -dsimp
  refine callK_intro _ (hop) (by simp) ?_
  simp -dsimp
  refine hK _ _ ?_; clear hK K
  refine awp_seq_k fun K1 hK1 => ?_
  refine awp_sr rfl fun K hK => ?_
  simp -dsimp
  refine hK _ _ ?_; clear hK K
  refine awp_cond rfl (fun hc0 => ?_) (fun hc0 => ?_)
  · skip
    skip
    simp at hc0
  · skip
    skip
    refine awp_skip ?_
    simp only [thenA, inBlockA, reduceIte, Nat.reduceEqDiff, eq_self]
    refine hK1 _ _ ?_
    refine awp_prune [1, 4] ?_
    simp only [prune, List.map_cons, List.map_nil, Go.AM.look, Nat.reduceEqDiff, reduceIte]
    refine awp_sr rfl fun K hK => ?_
    simp -dsimp [hn', w2, wt, f1, w0]
    refine hK _ _ ?_; clear hK K
    refine awp_seq_k fun K2 hK2 => ?_
    refine awp_sr rfl fun K hK => ?_
    simp -dsimp
    refine hK _ _ ?_; clear hK K
    refine awp_block ?_
    refine awp_prune [4, 6, 25, 26] ?_
    simp only [prune, List.map_cons, List.map_nil, Go.AM.look, Nat.reduceEqDiff, reduceIte]
    refine awp_loop_l [4, 6, 25] (α := Nat) (fun k => [(26, I k)]) (fun k => [some (.els 2 [p.cells]), some (.els 1 (reA p n k))]) (fun k => k ≤ n) (fun k => n - k) 0 ?_ ?_ ?_
    · simp
    · exact sub_rb [some 0, some 1] rfl (by simp) (by simp [reA])
    rintro k k1
    simp only [List.cons_append, List.nil_append, prune, List.map_cons, List.map_nil, Go.AM.look, Nat.reduceEqDiff, reduceIte]
    refine awp_sr rfl fun K hK => ?_
    simp -dsimp
    refine hK _ _ ?_; clear hK K
    refine awp_seq_k fun K3 hK3 => ?_
    refine awp_cond rfl (fun hc1 => ?_) (fun hc1 => ?_)
    · skip
      try simp at hc1
      have hk : k < n := by simpa using hc1
      have wk : IntKind.i64.wrap ((k : Int) + 1) = (k : Int) + 1 := wrap_in (by omega) (by omega)
      have hcur := reA_cur (p := p) hk
      have hset := reA_set (p := p) hk
      refine awp_skip ?_
      simp only [thenA, inBlockA, reduceIte, Nat.reduceEqDiff, eq_self]
      refine hK3 _ _ ?_
      refine awp_prune [4, 6, 25, 26] ?_
      simp only [prune, List.map_cons, List.map_nil, Go.AM.look, Nat.reduceEqDiff, reduceIte]
      refine awp_seq_k fun K4 hK4 => ?_
      refine awp_block ?_
      refine awp_sr rfl fun K hK => ?_
      simp -dsimp
      refine hK _ _ ?_; clear hK K
      refine awp_r rfl fun K hK => ?_
      simp -dsimp [hk, hcur]
      refine callK_intro _ (hre k (by omega) (by omega)) (by simp) ?_
      simp -dsimp [hk, hcur]
      refine hK _ _ ?_; clear hK K
      simp only [thenA, inBlockA, reduceIte, Nat.reduceEqDiff, eq_self]
      refine hK4 _ _ ?_
      refine awp_prune [4, 6, 25, 26] ?_
      simp only [prune, List.map_cons, List.map_nil, Go.AM.look, Nat.reduceEqDiff, reduceIte]
      refine awp_r rfl fun K hK => ?_
      simp -dsimp [wk]
      refine hK _ _ ?_; clear hK K
      simp only [thenA, inBlockA, reduceIte, Nat.reduceEqDiff, eq_self]
      exact ⟨k + 1, by omega, by omega, sub_rb [some 0, some 1] rfl (by simp) (by simp [hset])⟩
    · skip
      try simp at hc1
      have hke : k = n := by omega
      subst hke
      refine awp_exit ?_
      simp only [thenA, inBlockA, reduceIte, Nat.reduceEqDiff, eq_self]
      refine hK2 _ _ ?_
      refine awp_prune [6] ?_
      simp only [prune, List.map_cons, List.map_nil, Go.AM.look, Nat.reduceEqDiff, reduceIte]
      refine awp_sr rfl fun K hK => ?_
      simp -dsimp [w2, wt, f2, w0]
      refine hK _ _ ?_; clear hK K
      refine awp_seq_k fun K5 hK5 => ?_
      refine awp_sr rfl fun K hK => ?_
      simp -dsimp
      refine hK _ _ ?_; clear hK K
      refine awp_block ?_
      refine awp_prune [6, 8, 40, 41] ?_
      simp only [prune, List.map_cons, List.map_nil, Go.AM.look, Nat.reduceEqDiff, reduceIte]
      refine awp_loop_l [6, 8, 40] (α := Nat) (fun i => [(41, I i)]) (fun i => [some (.els 2 [p.cells]), some (.els 1 (reA p k k)), brow (enR p k i)]) (fun i => i ≤ k) (fun i => k - i) 0 ?_ ?_ ?_
      · simp
      · exact sub_rb [some 0, some 1, some 2] rfl (by simp) (by simp [enR])
      rintro i j1
      simp only [List.cons_append, List.nil_append, prune, List.map_cons, List.map_nil, Go.AM.look, Nat.reduceEqDiff, reduceIte]
      refine awp_sr rfl fun K hK => ?_
      simp -dsimp
      refine hK _ _ ?_; clear hK K
      refine awp_seq_k fun K6 hK6 => ?_
      refine awp_cond rfl (fun hc2 => ?_) (fun hc2 => ?_)
      · skip
        try simp at hc2
        have hi : i < k := by simpa using hc2
        have wi : IntKind.i64.wrap ((i : Int) + 1) = (i : Int) + 1 := wrap_in (by omega) (by omega)
        have hgi := reA_get (p := p) hi
        have hel := enR_len (p := p) (n := k) (k := i) (by omega)
        have her : (enR p k i)[i]? = some false := by unfold enR; rw [List.getElem?_append_right (by simp)]; simp [List.getElem?_replicate]; omega
        have hrl := reachL_len p i
        have hri := reachL_get (p := p) (f := i) (k := i) (by omega)
        have hs0 : ((enR p k i).map bCell).set i [Bo (rB p i i)] = (enS p k i 0).map bCell := by rw [← List.map_set (f := bCell)]; unfold enS endTo; simp
        refine awp_skip ?_
        simp only [thenA, inBlockA, reduceIte, Nat.reduceEqDiff, eq_self]
        refine hK6 _ _ ?_
        refine awp_prune [6, 8, 40, 41] ?_
        simp only [prune, List.map_cons, List.map_nil, Go.AM.look, Nat.reduceEqDiff, reduceIte]
        refine awp_seq_k fun K7 hK7 => ?_
        refine awp_block ?_
        refine awp_sr rfl fun K hK => ?_
        simp -dsimp
        refine hK _ _ ?_; clear hK K
        refine awp_sr rfl fun K hK => ?_
        simp -dsimp [hi, hgi, her, hri]
        refine hK _ _ ?_; clear hK K
        refine awp_sr rfl fun K hK => ?_
        simp -dsimp [hi, hgi]
        refine hK _ _ ?_; clear hK K
        refine awp_block ?_
        refine awp_prune [6, 8, 9, 40, 41, 57, 58, 59] ?_
        simp only [prune, List.map_cons, List.map_nil, Go.AM.look, Nat.reduceEqDiff, reduceIte]
        refine awp_loop_l [6, 8, 9, 40, 41, 57, 58] (α := Nat) (fun j => [(59, I j)]) (fun j => [some (.els 2 [p.cells]), some (.els 1 (reA p k k)), brow (enS p k i j)]) (fun j => j ≤ k) (fun j => k - j) 0 ?_ ?_ ?_
        · simp
        · exact sub_rb [some 0, some 1, some 2] rfl (by simp [hrl]) (by simp [hs0])
        rintro j j2
        simp only [List.cons_append, List.nil_append, prune, List.map_cons, List.map_nil, Go.AM.look, Nat.reduceEqDiff, reduceIte]
        refine awp_sr rfl fun K hK => ?_
        simp -dsimp
        refine hK _ _ ?_; clear hK K
        refine awp_seq_k fun K8 hK8 => ?_
        refine awp_cond rfl (fun hc3 => ?_) (fun hc3 => ?_)
        · skip
          try simp at hc3
          have hj : j < k := by simp [hrl] at hc3; omega
          have wj : IntKind.i64.wrap ((j : Int) + 1) = (j : Int) + 1 := wrap_in (by omega) (by omega)
          have hgj := reA_get (p := p) hj
          have hrj := reachL_get (p := p) (f := i) (k := j) (by omega)
          have hjj := reachL_get (p := p) (f := j) (k := j) (by omega)
          have hsc := enS_cur (p := p) (j := j) hi
          have hss := enS_set (p := p) (n := k) (k := i) (j := j)
          rw [endTo_succ] at hss
          have hsm : ((enS p k i j).map bCell).set i [Bo (endTo p i j || (rB p i j && rB p j j))] = (enS p k i (j + 1)).map bCell := by rw [← hss, List.map_set]
          refine awp_skip ?_
          simp only [thenA, inBlockA, reduceIte, Nat.reduceEqDiff, eq_self]
          refine hK8 _ _ ?_
          refine awp_prune [6, 8, 9, 40, 41, 57, 58, 59] ?_
          simp only [prune, List.map_cons, List.map_nil, Go.AM.look, Nat.reduceEqDiff, reduceIte]
          refine awp_seq_k fun K9 hK9 => ?_
          refine awp_block ?_
          refine awp_sr rfl fun K hK => ?_
          simp -dsimp [hrj]
          refine hK _ _ ?_; clear hK K
          refine awp_r rfl fun K hK => ?_
          simp -dsimp [hi, hj, hsc, hgj]
          refine idxK_intro [Bo (rB p j j)] (fun hm => by rw [List.getElem?_map, hjj]; rfl) ?_
          simp -dsimp [hi, hj, hsc, hgj]
          refine hK _ _ ?_; clear hK K
          simp only [thenA, inBlockA, reduceIte, Nat.reduceEqDiff, eq_self]
          refine hK9 _ _ ?_
          refine awp_prune [6, 8, 9, 40, 41, 57, 58, 59] ?_
          simp only [prune, List.map_cons, List.map_nil, Go.AM.look, Nat.reduceEqDiff, reduceIte]
          refine awp_r rfl fun K hK => ?_
          simp -dsimp [wj]
          refine hK _ _ ?_; clear hK K
          simp only [thenA, inBlockA, reduceIte, Nat.reduceEqDiff, eq_self]
          exact ⟨j + 1, by omega, by omega, sub_rb [some 0, some 1, some 2] rfl (by simp) (by simp [hsm])⟩
        · skip
          try simp at hc3
          have hje : j = k := by simp [hrl] at hc3; omega
          subst hje
          refine awp_exit ?_
          simp only [thenA, inBlockA, reduceIte, Nat.reduceEqDiff, eq_self]
          refine hK7 _ _ ?_
          refine awp_prune [6, 8, 40, 41] ?_
          simp only [prune, List.map_cons, List.map_nil, Go.AM.look, Nat.reduceEqDiff, reduceIte]
          refine awp_r rfl fun K hK => ?_
          simp -dsimp [wi]
          refine hK _ _ ?_; clear hK K
          simp only [thenA, inBlockA, reduceIte, Nat.reduceEqDiff, eq_self]
          exact ⟨i + 1, by omega, by omega, sub_rb [some 0, some 1, some 2] rfl (by simp) (by simp [enS_end hi])⟩
      · skip
        try simp at hc2
        have hie : i = k := by omega
        subst hie
        refine awp_exit ?_
        simp only [thenA, inBlockA, reduceIte, Nat.reduceEqDiff, eq_self]
        refine hK5 _ _ ?_
        refine awp_prune [8] ?_
        simp only [prune, List.map_cons, List.map_nil, Go.AM.look, Nat.reduceEqDiff, reduceIte]
        refine awp_sr rfl fun K hK => ?_
        simp -dsimp
        refine hK _ _ ?_; clear hK K
        have hel := enR_len (p := p) (n := i) (k := i) (by omega)
        have g1 : List.take i ((enR p i i).map bCell) = (enR p i i).map bCell := List.take_of_length_le (by simp [hel])
        exact awp_ret (by simp [hel, g1])
end Go.Tram
/- Walks: what can be reached, turns and is endless, in the document. -/
namespace Go.Tram
open Go.AM Go.Proofs
set_option maxRecDepth 10000
set_option maxHeartbeats 4000000
set_option linter.unusedVariables false
set_option linter.unusedSimpArgs false

theorem m_rNext (p : Plan) (m : Move) (hv : validB p = true) (hm : movB p m = true) : MutCall Tryz.prog 19 [p.av, m.av] [] [] (.row 0 0 (nextL p m).length) [] [some (.els 2 ((nextL p m).map Move.cells))] := by
  have hR := (valid_parts hv).2.1
  have w2 : IntKind.i64.wrap (2 * (p.Rails.length : Int)) = 2 * (p.Rails.length : Int) := wrap_in (by omega) (by omega)
  have hfo := fun k => c_rFollows p m k hv hm
  have hsu := rNx_succ p m
  rw [next_eq hv hm]
  show MutCall _ _ _ _ _ (.row 0 0 (rNx p m (2 * p.Rails.length)).length) _ [some (.els 2 ((rNx p m (2 * p.Rails.length)).map Move.cells))]
  refine MutCall.of_bodyG [] Tryz.func19 rfl (by decide) (by simp [Tryz.ntmps19]) rfl rfl ?_
  intro J hJ
  simp only [Tryz.ntmps19, Tryz.results19]
  refine gwp_sr rfl (by decide) rfl rfl fun K hK => ?_
  simp -dsimp
  refine hK _ _ ?_; clear hK K
  refine gwp_sr rfl (by decide) rfl rfl fun K hK => ?_
  simp -dsimp
  refine hK _ _ ?_; clear hK K
  refine gwp_seq_k fun K1 hK1 => ?_
  refine gwp_sr rfl (by decide) rfl rfl fun K hK => ?_
  simp -dsimp
  refine hK _ _ ?_; clear hK K
  refine gwp_block ?_
  refine gwp_prune [2, 3, 5, 6] (Or.inr (by simp)) ?_
  simp only [prune, List.map_cons, List.map_nil, Go.AM.look, Nat.reduceEqDiff, reduceIte]
  refine gwp_loop_l [2, 3] (α := Nat) (fun j => [(6, I j), (5, .row 2 0 (rNx p m j).length)]) (fun j => [some (.els 2 [p.cells]), some (.els 2 [m.cells]), some (.els 2 ((rNx p m j).map Move.cells))]) (fun j => j ≤ 2 * p.Rails.length) (fun j => 2 * p.Rails.length - j) 0 ?_ ?_ ?_
  · simp
  · exact gsub ((sub_nil 5 2 (by simp)).trans (sub_rb [some 0, some 1, some 2] rfl (by simp) (by simp))) (by simp)
  rintro j j1
  have hsj := hsu j
  have hlj := rNx_len p m j
  have hfj := hfo (moveM j)
  generalize hA : rNx p m j = A at hsj hlj ⊢
  have f1 : Fits (A.length + 1) 17 := fits_of (by omega) (by omega)
  have wj : IntKind.i64.wrap ((j : Int) + 1) = (j : Int) + 1 := wrap_in (by omega) (by omega)
  simp only [List.cons_append, List.nil_append, prune, List.map_cons, List.map_nil, Go.AM.look, Nat.reduceEqDiff, reduceIte]
  refine gwp_seq_k fun K2 hK2 => ?_
  refine gwp_sr rfl (by decide) rfl rfl fun K hK => ?_
  simp -dsimp [w2]
  refine hK _ _ ?_; clear hK K
  refine gwp_cond rfl (fun hc0 => ?_) (fun hc0 => ?_)
  · skip
    try simp at hc0
    refine gwp_skip ?_
    simp only [thenA, inBlockA, reduceIte, Nat.reduceEqDiff, eq_self]
    refine hK2 _ _ ?_
    refine gwp_prune [2, 3, 5, 6] (Or.inr (by simp)) ?_
    simp only [prune, List.map_cons, List.map_nil, Go.AM.look, Nat.reduceEqDiff, reduceIte]
    refine gwp_seq_k fun K3 hK3 => ?_
    refine gwp_block ?_
    refine gwp_sd mixed rfl (by decide) rfl rfl fun K hK => ?_
    simp -dsimp
    refine callK_intro _ (c_rOf j (by omega) (by omega)) (by simp) ?_
    simp -dsimp
    refine callK_intro _ (hfj) (by simp) ?_
    simp -dsimp
    refine hK _ _ _ (by decide +kernel) ?_; clear hK K
    refine gwp_cond rfl (fun hc1 => ?_) (fun hc1 => ?_)
    · skip
      try simp at hc1
      rw [hc1, if_pos rfl] at hsj
      refine gwp_r rfl (by decide) rfl rfl fun K hK => ?_
      simp -dsimp [f1]
      refine callK_intro _ (c_rOf j (by omega) (by omega)) (by simp) ?_
      simp -dsimp [f1]
      refine hK _ _ ?_; clear hK K
      simp only [thenA, inBlockA, reduceIte, Nat.reduceEqDiff, eq_self]
      refine hK3 _ _ ?_
      refine gwp_prune [2, 3, 5, 6] (Or.inr (by simp)) ?_
      simp only [prune, List.map_cons, List.map_nil, Go.AM.look, Nat.reduceEqDiff, reduceIte]
      refine gwp_r rfl (by decide) rfl rfl fun K hK => ?_
      simp -dsimp [wj]
      refine hK _ _ ?_; clear hK K
      simp only [thenA, inBlockA, reduceIte, Nat.reduceEqDiff, eq_self]
      exact ⟨j + 1, by omega, by omega, gsub (sub_rb [some 0, some 1, some 3] rfl (by simp [hsj]) (by simp [hsj])) (by simp)⟩
    · skip
      try simp at hc1
      rw [hc1, if_neg (by simp)] at hsj
      refine gwp_skip ?_
      simp only [thenA, inBlockA, reduceIte, Nat.reduceEqDiff, eq_self]
      refine hK3 _ _ ?_
      refine gwp_prune [2, 3, 5, 6] (Or.inr (by simp)) ?_
      simp only [prune, List.map_cons, List.map_nil, Go.AM.look, Nat.reduceEqDiff, reduceIte]
      refine gwp_r rfl (by decide) rfl rfl fun K hK => ?_
      simp -dsimp [wj]
      refine hK _ _ ?_; clear hK K
      simp only [thenA, inBlockA, reduceIte, Nat.reduceEqDiff, eq_self]
      exact ⟨j + 1, by omega, by omega, gsub (sub_rb [some 0, some 1, some 2] rfl (by simp [hsj]) (by simp [hsj])) (by simp)⟩
  · skip
    try simp at hc0
    have hje : j = 2 * p.Rails.length := by omega
    subst hje
    refine gwp_exit ?_
    simp only [thenA, inBlockA, reduceIte, Nat.reduceEqDiff, eq_self]
    refine hK1 _ _ ?_
    refine gwp_prune [5] (Or.inr (by simp)) ?_
    simp only [prune, List.map_cons, List.map_nil, Go.AM.look, Nat.reduceEqDiff, reduceIte]
    refine gwp_sr rfl (by decide) rfl rfl fun K hK => ?_
    simp -dsimp
    refine hK _ _ ?_; clear hK K
    exact gwp_ret ⟨[some 2], rfl, by simp, by simp [hA], by simp, by simp [resP, tupOf, hA]⟩

def mvL (l : List Int) : List Move := l.map moveM
@[simp] theorem mvL_len (l : List Int) : (mvL l).length = l.length := by simp [mvL]
@[simp] theorem mvL_get (l : List Int) (i : Nat) : (mvL l)[i]? = (l[i]?).map moveM := by simp [mvL]
theorem mvL_app (a b : List Int) : mvL (a ++ b) = mvL a ++ mvL b := by simp [mvL]
theorem mvL_nxI (p : Plan) (k : Int) : mvL (nxI p k) = nextL p (moveM k) := rfl
abbrev mrow (l : List Int) : Option ARow := some (.els 2 ((mvL l).map Move.cells))
theorem m_rNextK (p : Plan) (k : Int) (hv : validB p = true) (h0 : 0 ≤ k) (h1 : k < 2 * p.Rails.length) : MutCall Tryz.prog 19 [p.av, (moveM k).av] [] [] (.row 0 0 (nxI p k).length) [] [mrow (nxI p k)] := by
  have := m_rNext p (moveM k) hv (mov_of h0 h1)
  rw [nxI_len]
  exact this

theorem c_rReached (p : Plan) (m : Move) (hv : validB p = true) (hm : movB p m = true) : PureCall Tryz.prog 83 [p.av, m.av] (.lst 1 ((reachL p (numM m)).map bCell)) := by
  have hR := (valid_parts hv).2.1
  have hm' := movB_iff.1 hm
  have w2 : IntKind.i64.wrap (2 * (p.Rails.length : Int)) = 2 * (p.Rails.length : Int) := wrap_in (by omega) (by omega)
  have wt : (2 * (p.Rails.length : Int)).toNat = 2 * p.Rails.length := by omega
  have f1 : Fits (2 * p.Rails.length) 2 := fits_of (by omega) (by omega)
  have w0 : 0 ≤ 2 * (p.Rails.length : Int) := by omega
  have hb0 : 0 ≤ numM m ∧ numM m < 2 * p.Rails.length := by unfold numM; split <;> omega
  have hmm := moveM_numM hm'.1
  have hn0 := m_rNextK p (numM m) hv hb0.1 hb0.2
  rw [hmm] at hn0
  generalize numM m = f at hb0 hn0 ⊢
  refine PureCall.of_bodyG Tryz.func83 rfl (by decide) (by simp [Tryz.ntmps83]) ?_
  intro J hJ
  simp only [Tryz.ntmps83, Tryz.results83]
  refine gwp_sr rfl (by decide) rfl rfl fun K hK => ?_
  simp -dsimp
  refine hK _ _ ?_; clear hK K
  refine gwp_sr rfl (by decide) rfl rfl fun K hK => ?_
  simp -dsimp [w2, wt, f1, w0]
  refine hK _ _ ?_; clear hK K
  refine gwp_sr rfl (by decide) rfl rfl fun K hK => ?_
  simp -dsimp
  refine callK_mut [] [] [none, none, none, some 0] (hn0) (by decide) rfl (by simp) (by simp) rfl (by simp) ?_
  simp -dsimp
  refine hK _ _ ?_; clear hK K
  refine gwp_seq_k fun K1 hK1 => ?_
  refine gwp_block ?_
  refine gwp_prune [2, 5, 6] (Or.inr (by simp)) ?_
  simp only [prune, List.map_cons, List.map_nil, Go.AM.look, Nat.reduceEqDiff, reduceIte]
  refine gwp_loop_l [2, 5] (α := List Bool × List Int × Nat × List Int) (fun s => [(6, .row 3 s.2.2.1 s.2.2.2.length)]) (fun s => [some (.els 2 [p.cells]), none, brow s.1, mrow s.2.1]) (fun s => RInv p f s.1 s.2.2.2 ∧ (s.2.1.drop s.2.2.1).take s.2.2.2.length = s.2.2.2 ∧ s.2.2.1 + s.2.2.2.length ≤ s.2.1.length) (fun s => s.2.2.2.length + 4 * unm s.1) (List.replicate (2 * p.Rails.length) false, nxI p f, 0, nxI p f) ?_ ?_ ?_
  · exact ⟨rinv_init hv hb0.1 hb0.2, by simp, by simp⟩
  · exact gsub (sub_rb [some 0, none, some 2, some 3] rfl (by simp) (by simp)) (by simp)
  rintro ⟨out, L, o, q⟩ ⟨i1, i2, i3⟩
  simp only at i1 i2 i3 ⊢
  simp only [List.cons_append, List.nil_append, prune, List.map_cons, List.map_nil, Go.AM.look, Nat.reduceEqDiff, reduceIte]
  refine gwp_seq_k fun K2 hK2 => ?_
  refine gwp_sr rfl (by decide) rfl rfl fun K hK => ?_
  simp -dsimp
  refine hK _ _ ?_; clear hK K
  refine gwp_cond rfl (fun hc0 => ?_) (fun hc0 => ?_)
  · skip
    try simp at hc0
    obtain ⟨x, q', rfl⟩ : ∃ x q', q = x :: q' := by rcases q with _ | ⟨x, q'⟩; simp at hc0; exact ⟨x, q', rfl⟩
    have hxr := i1.qi x (by simp)
    obtain ⟨hx0, hx1⟩ := reach_bd hv hb0.1 hb0.2 hxr
    have hLx : L[o]? = some x := by have := congrArg (fun l => l[0]?) i2; simpa [List.getElem?_take, List.getElem?_drop] using this
    have hi2 : (L.drop (o + 1)).take q'.length = q' := by have := congrArg (List.drop 1) i2; simpa [List.drop_take, List.drop_drop] using this
    have hi3 : o + 1 + q'.length ≤ L.length := by simp only [List.length_cons] at i3; omega
    have hi3b : o + (q'.length + 1) ≤ L.length := by omega
    have hsz := i1.sz
    have hnum := c_rNumber (moveM x) (by simp only [moveM]; omega) (by simp only [moveM]; omega)
    rw [numM_moveM hx0] at hnum
    have hxt : x.toNat < 2 * p.Rails.length := by omega
    have hgx : out[x.toNat]? = some (gd out x.toNat) := getD_at (by rw [i1.len]; exact hxt)
    have hnx := m_rNextK p x hv hx0 hx1
    have hnl := nextL_len p _ hv (mov_of hx0 hx1)
    rw [← nxI_len] at hnl
    have f2 : Fits (q'.length + (nxI p x).length) 17 := fits_of (by simp only [List.length_cons] at hsz; omega) (by omega)
    have hq' : (List.drop (o + 1) ((mvL L).map Move.cells)).take q'.length = (mvL q').map Move.cells := by unfold mvL; rw [← List.map_drop, ← List.map_drop, ← List.map_take, ← List.map_take, hi2]
    have hnt : List.take (nxI p x).length ((mvL (nxI p x)).map Move.cells) = (mvL (nxI p x)).map Move.cells := List.take_of_length_le (by simp)
    have happ := mvL_app q' (nxI p x)
    refine gwp_skip ?_
    simp only [thenA, inBlockA, reduceIte, Nat.reduceEqDiff, eq_self]
    refine hK2 _ _ ?_
    refine gwp_prune [2, 5, 6] (Or.inr (by simp)) ?_
    simp only [prune, List.map_cons, List.map_nil, Go.AM.look, Nat.reduceEqDiff, reduceIte]
    refine gwp_block ?_
    refine gwp_sr rfl (by decide) rfl rfl fun K hK => ?_
    simp -dsimp [hLx]
    refine hK _ _ ?_; clear hK K
    refine gwp_sr rfl (by decide) rfl rfl fun K hK => ?_
    simp -dsimp [hi3b]
    refine hK _ _ ?_; clear hK K
    refine gwp_seq_k fun K3 hK3 => ?_
    refine gwp_sr rfl (by decide) rfl rfl fun K hK => ?_
    simp -dsimp [hgx, hx0, hxt]
    refine callK_intro _ (hnum) (by simp) ?_
    simp -dsimp [hgx, hx0, hxt]
    refine hK _ _ ?_; clear hK K
    refine gwp_cond rfl (fun hc1 => ?_) (fun hc1 => ?_)
    · skip
      skip
      have hg : gd out x.toNat = true := by simpa using hc1
      refine gwp_exit ?_
      simp only [thenA, inBlockA, reduceIte, Nat.reduceEqDiff, eq_self]
      exact ⟨(out, L, o + 1, q'), ⟨rinv_skip i1 hg, hi2, hi3⟩, by simp, gsub (sub_rb [some 0, none, some 2, some 3] rfl (by simp) (by simp)) (by simp)⟩
    · skip
      skip
      have hg : gd out x.toNat = false := by simpa using hc1
      have hmk := rinv_mark hv hb0.1 hb0.2 i1 hg
      refine gwp_skip ?_
      simp only [thenA, inBlockA, reduceIte, Nat.reduceEqDiff, eq_self]
      refine hK3 _ _ ?_
      refine gwp_prune [2, 5, 6, 7] (Or.inr (by simp)) ?_
      simp only [prune, List.map_cons, List.map_nil, Go.AM.look, Nat.reduceEqDiff, reduceIte]
      refine gwp_sr rfl (by decide) rfl rfl fun K hK => ?_
      simp -dsimp [hgx, hx0, hxt]
      refine callK_intro _ (hnum) (by simp) ?_
      simp -dsimp [hgx, hx0, hxt]
      refine hK _ _ ?_; clear hK K
      refine gwp_r rfl (by decide) rfl rfl fun K hK => ?_
      simp -dsimp [f2, hq', hi3, hnt]
      refine callK_mut [] [] [none, none, none, none, none, some 0] (hnx) (by decide) rfl (by simp) (by simp) rfl (by simp) ?_
      simp -dsimp [f2, hq', hi3, hnt]
      refine hK _ _ ?_; clear hK K
      simp only [thenA, inBlockA, reduceIte, Nat.reduceEqDiff, eq_self]
      exact ⟨(out.set x.toNat true, q' ++ nxI p x, 0, q' ++ nxI p x), ⟨hmk.1, by simp only [List.drop_zero, List.take_length], by simp⟩, by have := hmk.2; simp only [List.length_cons] at this ⊢; omega, gsub (sub_rb [some 0, none, some 2, some 6] rfl (by simp) (by simp [happ])) (by simp)⟩
  · skip
    try simp at hc0
    have hq : q = [] := by simpa using hc0
    subst hq
    have hend := rinv_end hv hb0.1 hb0.2 i1
    subst hend
    refine gwp_exit ?_
    simp only [thenA, inBlockA, reduceIte, Nat.reduceEqDiff, eq_self]
    refine hK1 _ _ ?_
    refine gwp_prune [5] (Or.inr (by simp)) ?_
    simp only [prune, List.map_cons, List.map_nil, Go.AM.look, Nat.reduceEqDiff, reduceIte]
    refine gwp_sr rfl (by decide) rfl rfl fun K hK => ?_
    simp -dsimp
    refine hK _ _ ?_; clear hK K
    have g1 : List.take (2 * p.Rails.length) ((reachL p f).map bCell) = (reachL p f).map bCell := List.take_of_length_le (by simp [reachL_len])
    exact gwp_ret (by simp [g1, reachL_len])

theorem c_rReachedK (p : Plan) (k : Int) (hv : validB p = true) (h0 : 0 ≤ k) (h1 : k < 2 * p.Rails.length) : PureCall Tryz.prog 83 [p.av, (moveM k).av] (.lst 1 ((reachL p k).map bCell)) := by
  have := c_rReached p (moveM k) hv (mov_of h0 h1)
  rwa [numM_moveM h0] at this

theorem c_rTurns (p : Plan) (r : Int) (hv : validB p = true) (h : inr r 0 (p.Rails.length - 1) = true) : PureCall Tryz.prog 43 [p.av, I r] (Bo (turnB p r)) := by
  have hR := (valid_parts hv).2.1
  have hr := inr_iff.1 h
  have hA := c_rReached p ⟨r, false⟩ hv h
  have hB := c_rReached p ⟨r, true⟩ hv h
  rw [show numM ⟨r, false⟩ = 2 * r by simp [numM]] at hA
  rw [show numM ⟨r, true⟩ = 2 * r + 1 by simp [numM]] at hB
  have hoA := c_rOpp ⟨r, false⟩
  rw [show oppM ⟨r, false⟩ = ⟨r, true⟩ from rfl] at hoA
  have hnA := c_rNumber ⟨r, true⟩ (by show _ ≤ r; omega) (by show r ≤ _; omega)
  have hnB := c_rNumber ⟨r, false⟩ (by show _ ≤ r; omega) (by show r ≤ _; omega)
  rw [show numM ⟨r, true⟩ = 2 * r + 1 by simp [numM]] at hnA
  rw [show numM ⟨r, false⟩ = 2 * r by simp [numM]] at hnB
  have gA := reachL_at (p := p) (f := 2 * r) (k := 2 * r + 1) (by omega) (by omega)
  have gB := reachL_at (p := p) (f := 2 * r + 1) (k := 2 * r) (by omega) (by omega)
  have n1 : 0 ≤ 2 * r := by omega
  have n2 : 0 ≤ 2 * r + 1 := by omega
  refine PureCall.of_body Tryz.func43 rfl (by decide) (by simp [Tryz.ntmps43]) ?_
  simp only [Tryz.ntmps43, Tryz.results43]
  refine awp_sr rfl fun K hK => ?_
  simp -dsimp
  refine hK _ _ ?_; clear hK K
  refine awp_sr rfl fun K hK => ?_
  simp -dsimp
  refine hK _ _ ?_; clear hK K
  refine awp_sd mixed rfl fun K hK => ?_
  simp -dsimp [gA, n1, n2]
  refine callK_intro _ (hA) (by simp) ?_
  simp -dsimp [gA, n1, n2]
  refine callK_intro _ (hoA) (by simp) ?_
  simp -dsimp [gA, n1, n2]
  refine callK_intro _ (hnA) (by simp) ?_
  simp -dsimp [gA, n1, n2]
  refine callK_may _ (fun hm => hoA) (by simp) ?_
  simp -dsimp [gA, n1, n2]
  refine callK_may _ (fun hm => hB) (by simp) ?_
  simp -dsimp [gA, n1, n2]
  refine callK_may _ (fun hm => hnB) (by simp) ?_
  simp -dsimp [gA, n1, n2]
  refine idxK_intro [Bo (rB p (2 * r + 1) (2 * r))] (fun hm => by rw [List.getElem?_map, gB]; rfl) ?_
  simp -dsimp [gA, n1, n2]
  refine hK _ _ _ (by decide +kernel) ?_; clear hK K
  exact awp_ret (by simp [turnB])

noncomputable def agR (p : Plan) (n k : Nat) : List Bool := ((List.range k).map fun (i : Nat) => rB p i i) ++ List.replicate (n - k) false
theorem agR_len {p : Plan} {n k : Nat} (h : k ≤ n) : (agR p n k).length = n := by simp [agR]; omega
theorem agR_set {p : Plan} {n k : Nat} (h : k < n) : (agR p n k).set k (rB p k k) = agR p n (k + 1) := by
  obtain ⟨m, hm⟩ : ∃ m, n - k = m + 1 := ⟨n - k - 1, by omega⟩
  unfold agR
  rw [hm, show n - (k + 1) = m by omega, List.range_succ, List.map_append, List.append_assoc, List.set_append_right _ _ (by simp)]
  simp [List.replicate_succ]
theorem agR_get {p : Plan} {n k : Nat} (h : k < n) : (agR p n n)[k]? = some (rB p k k) := by
  unfold agR; simp [h]

theorem c_rEndless (p : Plan) (hv : validB p = true) : PureCall Tryz.prog 42 [p.av] (.lst 1 ((endL p).map bCell)) := by
  have hR := (valid_parts hv).2.1
  have hre := fun k => c_rReachedK p k hv
  have w2 : IntKind.i64.wrap (2 * (p.Rails.length : Int)) = 2 * (p.Rails.length : Int) := wrap_in (by omega) (by omega)
  have wt : (2 * (p.Rails.length : Int)).toNat = 2 * p.Rails.length := by omega
  have f2 : Fits (2 * p.Rails.length) 2 := fits_of (by omega) (by omega)
  have w0 : 0 ≤ 2 * (p.Rails.length : Int) := by omega
  obtain ⟨n, hn⟩ : ∃ n, n = 2 * p.Rails.length := ⟨_, rfl⟩
  have hn' : 2 * (p.Rails.length : Int) = (n : Int) := by omega
  rw [← enR_end]
  rw [← hn] at wt f2 ⊢
  rw [hn'] at w2 wt w0
  refine PureCall.of_body Tryz.func42 rfl (by decide) (by simp [Tryz.ntmps42]) ?_
  simp only [Tryz.ntmps42, Tryz.results42]
  refine awp_sr rfl fun K hK => ?_
  simp -dsimp
  refine hK _ _ ?_; clear hK K
  refine awp_sr rfl fun K hK => ?_
  simp -dsimp [hn', w2]
  refine hK _ _ ?_; clear hK K
  refine awp_sr rfl fun K hK => ?_
  simp -dsimp [w2, wt, f2, w0]
  refine hK _ _ ?_; clear hK K
  refine awp_seq_k fun K1 hK1 => ?_
  refine awp_sr rfl fun K hK => ?_
  simp -dsimp
  refine hK _ _ ?_; clear hK K
  refine awp_block ?_
  refine awp_prune [1, 3, 4, 5] ?_
  simp only [prune, List.map_cons, List.map_nil, Go.AM.look, Nat.reduceEqDiff, reduceIte]
  refine awp_loop_l [1, 3, 4] (α := Nat) (fun k => [(5, I k)]) (fun k => [some (.els 2 [p.cells]), brow (agR p n k)]) (fun k => k ≤ n) (fun k => n - k) 0 ?_ ?_ ?_
  · simp
  · exact sub_rb [some 0, some 1] rfl (by simp) (by simp [agR])
  rintro k k1
  simp only [List.cons_append, List.nil_append, prune, List.map_cons, List.map_nil, Go.AM.look, Nat.reduceEqDiff, reduceIte]
  refine awp_seq_k fun K2 hK2 => ?_
  refine awp_sr rfl fun K hK => ?_
  simp -dsimp
  refine hK _ _ ?_; clear hK K
  refine awp_cond rfl (fun hc0 => ?_) (fun hc0 => ?_)
  · skip
    try simp at hc0
    have hk : k < n := by simpa using hc0
    have wk : IntKind.i64.wrap ((k : Int) + 1) = (k : Int) + 1 := wrap_in (by omega) (by omega)
    have hal := agR_len (p := p) (n := n) (k := k) (by omega)
    have hcur : (agR p n k)[k]? = some false := by unfold agR; rw [List.getElem?_append_right (by simp)]; simp [List.getElem?_replicate]; omega
    have hset : ((agR p n k).map bCell).set k [Bo (rB p k k)] = (agR p n (k + 1)).map bCell := by rw [← agR_set hk, List.map_set]
    have hrk := reachL_get (p := p) (f := k) (k := k) (by omega)
    refine awp_skip ?_
    simp only [thenA, inBlockA, reduceIte, Nat.reduceEqDiff, eq_self]
    refine hK2 _ _ ?_
    refine awp_prune [1, 3, 4, 5] ?_
    simp only [prune, List.map_cons, List.map_nil, Go.AM.look, Nat.reduceEqDiff, reduceIte]
    refine awp_seq_k fun K3 hK3 => ?_
    refine awp_block ?_
    refine awp_draw mixed rfl fun K hK => ?_
    simp -dsimp [hk, hcur, hrk]
    refine callK_intro _ (c_rOf k (by omega) (by omega)) (by simp) ?_
    simp -dsimp [hk, hcur, hrk]
    refine callK_intro _ (hre k (by omega) (by omega)) (by simp) ?_
    simp -dsimp [hk, hcur, hrk]
    refine hK _ _ _ (by decide +kernel) ?_; clear hK K
    simp only [thenA, inBlockA, reduceIte, Nat.reduceEqDiff, eq_self]
    refine hK3 _ _ ?_
    refine awp_prune [1, 3, 4, 5] ?_
    simp only [prune, List.map_cons, List.map_nil, Go.AM.look, Nat.reduceEqDiff, reduceIte]
    refine awp_r rfl fun K hK => ?_
    simp -dsimp [wk]
    refine hK _ _ ?_; clear hK K
    simp only [thenA, inBlockA, reduceIte, Nat.reduceEqDiff, eq_self]
    exact ⟨k + 1, by omega, by omega, sub_rb [some 0, some 1] rfl (by simp) (by simp [hset])⟩
  · skip
    try simp at hc0
    have hke : k = n := by omega
    subst hke
    refine awp_exit ?_
    simp only [thenA, inBlockA, reduceIte, Nat.reduceEqDiff, eq_self]
    refine hK1 _ _ ?_
    refine awp_prune [1, 3, 4] ?_
    simp only [prune, List.map_cons, List.map_nil, Go.AM.look, Nat.reduceEqDiff, reduceIte]
    refine awp_sr rfl fun K hK => ?_
    simp -dsimp [w2, wt, f2, w0]
    refine hK _ _ ?_; clear hK K
    refine awp_seq_k fun K4 hK4 => ?_
    refine awp_sr rfl fun K hK => ?_
    simp -dsimp
    refine hK _ _ ?_; clear hK K
    refine awp_block ?_
    refine awp_prune [1, 3, 4, 6, 7] ?_
    simp only [prune, List.map_cons, List.map_nil, Go.AM.look, Nat.reduceEqDiff, reduceIte]
    refine awp_loop_l [1, 3, 4, 6] (α := Nat) (fun i => [(7, I i)]) (fun i => [some (.els 2 [p.cells]), brow (agR p k k), brow (enR p k i)]) (fun i => i ≤ k) (fun i => k - i) 0 ?_ ?_ ?_
    · simp
    · exact sub_rb [some 0, some 1, some 2] rfl (by simp) (by simp [enR])
    rintro i j1
    simp only [List.cons_append, List.nil_append, prune, List.map_cons, List.map_nil, Go.AM.look, Nat.reduceEqDiff, reduceIte]
    refine awp_seq_k fun K5 hK5 => ?_
    refine awp_sr rfl fun K hK => ?_
    simp -dsimp
    refine hK _ _ ?_; clear hK K
    refine awp_cond rfl (fun hc1 => ?_) (fun hc1 => ?_)
    · skip
      try simp at hc1
      have hi : i < k := by simpa using hc1
      have wi : IntKind.i64.wrap ((i : Int) + 1) = (i : Int) + 1 := wrap_in (by omega) (by omega)
      have hgi := agR_get (p := p) hi
      have hel := enR_len (p := p) (n := k) (k := i) (by omega)
      have her : (enR p k i)[i]? = some false := by unfold enR; rw [List.getElem?_append_right (by simp)]; simp [List.getElem?_replicate]; omega
      have hrl := reachL_len p i
      have hs0 : ((enR p k i).map bCell).set i [Bo (rB p i i)] = (enS p k i 0).map bCell := by rw [← List.map_set (f := bCell)]; unfold enS endTo; simp
      refine awp_skip ?_
      simp only [thenA, inBlockA, reduceIte, Nat.reduceEqDiff, eq_self]
      refine hK5 _ _ ?_
      refine awp_prune [1, 3, 4, 6, 7] ?_
      simp only [prune, List.map_cons, List.map_nil, Go.AM.look, Nat.reduceEqDiff, reduceIte]
      refine awp_seq_k fun K6 hK6 => ?_
      refine awp_block ?_
      refine awp_sr rfl fun K hK => ?_
      simp -dsimp [hi, hgi, her]
      refine hK _ _ ?_; clear hK K
      refine awp_sd mixed rfl fun K hK => ?_
      simp -dsimp
      refine callK_intro _ (c_rOf i (by omega) (by omega)) (by simp) ?_
      simp -dsimp
      refine callK_intro _ (hre i (by omega) (by omega)) (by simp) ?_
      simp -dsimp
      refine hK _ _ _ (by decide +kernel) ?_; clear hK K
      refine awp_sr rfl fun K hK => ?_
      simp -dsimp
      refine hK _ _ ?_; clear hK K
      refine awp_block ?_
      refine awp_prune [1, 3, 4, 6, 7, 8, 9] ?_
      simp only [prune, List.map_cons, List.map_nil, Go.AM.look, Nat.reduceEqDiff, reduceIte]
      refine awp_loop_l [1, 3, 4, 6, 7, 8] (α := Nat) (fun j => [(9, I j)]) (fun j => [some (.els 2 [p.cells]), brow (agR p k k), brow (enS p k i j)]) (fun j => j ≤ k) (fun j => k - j) 0 ?_ ?_ ?_
      · simp
      · exact sub_rb [some 0, some 1, some 2] rfl (by simp) (by simp [hs0])
      rintro j j2
      simp only [List.cons_append, List.nil_append, prune, List.map_cons, List.map_nil, Go.AM.look, Nat.reduceEqDiff, reduceIte]
      refine awp_seq_k fun K7 hK7 => ?_
      refine awp_sr rfl fun K hK => ?_
      simp -dsimp
      refine hK _ _ ?_; clear hK K
      refine awp_cond rfl (fun hc2 => ?_) (fun hc2 => ?_)
      · skip
        try simp at hc2
        have hj : j < k := by simpa using hc2
        have wj : IntKind.i64.wrap ((j : Int) + 1) = (j : Int) + 1 := wrap_in (by omega) (by omega)
        have hgj := agR_get (p := p) hj
        have hrj := reachL_get (p := p) (f := i) (k := j) (by omega)
        have hsc := enS_cur (p := p) (j := j) hi
        have hss := enS_set (p := p) (n := k) (k := i) (j := j)
        rw [endTo_succ] at hss
        have hsm : ((enS p k i j).map bCell).set i [Bo (endTo p i j || (rB p i j && rB p j j))] = (enS p k i (j + 1)).map bCell := by rw [← hss, List.map_set]
        refine awp_skip ?_
        simp only [thenA, inBlockA, reduceIte, Nat.reduceEqDiff, eq_self]
        refine hK7 _ _ ?_
        refine awp_prune [1, 3, 4, 6, 7, 8, 9] ?_
        simp only [prune, List.map_cons, List.map_nil, Go.AM.look, Nat.reduceEqDiff, reduceIte]
        refine awp_seq_k fun K8 hK8 => ?_
        refine awp_block ?_
        refine awp_r rfl fun K hK => ?_
        simp -dsimp [hi, hj, hsc, hgj]
        refine idxK_intro [Bo (rB p i j)] (fun hm => by rw [List.getElem?_map, hrj]; rfl) ?_
        simp -dsimp [hi, hj, hsc, hgj]
        refine hK _ _ ?_; clear hK K
        simp only [thenA, inBlockA, reduceIte, Nat.reduceEqDiff, eq_self]
        refine hK8 _ _ ?_
        refine awp_prune [1, 3, 4, 6, 7, 8, 9] ?_
        simp only [prune, List.map_cons, List.map_nil, Go.AM.look, Nat.reduceEqDiff, reduceIte]
        refine awp_r rfl fun K hK => ?_
        simp -dsimp [wj]
        refine hK _ _ ?_; clear hK K
        simp only [thenA, inBlockA, reduceIte, Nat.reduceEqDiff, eq_self]
        exact ⟨j + 1, by omega, by omega, sub_rb [some 0, some 1, some 2] rfl (by simp) (by simp [hsm])⟩
      · skip
        try simp at hc2
        have hje : j = k := by omega
        subst hje
        refine awp_exit ?_
        simp only [thenA, inBlockA, reduceIte, Nat.reduceEqDiff, eq_self]
        refine hK6 _ _ ?_
        refine awp_prune [1, 3, 4, 6, 7] ?_
        simp only [prune, List.map_cons, List.map_nil, Go.AM.look, Nat.reduceEqDiff, reduceIte]
        refine awp_r rfl fun K hK => ?_
        simp -dsimp [wi]
        refine hK _ _ ?_; clear hK K
        simp only [thenA, inBlockA, reduceIte, Nat.reduceEqDiff, eq_self]
        exact ⟨i + 1, by omega, by omega, sub_rb [some 0, some 1, some 2] rfl (by simp) (by simp [enS_end hi])⟩
    · skip
      try simp at hc1
      have hie : i = k := by omega
      subst hie
      refine awp_exit ?_
      simp only [thenA, inBlockA, reduceIte, Nat.reduceEqDiff, eq_self]
      refine hK4 _ _ ?_
      refine awp_prune [6] ?_
      simp only [prune, List.map_cons, List.map_nil, Go.AM.look, Nat.reduceEqDiff, reduceIte]
      refine awp_sr rfl fun K hK => ?_
      simp -dsimp
      refine hK _ _ ?_; clear hK K
      have hel := enR_len (p := p) (n := i) (k := i) (by omega)
      have g1 : List.take i ((enR p i i).map bCell) = (enR p i i).map bCell := List.take_of_length_le (by simp [hel])
      exact awp_ret (by simp [hel, g1])
end Go.Tram
