/- Walks: the settings of a way, what a car covers, and the law of ways. -/
import Derived.Test.YtdabjdajemiagaaGreatP7
namespace Go.Tram
open Go.AM Go.Proofs
set_option maxRecDepth 10000
set_option maxHeartbeats 4000000
set_option linter.unusedVariables false
set_option linter.unusedSimpArgs false

theorem c_tSettings_t (p : Plan) (l : List Move) (hv : validB p = true) (hw : wayB p l = true) : PureCall Tryz.prog 30 [p.av, mLst l] (.tup [.lst 2 ((stTo p l (l.length - 1)).map Setg.cells), I 0]) := by
  have hl := way_len hw
  have hop := c_open_t p hv
  have hh := c_way p l hv (by omega)
  rw [hw] at hh
  have hbe : ∀ i, i + 1 < l.length → PureCall Tryz.prog 59 [.iptr (net p), (mvAt l i).av, (mvAt l (i + 1)).av] (.tup [.agg (if isSet p (mvAt l i) then pBetw p (mvAt l i) (mvAt l (i + 1)) else ⟨0, 0⟩).cells, Bo (isSet p (mvAt l i))]) := by
    intro i hi
    exact c_tbetween p _ _ hv (way_mov hw i (by omega))
  generalize net p = sh at hop hh hbe
  refine PureCall.of_body Tryz.func30 rfl (by decide) (by simp [Tryz.ntmps30]) ?_
  simp only [Tryz.ntmps30, Tryz.results30]
  refine awp_sr rfl fun K hK => ?_
  simp -dsimp
  refine hK _ _ ?_; clear hK K
  refine awp_sr rfl fun K hK => ?_
  simp -dsimp
  refine callK_intro _ (hop) (by simp) ?_
  simp -dsimp
  refine hK _ _ ?_; clear hK K
  refine awp_seq_k fun K1 hK1 => ?_
  refine awp_sr rfl fun K hK => ?_
  simp -dsimp
  refine callK_may _ (fun hm => hh) (by simp) ?_
  simp -dsimp
  refine hK _ _ ?_; clear hK K
  refine awp_cond rfl (fun hc0 => ?_) (fun hc0 => ?_)
  · skip
    skip
    simp at hc0
  · skip
    skip
    refine awp_skip ?_
    simp only [thenA, inBlockA, reduceIte, Nat.reduceEqDiff, eq_self]
    refine hK1 _ _ ?_
    refine awp_prune [1, 6] ?_
    simp only [prune, List.map_cons, List.map_nil, Go.AM.look, Nat.reduceEqDiff, reduceIte]
    refine awp_sr rfl fun K hK => ?_
    simp -dsimp
    refine hK _ _ ?_; clear hK K
    refine awp_seq_k fun K2 hK2 => ?_
    refine awp_sr rfl fun K hK => ?_
    simp -dsimp
    refine hK _ _ ?_; clear hK K
    refine awp_block ?_
    refine awp_prune [1, 6, 8, 9] ?_
    simp only [prune, List.map_cons, List.map_nil, Go.AM.look, Nat.reduceEqDiff, reduceIte]
    refine awp_loop_l [1, 6] (α := Nat) (fun i => [(9, I ((i : Int) + 1)), (8, .row 1 0 (stTo p l i).length)]) (fun i => [some (.els 2 [p.cells]), some (.els 2 ((stTo p l i).map Setg.cells))]) (fun i => i ≤ l.length - 1) (fun i => l.length - i) 0 ?_ ?_ ?_
    · simp
    · exact (sub_nil 8 2 (by simp)).trans (sub_rb [some 0, some 1] rfl (by simp) (by simp))
    rintro i i1
    simp only [List.cons_append, List.nil_append, prune, List.map_cons, List.map_nil, Go.AM.look, Nat.reduceEqDiff, reduceIte]
    refine awp_seq_k fun K3 hK3 => ?_
    refine awp_sr rfl fun K hK => ?_
    simp -dsimp
    refine hK _ _ ?_; clear hK K
    refine awp_cond rfl (fun hc1 => ?_) (fun hc1 => ?_)
    · skip
      skip
      have hi : i + 1 < l.length := by simp at hc1; omega
      have hsj := stTo_succ p l i
      have hlj := stTo_len p l i
      have hb := hbe i hi
      have g0 : l[i]? = some (mvAt l i) := by unfold mvAt; rw [List.getElem?_eq_getElem (by omega)]; rfl
      have g1 : l[i + 1]? = some (mvAt l (i + 1)) := by unfold mvAt; rw [List.getElem?_eq_getElem (by omega)]; rfl
      unfold stStep at hsj
      generalize mvAt l i = m at *
      generalize mvAt l (i + 1) = k at *
      have wi : IntKind.i64.wrap ((i : Int) + 1 + 1) = (i : Int) + 1 + 1 := wrap_in (by omega) (by omega)
      have wj : IntKind.i64.wrap (i : Int) = i := wrap_in (by omega) (by omega)
      have tj : ((i : Int) + 1).toNat = i + 1 := by omega
      have t0 : 0 ≤ (i : Int) + 1 := by omega
      generalize hA : stTo p l i = A at hsj hlj ⊢
      have f1 : Fits (A.length + 1) 17 := fits_of (by omega) (by omega)
      refine awp_skip ?_
      simp only [thenA, inBlockA, reduceIte, Nat.reduceEqDiff, eq_self]
      refine hK3 _ _ ?_
      refine awp_prune [1, 6, 8, 9] ?_
      simp only [prune, List.map_cons, List.map_nil, Go.AM.look, Nat.reduceEqDiff, reduceIte]
      refine awp_seq_k fun K4 hK4 => ?_
      refine awp_block ?_
      refine awp_sd mixed rfl fun K hK => ?_
      simp -dsimp [g0, g1, wj, tj, t0]
      refine callK_intro _ (hb) (by simp) ?_
      simp -dsimp [g0, g1, wj, tj, t0]
      refine hK _ _ _ (by decide +kernel) ?_; clear hK K
      refine awp_sr rfl fun K hK => ?_
      simp -dsimp
      refine hK _ _ ?_; clear hK K
      refine awp_cond rfl (fun hc2 => ?_) (fun hc2 => ?_)
      · skip
        skip
        try simp only at hc2
        rw [hc2, if_pos rfl] at hsj
        refine awp_r rfl fun K hK => ?_
        simp -dsimp [f1]
        refine hK _ _ ?_; clear hK K
        simp only [thenA, inBlockA, reduceIte, Nat.reduceEqDiff, eq_self]
        refine hK4 _ _ ?_
        refine awp_prune [1, 6, 8, 9] ?_
        simp only [prune, List.map_cons, List.map_nil, Go.AM.look, Nat.reduceEqDiff, reduceIte]
        refine awp_r rfl fun K hK => ?_
        simp -dsimp [wi]
        refine hK _ _ ?_; clear hK K
        simp only [thenA, inBlockA, reduceIte, Nat.reduceEqDiff, eq_self]
        exact ⟨i + 1, by omega, by omega, sub_rb [some 0, some 3] rfl (by simp [hsj]) (by simp [hsj, hc2])⟩
      · skip
        skip
        try simp only at hc2
        rw [hc2, if_neg (by simp)] at hsj
        refine awp_skip ?_
        simp only [thenA, inBlockA, reduceIte, Nat.reduceEqDiff, eq_self]
        refine hK4 _ _ ?_
        refine awp_prune [1, 6, 8, 9] ?_
        simp only [prune, List.map_cons, List.map_nil, Go.AM.look, Nat.reduceEqDiff, reduceIte]
        refine awp_r rfl fun K hK => ?_
        simp -dsimp [wi]
        refine hK _ _ ?_; clear hK K
        simp only [thenA, inBlockA, reduceIte, Nat.reduceEqDiff, eq_self]
        exact ⟨i + 1, by omega, by omega, sub_rb [some 0, some 1] rfl (by simp [hsj]) (by simp [hsj])⟩
    · skip
      skip
      have hie : i = l.length - 1 := by simp at hc1; omega
      subst hie
      refine awp_exit ?_
      simp only [thenA, inBlockA, reduceIte, Nat.reduceEqDiff, eq_self]
      refine hK2 _ _ ?_
      refine awp_prune [8] ?_
      simp only [prune, List.map_cons, List.map_nil, Go.AM.look, Nat.reduceEqDiff, reduceIte]
      refine awp_sr rfl fun K hK => ?_
      simp -dsimp
      refine hK _ _ ?_; clear hK K
      exact awp_ret (by simp)

theorem flat_cv (l : List Cover) : (l.map Cover.cells).all (fun e => e.all flatC) = true := by simp [flatC]
theorem c_rCov (p : Plan) (l : List Move) (front long : Int) (hv : validB p = true) (hw : wayB p l = true) (h1 : 1 ≤ long) (h2 : long ≤ front) (h3 : front ≤ begTo p l l.length) :
    PureCall Tryz.prog 36 [p.av, mLst l, I front, I long] (.lst 3 ((cvTo p l front long l.length).map Cover.cells)) := by
  have hl := way_len hw
  have hbl := begTo_bd hv hw l.length (Nat.le_refl _)
  refine PureCall.of_body Tryz.func36 rfl (by decide) (by simp [Tryz.ntmps36]) ?_
  simp only [Tryz.ntmps36, Tryz.results36]
  refine awp_sr rfl fun K hK => ?_
  simp -dsimp
  refine hK _ _ ?_; clear hK K
  refine awp_sr rfl fun K hK => ?_
  simp -dsimp
  refine hK _ _ ?_; clear hK K
  refine awp_sr rfl fun K hK => ?_
  simp -dsimp
  refine hK _ _ ?_; clear hK K
  refine awp_seq_k fun K1 hK1 => ?_
  refine awp_sr rfl fun K hK => ?_
  simp -dsimp
  refine hK _ _ ?_; clear hK K
  refine awp_block ?_
  refine awp_prune [1, 2, 3, 4, 9, 10, 11] ?_
  simp only [prune, List.map_cons, List.map_nil, Go.AM.look, Nat.reduceEqDiff, reduceIte]
  refine awp_loop_l [1, 2, 3, 4] (α := Nat) (fun i => [(11, I i), (10, I (begTo p l i)), (9, .row 1 0 (cvTo p l front long i).length)]) (fun i => [some (.els 2 [p.cells]), some (.els 3 ((cvTo p l front long i).map Cover.cells))]) (fun i => i ≤ l.length) (fun i => l.length - i) 0 ?_ ?_ ?_
  · simp
  · exact (sub_nil 9 3 (by simp)).trans (sub_rb [some 0, some 1] rfl (by simp [cvTo, begTo]) (by simp [cvTo]))
  rintro i i1
  have hcl := cvTo_len p l front long i
  have hcs := cvTo_succ p l front long i
  simp only [List.cons_append, List.nil_append, prune, List.map_cons, List.map_nil, Go.AM.look, Nat.reduceEqDiff, reduceIte]
  refine awp_seq_k fun K2 hK2 => ?_
  refine awp_sr rfl fun K hK => ?_
  simp -dsimp
  refine hK _ _ ?_; clear hK K
  refine awp_cond rfl (fun hc0 => ?_) (fun hc0 => ?_)
  · skip
    try simp at hc0
    obtain ⟨m, hgm⟩ : ∃ m, l[i]? = some m := ⟨_, List.getElem?_eq_getElem hc0⟩
    have wi : IntKind.i64.wrap ((i : Int) + 1) = (i : Int) + 1 := wrap_in (by omega) (by omega)
    have hma : mvAt l i = m := by simp [mvAt, hgm]
    have hmv := way_mov hw i hc0
    have hb0 := begTo_bd hv hw i (by omega)
    have hb1 := begTo_bd hv hw (i + 1) (by omega)
    have hbs : begTo p l (i + 1) = begTo p l i + p.len m.Rail := by simp only [begTo]; rw [hma]
    rw [hma] at hmv hcs
    have hmr := movB_iff.1 hmv
    have hlb := len_bd hv hmr.1 hmr.2
    have ro := rail_ok hv hmr.1 hmr.2
    have hrl := c_rLength p m.Rail hmr.1 hmr.2 ro
    generalize hB : begTo p l i = B at hb0 hbs hcs ⊢
    have ws : IntKind.i64.wrap (B + p.len m.Rail) = B + p.len m.Rail := wrap_in (by omega) (by omega)
    have wa : IntKind.i64.wrap (front - long) = front - long := wrap_in (by omega) (by omega)
    have hF : IntKind.i64.wrap (maxI (front - long) B - B) = cvF front long B := by unfold maxI cvF; rw [wrap_in (by split <;> omega) (by split <;> omega)]; split <;> split <;> omega
    have hT : IntKind.i64.wrap (minI front (B + p.len m.Rail) - B) = cvT front B (p.len m.Rail) := by unfold minI cvT; rw [wrap_in (by split <;> omega) (by split <;> omega)]; split <;> split <;> omega
    simp only [maxI, minI] at hF hT
    have hFb : 0 ≤ cvF front long B ∧ cvF front long B ≤ 100000000000 := by unfold cvF; split <;> omega
    have hTb : -100000000000 ≤ cvT front B (p.len m.Rail) ∧ cvT front B (p.len m.Rail) ≤ 100000000000 := by unfold cvT; split <;> omega
    generalize hO : cvTo p l front long i = O at hcl hcs ⊢
    have f1 : Fits (O.length + 1) 25 := fits_of (by omega) (by omega)
    have hot := cov_take O
    unfold cvStep at hcs
    generalize cvF front long B = F at hF hFb hcs
    generalize cvT front B (p.len m.Rail) = TT at hT hTb hcs
    have wd : IntKind.i64.wrap (p.len m.Rail - TT) = p.len m.Rail - TT := wrap_in (by omega) (by omega)
    have we : IntKind.i64.wrap (p.len m.Rail - F) = p.len m.Rail - F := wrap_in (by omega) (by omega)
    refine awp_skip ?_
    simp only [thenA, inBlockA, reduceIte, Nat.reduceEqDiff, eq_self]
    refine hK2 _ _ ?_
    refine awp_prune [1, 2, 3, 4, 9, 10, 11] ?_
    simp only [prune, List.map_cons, List.map_nil, Go.AM.look, Nat.reduceEqDiff, reduceIte]
    refine awp_seq_k fun K3 hK3 => ?_
    refine awp_block ?_
    refine awp_sd mixed rfl fun K hK => ?_
    simp -dsimp [hgm]
    refine callK_intro _ (hrl) (by simp) ?_
    simp -dsimp [hgm]
    refine hK _ _ _ (by decide +kernel) ?_; clear hK K
    refine awp_sr rfl fun K hK => ?_
    simp -dsimp [wa, ws, hF, hT]
    refine hK _ _ ?_; clear hK K
    refine awp_sr rfl fun K hK => ?_
    simp -dsimp [ws]
    refine hK _ _ ?_; clear hK K
    refine awp_seq_k fun K4 hK4 => ?_
    refine awp_sr rfl fun K hK => ?_
    simp -dsimp
    refine hK _ _ ?_; clear hK K
    refine awp_cond rfl (fun hc1 => ?_) (fun hc1 => ?_)
    · skip
      try simp at hc1
      rw [if_pos hc1, List.append_nil] at hcs
      refine awp_exit ?_
      simp only [thenA, inBlockA, reduceIte, Nat.reduceEqDiff, eq_self]
      refine hK3 _ _ ?_
      refine awp_prune [1, 2, 3, 4, 9, 10, 11] ?_
      simp only [prune, List.map_cons, List.map_nil, Go.AM.look, Nat.reduceEqDiff, reduceIte]
      refine awp_r rfl fun K hK => ?_
      simp -dsimp [wi]
      refine hK _ _ ?_; clear hK K
      simp only [thenA, inBlockA, reduceIte, Nat.reduceEqDiff, eq_self]
      exact ⟨i + 1, by omega, by omega, sub_rb [some 0, some 1] rfl (by simp [hcs, hbs, hB]) (by simp [hcs])⟩
    · skip
      try simp at hc1
      rw [if_neg (by omega)] at hcs
      refine awp_skip ?_
      simp only [thenA, inBlockA, reduceIte, Nat.reduceEqDiff, eq_self]
      refine hK4 _ _ ?_
      refine awp_prune [1, 2, 3, 4, 9, 10, 11, 12, 13, 14] ?_
      simp only [prune, List.map_cons, List.map_nil, Go.AM.look, Nat.reduceEqDiff, reduceIte]
      refine awp_seq_k fun K5 hK5 => ?_
      refine awp_sr rfl fun K hK => ?_
      simp -dsimp [hgm]
      refine hK _ _ ?_; clear hK K
      refine awp_cond rfl (fun hc2 => ?_) (fun hc2 => ?_)
      · skip
        try simp at hc2
        rw [hc2, if_pos rfl] at hcs
        refine awp_r rfl fun K hK => ?_
        simp -dsimp [wd, we]
        refine hK _ _ ?_; clear hK K
        simp only [thenA, inBlockA, reduceIte, Nat.reduceEqDiff, eq_self]
        refine hK5 _ _ ?_
        refine awp_prune [1, 2, 3, 4, 9, 10, 11, 13, 14] ?_
        simp only [prune, List.map_cons, List.map_nil, Go.AM.look, Nat.reduceEqDiff, reduceIte]
        refine awp_r rfl fun K hK => ?_
        simp -dsimp [f1, hgm]
        refine hK _ _ ?_; clear hK K
        simp only [thenA, inBlockA, reduceIte, Nat.reduceEqDiff, eq_self]
        refine hK3 _ _ ?_
        refine awp_prune [1, 2, 3, 4, 9, 10, 11] ?_
        simp only [prune, List.map_cons, List.map_nil, Go.AM.look, Nat.reduceEqDiff, reduceIte]
        refine awp_r rfl fun K hK => ?_
        simp -dsimp [wi]
        refine hK _ _ ?_; clear hK K
        simp only [thenA, inBlockA, reduceIte, Nat.reduceEqDiff, eq_self]
        exact ⟨i + 1, by omega, by omega, sub_rb [some 0, some 2] rfl (by simp [hcs, hbs, hB]) (by simp [hcs, hot])⟩
      · skip
        try simp at hc2
        rw [hc2, if_neg (by simp)] at hcs
        refine awp_skip ?_
        simp only [thenA, inBlockA, reduceIte, Nat.reduceEqDiff, eq_self]
        refine hK5 _ _ ?_
        refine awp_prune [1, 2, 3, 4, 9, 10, 11, 13, 14] ?_
        simp only [prune, List.map_cons, List.map_nil, Go.AM.look, Nat.reduceEqDiff, reduceIte]
        refine awp_r rfl fun K hK => ?_
        simp -dsimp [f1, hgm]
        refine hK _ _ ?_; clear hK K
        simp only [thenA, inBlockA, reduceIte, Nat.reduceEqDiff, eq_self]
        refine hK3 _ _ ?_
        refine awp_prune [1, 2, 3, 4, 9, 10, 11] ?_
        simp only [prune, List.map_cons, List.map_nil, Go.AM.look, Nat.reduceEqDiff, reduceIte]
        refine awp_r rfl fun K hK => ?_
        simp -dsimp [wi]
        refine hK _ _ ?_; clear hK K
        simp only [thenA, inBlockA, reduceIte, Nat.reduceEqDiff, eq_self]
        exact ⟨i + 1, by omega, by omega, sub_rb [some 0, some 2] rfl (by simp [hcs, hbs, hB]) (by simp [hcs, hot])⟩
  · skip
    try simp at hc0
    have hie : i = l.length := by omega
    subst hie
    refine awp_exit ?_
    simp only [thenA, inBlockA, reduceIte, Nat.reduceEqDiff, eq_self]
    refine hK1 _ _ ?_
    refine awp_prune [9] ?_
    simp only [prune, List.map_cons, List.map_nil, Go.AM.look, Nat.reduceEqDiff, reduceIte]
    refine awp_sr rfl fun K hK => ?_
    simp -dsimp
    refine hK _ _ ?_; clear hK K
    exact awp_ret (by simp [cov_take])
end Go.Tram
