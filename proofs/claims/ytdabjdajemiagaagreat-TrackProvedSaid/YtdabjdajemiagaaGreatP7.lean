/- Walks: ways, as the document has them. -/
import Derived.Test.YtdabjdajemiagaaGreatP6
import Derived.Test.YtdabjdajemiagaaGreatR4
namespace Go.Tram
open Go.AM Go.Proofs
set_option maxRecDepth 10000
set_option maxHeartbeats 4000000
set_option linter.unusedVariables false
set_option linter.unusedSimpArgs false

theorem c_rWay (p : Plan) (l : List Move) (hv : validB p = true) (hn : l.length ≤ 100000) : PureCall Tryz.prog 25 [p.av, mLst l] (Bo (wayB p l)) := by
  have hR := (valid_parts hv).2.1
  have hmo := fun m => c_rMove p m (by omega)
  have hfol : ∀ m k, movB p m = true → movB p k = true → PureCall Tryz.prog 20 [p.av, m.av, k.av] (Bo (follB p m k)) := fun m k h1 h2 => by rw [foll_eq hv h1 h2]; exact c_rFollows p m k hv h1
  refine PureCall.of_body Tryz.func25 rfl (by decide) (by simp [Tryz.ntmps25]) ?_
  simp only [Tryz.ntmps25, Tryz.results25]
  refine awp_sr rfl fun K hK => ?_
  simp -dsimp
  refine hK _ _ ?_; clear hK K
  refine awp_seq_k fun K1 hK1 => ?_
  refine awp_sr rfl fun K hK => ?_
  simp -dsimp
  refine hK _ _ ?_; clear hK K
  refine awp_block ?_
  refine awp_prune [1, 2, 5] ?_
  simp only [prune, List.map_cons, List.map_nil, Go.AM.look, Nat.reduceEqDiff, reduceIte]
  refine awp_loop_l [1, 2] (α := Nat) (fun i => [(5, I i)]) (fun i => [some (.els 2 [p.cells])]) (fun i => i ≤ l.length ∧ (List.range i).all (stepB p l) = true) (fun i => l.length - i) 0 ?_ ?_ ?_
  · simp
  · exact sub_same (by simp)
  rintro i ⟨i1, i2⟩
  simp only [List.cons_append, List.nil_append, prune, List.map_cons, List.map_nil, Go.AM.look, Nat.reduceEqDiff, reduceIte]
  refine awp_seq_k fun K2 hK2 => ?_
  refine awp_sr rfl fun K hK => ?_
  simp -dsimp
  refine hK _ _ ?_; clear hK K
  refine awp_cond rfl (fun hc0 => ?_) (fun hc0 => ?_)
  · skip
    try simp at hc0
    obtain ⟨m, hgm⟩ : ∃ m, l[i]? = some m := ⟨_, List.getElem?_eq_getElem hc0⟩
    have wi : IntKind.i64.wrap ((i : Int) + 1) = (i : Int) + 1 := wrap_in (by omega) (by omega)
    have w1 : IntKind.i64.wrap ((i : Int) - 1) = (i : Int) - 1 := wrap_in (by omega) (by omega)
    have hprev : 0 < i → l[i - 1]? = some (l[i - 1]?.getD default) := fun h => by rw [List.getElem?_eq_getElem (by omega)]; rfl
    have hpm : 0 < i → movB p (l[i - 1]?.getD default) = true := fun h => (Bool.and_eq_true_iff.1 (allR_at i2 (show i - 1 < i by omega))).1
    have hst : stepB p l i = (movB p m && (decide (i = 0) || follB p (l[i - 1]?.getD default) m)) := by unfold stepB; rw [hgm]; rfl
    generalize l[i - 1]?.getD default = m' at hprev hpm hst
    refine awp_skip ?_
    simp only [thenA, inBlockA, reduceIte, Nat.reduceEqDiff, eq_self]
    refine hK2 _ _ ?_
    refine awp_prune [1, 2, 5] ?_
    simp only [prune, List.map_cons, List.map_nil, Go.AM.look, Nat.reduceEqDiff, reduceIte]
    refine awp_seq_k fun K3 hK3 => ?_
    refine awp_block ?_
    refine awp_sd mixed rfl fun K hK => ?_
    simp -dsimp [hgm, w1]
    refine callK_intro _ (hmo m) (by simp) ?_
    simp -dsimp [hgm, w1]
    refine ⟨fun _ h => by omega, ?_⟩
    try simp -dsimp
    refine idxK_intro m'.cells (fun hq => by simp at hq; rw [List.getElem?_map, hprev hq.2]; rfl) ?_
    simp -dsimp [hgm, w1]
    refine idxK_intro m.cells (fun _ => by rw [List.getElem?_map, hgm]; rfl) ?_
    simp -dsimp [hgm, w1]
    refine callK_may _ (fun hm => (hfol m' m (hpm (by simp at hm; exact hm.2)) (by simp at hm; exact hm.1))) (by simp) ?_
    simp -dsimp [hgm, w1]
    refine hK _ _ _ (by decide +kernel) ?_; clear hK K
    refine awp_cond rfl (fun hc1 => ?_) (fun hc1 => ?_)
    · skip
      rw [step_neg, ← hst] at hc1
      have hsf : stepB p l i = false := by simpa using hc1
      have hb : wayB p l = false := by unfold wayB; rw [show (List.range l.length).all (stepB p l) = false from by rw [List.all_eq_false]; exact ⟨i, List.mem_range.2 hc0, by simp [hsf]⟩]; rfl
      refine awp_sr rfl fun K hK => ?_
      simp -dsimp
      refine hK _ _ ?_; clear hK K
      exact awp_ret (by simp [hb])
    · skip
      rw [step_neg, ← hst] at hc1
      have hst1 : stepB p l i = true := by simpa using hc1
      refine awp_skip ?_
      simp only [thenA, inBlockA, reduceIte, Nat.reduceEqDiff, eq_self]
      refine hK3 _ _ ?_
      refine awp_prune [1, 2, 5] ?_
      simp only [prune, List.map_cons, List.map_nil, Go.AM.look, Nat.reduceEqDiff, reduceIte]
      refine awp_r rfl fun K hK => ?_
      simp -dsimp [wi]
      refine hK _ _ ?_; clear hK K
      simp only [thenA, inBlockA, reduceIte, Nat.reduceEqDiff, eq_self]
      exact ⟨i + 1, ⟨by omega, by rw [allR_succ, i2, hst1]; rfl⟩, by omega, sub_rb [some 0] rfl (by simp) (by simp)⟩
  · skip
    try simp at hc0
    have hie : i = l.length := by omega
    subst hie
    refine awp_exit ?_
    simp only [thenA, inBlockA, reduceIte, Nat.reduceEqDiff, eq_self]
    refine hK1 _ _ ?_
    refine awp_prune [1] ?_
    simp only [prune, List.map_cons, List.map_nil, Go.AM.look, Nat.reduceEqDiff, reduceIte]
    refine awp_sr rfl fun K hK => ?_
    simp -dsimp
    refine callK_intro _ (c_in l.length 1 2000) (by simp) ?_
    simp -dsimp
    refine hK _ _ ?_; clear hK K
    exact awp_ret (by simp [wayB, i2])

theorem c_rWayLength (p : Plan) (l : List Move) (hv : validB p = true) (hw : wayB p l = true) : PureCall Tryz.prog 32 [p.av, mLst l] (I (begTo p l l.length)) := by
  have hl := way_len hw
  refine PureCall.of_body Tryz.func32 rfl (by decide) (by simp [Tryz.ntmps32]) ?_
  simp only [Tryz.ntmps32, Tryz.results32]
  refine awp_sr rfl fun K hK => ?_
  simp -dsimp
  refine hK _ _ ?_; clear hK K
  refine awp_sr rfl fun K hK => ?_
  simp -dsimp
  refine hK _ _ ?_; clear hK K
  refine awp_seq_k fun K1 hK1 => ?_
  refine awp_sr rfl fun K hK => ?_
  simp -dsimp
  refine hK _ _ ?_; clear hK K
  refine awp_block ?_
  refine awp_prune [1, 2, 5, 6] ?_
  simp only [prune, List.map_cons, List.map_nil, Go.AM.look, Nat.reduceEqDiff, reduceIte]
  refine awp_loop_l [1, 2] (α := Nat) (fun i => [(6, I i), (5, I (begTo p l i))]) (fun i => [some (.els 2 [p.cells])]) (fun i => i ≤ l.length) (fun i => l.length - i) 0 ?_ ?_ ?_
  · simp
  · exact sub_same (by simp [begTo])
  rintro i i1
  simp only [List.cons_append, List.nil_append, prune, List.map_cons, List.map_nil, Go.AM.look, Nat.reduceEqDiff, reduceIte]
  refine awp_seq_k fun K2 hK2 => ?_
  refine awp_sr rfl fun K hK => ?_
  simp -dsimp
  refine hK _ _ ?_; clear hK K
  refine awp_cond rfl (fun hc0 => ?_) (fun hc0 => ?_)
  · skip
    try simp at hc0
    obtain ⟨m, hgm⟩ : ∃ m, l[i]? = some m := ⟨_, List.getElem?_eq_getElem hc0⟩
    have wi : IntKind.i64.wrap ((i : Int) + 1) = (i : Int) + 1 := wrap_in (by omega) (by omega)
    have hma : mvAt l i = m := by simp [mvAt, hgm]
    have hmv := way_mov hw i hc0
    have hb1 := begTo_bd hv hw (i + 1) (by omega)
    have hbs : begTo p l (i + 1) = begTo p l i + p.len m.Rail := by simp only [begTo]; rw [hma]
    rw [hma] at hmv
    have hmr := movB_iff.1 hmv
    have ro := rail_ok hv hmr.1 hmr.2
    have ws : IntKind.i64.wrap (begTo p l i + p.len m.Rail) = begTo p l (i + 1) := by rw [← hbs]; exact wrap_in (by omega) (by omega)
    refine awp_skip ?_
    simp only [thenA, inBlockA, reduceIte, Nat.reduceEqDiff, eq_self]
    refine hK2 _ _ ?_
    refine awp_prune [1, 2, 5, 6] ?_
    simp only [prune, List.map_cons, List.map_nil, Go.AM.look, Nat.reduceEqDiff, reduceIte]
    refine awp_seq_k fun K3 hK3 => ?_
    refine awp_block ?_
    refine awp_draw mixed rfl fun K hK => ?_
    simp -dsimp [hgm, ws]
    refine callK_intro _ (c_rLength p m.Rail hmr.1 hmr.2 ro) (by simp) ?_
    simp -dsimp [hgm, ws]
    refine hK _ _ _ (by decide +kernel) ?_; clear hK K
    simp only [thenA, inBlockA, reduceIte, Nat.reduceEqDiff, eq_self]
    refine hK3 _ _ ?_
    refine awp_prune [1, 2, 5, 6] ?_
    simp only [prune, List.map_cons, List.map_nil, Go.AM.look, Nat.reduceEqDiff, reduceIte]
    refine awp_r rfl fun K hK => ?_
    simp -dsimp [wi]
    refine hK _ _ ?_; clear hK K
    simp only [thenA, inBlockA, reduceIte, Nat.reduceEqDiff, eq_self]
    exact ⟨i + 1, by omega, by omega, sub_same (by simp)⟩
  · skip
    try simp at hc0
    have hie : i = l.length := by omega
    subst hie
    refine awp_exit ?_
    simp only [thenA, inBlockA, reduceIte, Nat.reduceEqDiff, eq_self]
    refine hK1 _ _ ?_
    refine awp_prune [5] ?_
    simp only [prune, List.map_cons, List.map_nil, Go.AM.look, Nat.reduceEqDiff, reduceIte]
    refine awp_sr rfl fun K hK => ?_
    simp -dsimp
    refine hK _ _ ?_; clear hK K
    exact awp_ret (by simp)

theorem flat_s (l : List Setg) : (l.map Setg.cells).all (fun e => e.all flatC) = true := by simp [flatC]
@[simp high] theorem flat_s_ren (l : List Setg) (g : List (Option Nat)) (n : Nat) : (l.map Setg.cells).map (fun e => e.map (renAV g n)) = l.map Setg.cells := map_flatC (fun x h => flatC_ren h g n) (flat_s l)
@[simp high] theorem flat_s_renF (l : List Setg) (H : Nat → Option ARow) (g : List (Option Nat)) (n : Nat) : (l.map Setg.cells).map (fun e => e.map (renF H g n)) = l.map Setg.cells := map_flatC (fun x h => flatC_renF h H g n) (flat_s l)
@[simp high] theorem flat_s_frzP (l : List Setg) (H : Hp) (n : Nat) : (l.map Setg.cells).map (fun e => e.map (frzP H n)) = l.map Setg.cells := map_flatC (fun x h => flatC_frzP h H n) (flat_s l)
@[simp high] theorem flat_s_plain (l : List Setg) : plainEls (l.map Setg.cells) = true := plain_flat (flat_s l)
@[simp] theorem takeS (l : List Setg) : List.take l.length (l.map Setg.cells) = l.map Setg.cells := List.take_of_length_le (by simp)

theorem c_SameS (l : List Setg) (hn : l.length ≤ 100000) : PureCall Tryz.prog 33 [.lst 2 (l.map Setg.cells), .lst 2 (l.map Setg.cells)] (Bo true) := by
  refine PureCall.of_body Tryz.func33 rfl (by decide) (by simp [Tryz.ntmps33]) ?_
  simp only [Tryz.ntmps33, Tryz.results33]
  refine awp_sr rfl fun K hK => ?_
  simp -dsimp
  refine hK _ _ ?_; clear hK K
  refine awp_seq_k fun K1 hK1 => ?_
  refine awp_sr rfl fun K hK => ?_
  simp -dsimp
  refine hK _ _ ?_; clear hK K
  refine awp_cond rfl (fun hc0 => ?_) (fun hc0 => ?_)
  · skip
    skip
    simp at hc0
  · skip
    skip
    refine awp_skip ?_
    simp only [thenA, inBlockA, reduceIte, Nat.reduceEqDiff, eq_self]
    refine hK1 _ _ ?_
    refine awp_prune [0, 1] ?_
    simp only [prune, List.map_cons, List.map_nil, Go.AM.look, Nat.reduceEqDiff, reduceIte]
    refine awp_seq_k fun K2 hK2 => ?_
    refine awp_sr rfl fun K hK => ?_
    simp -dsimp
    refine hK _ _ ?_; clear hK K
    refine awp_block ?_
    refine awp_prune [0, 1, 5] ?_
    simp only [prune, List.map_cons, List.map_nil, Go.AM.look, Nat.reduceEqDiff, reduceIte]
    refine awp_loop_l [0, 1] (α := Nat) (fun k => [(5, I k)]) (fun _ => []) (fun k => k ≤ l.length) (fun k => l.length - k) 0 ?_ ?_ ?_
    · simp
    · exact sub_same (by simp)
    rintro k k1
    simp only [List.cons_append, List.nil_append, prune, List.map_cons, List.map_nil, Go.AM.look, Nat.reduceEqDiff, reduceIte]
    refine awp_seq_k fun K3 hK3 => ?_
    refine awp_sr rfl fun K hK => ?_
    simp -dsimp
    refine hK _ _ ?_; clear hK K
    refine awp_cond rfl (fun hc1 => ?_) (fun hc1 => ?_)
    · skip
      try simp at hc1
      obtain ⟨c, hx⟩ : ∃ c, l[k]? = some c := ⟨_, List.getElem?_eq_getElem (by simpa using hc1)⟩
      have wk : IntKind.i64.wrap ((k : Int) + 1) = (k : Int) + 1 := wrap_in (by omega) (by omega)
      refine awp_skip ?_
      simp only [thenA, inBlockA, reduceIte, Nat.reduceEqDiff, eq_self]
      refine hK3 _ _ ?_
      refine awp_prune [0, 1, 5] ?_
      simp only [prune, List.map_cons, List.map_nil, Go.AM.look, Nat.reduceEqDiff, reduceIte]
      refine awp_seq_k fun K4 hK4 => ?_
      refine awp_block ?_
      refine awp_sd mixed rfl fun K hK => ?_
      simp -dsimp [hx]
      refine hK _ _ _ (by decide +kernel) ?_; clear hK K
      refine awp_cond rfl (fun hc2 => ?_) (fun hc2 => ?_)
      · skip
        skip
        simp at hc2
      · skip
        skip
        refine awp_skip ?_
        simp only [thenA, inBlockA, reduceIte, Nat.reduceEqDiff, eq_self]
        refine hK4 _ _ ?_
        refine awp_prune [0, 1, 5] ?_
        simp only [prune, List.map_cons, List.map_nil, Go.AM.look, Nat.reduceEqDiff, reduceIte]
        refine awp_r rfl fun K hK => ?_
        simp -dsimp [wk]
        refine hK _ _ ?_; clear hK K
        simp only [thenA, inBlockA, reduceIte, Nat.reduceEqDiff, eq_self]
        exact ⟨k + 1, by have := (List.getElem?_eq_some_iff.1 hx).1; omega, by have := (List.getElem?_eq_some_iff.1 hx).1; omega, sub_same (by simp)⟩
    · skip
      try simp at hc1
      refine awp_exit ?_
      simp only [thenA, inBlockA, reduceIte, Nat.reduceEqDiff, eq_self]
      refine hK2 _ _ ?_
      refine awp_prune [] ?_
      simp only [prune, List.map_cons, List.map_nil, Go.AM.look, Nat.reduceEqDiff, reduceIte]
      refine awp_sr rfl fun K hK => ?_
      simp -dsimp
      refine hK _ _ ?_; clear hK K
      exact awp_ret (by simp)

/-- The settings of a way. -/
def stStep (p : Plan) (l : List Move) (i : Nat) : List Setg := if isSet p (mvAt l i) then [pBetw p (mvAt l i) (mvAt l (i + 1))] else []
def stTo (p : Plan) (l : List Move) (n : Nat) : List Setg := (List.range n).flatMap (stStep p l)
@[simp] theorem stTo_zero (p : Plan) (l : List Move) : stTo p l 0 = [] := rfl
theorem stTo_succ (p : Plan) (l : List Move) (n : Nat) : stTo p l (n + 1) = stTo p l n ++ stStep p l n := by
  simp only [stTo, List.range_succ, List.flatMap_append, List.flatMap_cons, List.flatMap_nil, List.append_nil]
theorem stTo_len (p : Plan) (l : List Move) (n : Nat) : (stTo p l n).length ≤ n := by
  induction n with
  | zero => simp
  | succ n ih =>
    rw [stTo_succ, List.length_append]
    have : (stStep p l n).length ≤ 1 := by unfold stStep; split <;> simp
    omega
theorem way_foll {p : Plan} {l : List Move} (h : wayB p l = true) {i : Nat} (hi : i + 1 < l.length) : follB p (mvAt l i) (mvAt l (i + 1)) = true := by
  have := allR_at (Bool.and_eq_true_iff.1 h).1 hi
  unfold stepB at this
  have h2 := (Bool.and_eq_true_iff.1 this).2
  simp at h2
  exact h2

theorem c_rSettings (p : Plan) (l : List Move) (hv : validB p = true) (hw : wayB p l = true) : PureCall Tryz.prog 34 [p.av, mLst l] (.lst 2 ((stTo p l (l.length - 1)).map Setg.cells)) := by
  have hl := way_len hw
  have hbe : ∀ i, i + 1 < l.length → PureCall Tryz.prog 21 [p.av, (mvAt l i).av, (mvAt l (i + 1)).av] (.tup [.agg (if isSet p (mvAt l i) then pBetw p (mvAt l i) (mvAt l (i + 1)) else ⟨0, 0⟩).cells, Bo (isSet p (mvAt l i))]) := by
    intro i hi
    have hm := way_mov hw i (by omega)
    have hm2 := way_mov hw (i + 1) hi
    have hf := way_foll hw hi
    rw [foll_eq hv hm hm2] at hf
    rw [betw_eq hv hm hf]
    exact c_rBetween p _ _ hv hm
  refine PureCall.of_body Tryz.func34 rfl (by decide) (by simp [Tryz.ntmps34]) ?_
  simp only [Tryz.ntmps34, Tryz.results34]
  refine awp_sr rfl fun K hK => ?_
  simp -dsimp
  refine hK _ _ ?_; clear hK K
  refine awp_sr rfl fun K hK => ?_
  simp -dsimp
  refine hK _ _ ?_; clear hK K
  refine awp_seq_k fun K1 hK1 => ?_
  refine awp_sr rfl fun K hK => ?_
  simp -dsimp
  refine hK _ _ ?_; clear hK K
  refine awp_block ?_
  refine awp_prune [1, 2, 5, 6] ?_
  simp only [prune, List.map_cons, List.map_nil, Go.AM.look, Nat.reduceEqDiff, reduceIte]
  refine awp_loop_l [1, 2] (α := Nat) (fun i => [(6, I ((i : Int) + 1)), (5, .row 1 0 (stTo p l i).length)]) (fun i => [some (.els 2 [p.cells]), some (.els 2 ((stTo p l i).map Setg.cells))]) (fun i => i ≤ l.length - 1) (fun i => l.length - i) 0 ?_ ?_ ?_
  · simp
  · exact (sub_nil 5 2 (by simp)).trans (sub_rb [some 0, some 1] rfl (by simp) (by simp))
  rintro i i1
  simp only [List.cons_append, List.nil_append, prune, List.map_cons, List.map_nil, Go.AM.look, Nat.reduceEqDiff, reduceIte]
  refine awp_seq_k fun K2 hK2 => ?_
  refine awp_sr rfl fun K hK => ?_
  simp -dsimp
  refine hK _ _ ?_; clear hK K
  refine awp_cond rfl (fun hc0 => ?_) (fun hc0 => ?_)
  · skip
    skip
    have hi : i + 1 < l.length := by simp at hc0; omega
    have hsj := stTo_succ p l i
    have hlj := stTo_len p l i
    have hb := hbe i hi
    have g0 : l[i]? = some (mvAt l i) := by unfold mvAt; rw [List.getElem?_eq_getElem (by omega)]; rfl
    have g1 : l[i + 1]? = some (mvAt l (i + 1)) := by unfold mvAt; rw [List.getElem?_eq_getElem (by omega)]; rfl
    unfold stStep at hsj
    generalize mvAt l i = m at *
    generalize mvAt l (i + 1) = k at *
    have wi : IntKind.i64.wrap ((i : Int) + 1 + 1) = (i : Int) + 1 + 1 := wrap_in (by omega) (by omega)
    have wj : IntKind.i64.wrap (i : Int) = i := wrap_in (by omega) (by omega)
    have tj : ((i : Int) + 1).toNat = i + 1 := by omega
    have t0 : 0 ≤ (i : Int) + 1 := by omega
    generalize hA : stTo p l i = A at hsj hlj ⊢
    have f1 : Fits (A.length + 1) 17 := fits_of (by omega) (by omega)
    refine awp_skip ?_
    simp only [thenA, inBlockA, reduceIte, Nat.reduceEqDiff, eq_self]
    refine hK2 _ _ ?_
    refine awp_prune [1, 2, 5, 6] ?_
    simp only [prune, List.map_cons, List.map_nil, Go.AM.look, Nat.reduceEqDiff, reduceIte]
    refine awp_seq_k fun K3 hK3 => ?_
    refine awp_block ?_
    refine awp_sd mixed rfl fun K hK => ?_
    simp -dsimp [g0, g1, wj, tj, t0]
    refine callK_intro _ (hb) (by simp) ?_
    simp -dsimp [g0, g1, wj, tj, t0]
    refine hK _ _ _ (by decide +kernel) ?_; clear hK K
    refine awp_sr rfl fun K hK => ?_
    simp -dsimp
    refine hK _ _ ?_; clear hK K
    refine awp_cond rfl (fun hc1 => ?_) (fun hc1 => ?_)
    · skip
      skip
      try simp only at hc1
      rw [hc1, if_pos rfl] at hsj
      refine awp_r rfl fun K hK => ?_
      simp -dsimp [f1]
      refine hK _ _ ?_; clear hK K
      simp only [thenA, inBlockA, reduceIte, Nat.reduceEqDiff, eq_self]
      refine hK3 _ _ ?_
      refine awp_prune [1, 2, 5, 6] ?_
      simp only [prune, List.map_cons, List.map_nil, Go.AM.look, Nat.reduceEqDiff, reduceIte]
      refine awp_r rfl fun K hK => ?_
      simp -dsimp [wi]
      refine hK _ _ ?_; clear hK K
      simp only [thenA, inBlockA, reduceIte, Nat.reduceEqDiff, eq_self]
      exact ⟨i + 1, by omega, by omega, sub_rb [some 0, some 3] rfl (by simp [hsj]) (by simp [hsj, hc1])⟩
    · skip
      skip
      try simp only at hc1
      rw [hc1, if_neg (by simp)] at hsj
      refine awp_skip ?_
      simp only [thenA, inBlockA, reduceIte, Nat.reduceEqDiff, eq_self]
      refine hK3 _ _ ?_
      refine awp_prune [1, 2, 5, 6] ?_
      simp only [prune, List.map_cons, List.map_nil, Go.AM.look, Nat.reduceEqDiff, reduceIte]
      refine awp_r rfl fun K hK => ?_
      simp -dsimp [wi]
      refine hK _ _ ?_; clear hK K
      simp only [thenA, inBlockA, reduceIte, Nat.reduceEqDiff, eq_self]
      exact ⟨i + 1, by omega, by omega, sub_rb [some 0, some 1] rfl (by simp [hsj]) (by simp [hsj])⟩
  · skip
    skip
    have hie : i = l.length - 1 := by simp at hc0; omega
    subst hie
    refine awp_exit ?_
    simp only [thenA, inBlockA, reduceIte, Nat.reduceEqDiff, eq_self]
    refine hK1 _ _ ?_
    refine awp_prune [5] ?_
    simp only [prune, List.map_cons, List.map_nil, Go.AM.look, Nat.reduceEqDiff, reduceIte]
    refine awp_sr rfl fun K hK => ?_
    simp -dsimp
    refine hK _ _ ?_; clear hK K
    exact awp_ret (by simp)
end Go.Tram
