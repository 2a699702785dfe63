/- Walks: all that is foul in a plan. -/
import Derived.Test.YteodgilndjjgdaaGreatV2
namespace Go.Tram
open Go.AM Go.Proofs
set_option maxRecDepth 10000
set_option maxHeartbeats 4000000
set_option linter.unusedVariables false
set_option linter.unusedSimpArgs false

theorem flat_fl (l : List Foul) : (l.map Foul.cells).all (fun e => e.all flatC) = true := by simp [flatC]
@[simp high] theorem flat_fl_ren (l : List Foul) (g : List (Option Nat)) (n : Nat) : (l.map Foul.cells).map (fun e => e.map (renAV g n)) = l.map Foul.cells := map_flatC (fun x h => flatC_ren h g n) (flat_fl l)
@[simp high] theorem flat_fl_frzP (l : List Foul) (H : Hp) (n : Nat) : (l.map Foul.cells).map (fun e => e.map (frzP H n)) = l.map Foul.cells := map_flatC (fun x h => flatC_frzP h H n) (flat_fl l)
theorem fl_take (l : List Foul) : (l.map Foul.cells).take l.length = l.map Foul.cells := List.take_of_length_le (by simp)

theorem c_Fouls_v (p : Plan) (l : List Profile) (h : validB p = false) : PureCall Tryz.prog 10 [p.av, .lst 2 (l.map Profile.cells)] (.tup [.v (.slice none 0 0), I 2]) := by
  refine PureCall.of_body Tryz.func10 rfl (by decide) (by simp [Tryz.ntmps10]) ?_
  simp only [Tryz.ntmps10, Tryz.results10]
  refine awp_sr rfl fun K hK => ?_
  simp -dsimp
  refine hK _ _ ?_; clear hK K
  refine awp_sr rfl fun K hK => ?_
  simp -dsimp
  refine callK_intro _ (c_begin_f p h) (by simp) ?_
  simp -dsimp
  refine hK _ _ ?_; clear hK K
  refine awp_seq_k fun K1 hK1 => ?_
  refine awp_sr rfl fun K hK => ?_
  simp -dsimp
  refine callK_may _ (fun hm => (by simp at hm : PureCall Tryz.prog 27 _ (Bo false))) (by simp) ?_
  simp -dsimp
  refine hK _ _ ?_; clear hK K
  refine awp_cond rfl (fun hc0 => ?_) (fun hc0 => ?_)
  · skip
    skip
    refine awp_sr rfl fun K hK => ?_
    simp -dsimp
    refine hK _ _ ?_; clear hK K
    exact awp_ret (by simp)
  · skip
    skip
    simp at hc0
def profsB (l : List Profile) : Bool := decide (1 ≤ l.length) && (decide (l.length ≤ 6) && l.all profB)
theorem c_Fouls_f (p : Plan) (l : List Profile) (hv : validB p = true) (h : profsB l = false) (hn : l.length ≤ 100000) : PureCall Tryz.prog 10 [p.av, .lst 2 (l.map Profile.cells)] (.tup [.v (.slice none 0 0), I 2]) := by
  refine PureCall.of_body Tryz.func10 rfl (by decide) (by simp [Tryz.ntmps10]) ?_
  simp only [Tryz.ntmps10, Tryz.results10]
  refine awp_sr rfl fun K hK => ?_
  simp -dsimp
  refine hK _ _ ?_; clear hK K
  refine awp_sr rfl fun K hK => ?_
  simp -dsimp
  refine callK_intro _ (c_begin p hv) (by simp) ?_
  simp -dsimp
  refine hK _ _ ?_; clear hK K
  refine awp_seq_k fun K1 hK1 => ?_
  refine awp_sr rfl fun K hK => ?_
  simp -dsimp
  refine callK_may _ (fun hm => c_profiles l hn) (by simp) ?_
  simp -dsimp
  refine hK _ _ ?_; clear hK K
  refine awp_cond rfl (fun hc0 => ?_) (fun hc0 => ?_)
  · skip
    skip
    refine awp_sr rfl fun K hK => ?_
    simp -dsimp
    refine hK _ _ ?_; clear hK K
    exact awp_ret (by simp)
  · skip
    skip
    exfalso; have hb : profsB l = true := by simp at hc0; simp [profsB]; exact ⟨by omega, by omega, hc0.2⟩
    rw [h] at hb; cases hb

theorem c_Fouls_t (p : Plan) (l : List Profile) (hv : validB p = true) (h : profsB l = true) (hN : p.Rails.length ≤ 12) : PureCall Tryz.prog 10 [p.av, .lst 2 (l.map Profile.cells)] (.tup [.lst 4 ((foulsL p l).map Foul.cells), I 0]) := by
  have hl : 1 ≤ l.length ∧ l.length ≤ 6 ∧ ∀ x ∈ l, profB x = true := by simpa [profsB] using h
  obtain ⟨hl1, hl6, hpr⟩ := hl
  have hpa : l.all profB = true := by simpa using hpr
  have hcp := c_profiles l (by omega)
  rw [hpa] at hcp
  have hb := c_begin p hv
  have hcf := fun a x b y => c_fouls p a x b y hv
  generalize sheet p = sh at hb hcf
  refine PureCall.of_body Tryz.func10 rfl (by decide) (by simp [Tryz.ntmps10]) ?_
  simp only [Tryz.ntmps10, Tryz.results10]
  refine awp_sr rfl fun K hK => ?_
  simp -dsimp
  refine hK _ _ ?_; clear hK K
  refine awp_sr rfl fun K hK => ?_
  simp -dsimp
  refine callK_intro _ (hb) (by simp) ?_
  simp -dsimp
  refine hK _ _ ?_; clear hK K
  refine awp_seq_k fun K1 hK1 => ?_
  refine awp_sr rfl fun K hK => ?_
  simp -dsimp
  refine callK_may _ (fun hm => hcp) (by simp) ?_
  simp -dsimp
  refine hK _ _ ?_; clear hK K
  refine awp_cond rfl (fun hc0 => ?_) (fun hc0 => ?_)
  · skip
    skip
    simp at hc0; omega
  · skip
    skip
    refine awp_skip ?_
    simp only [thenA, inBlockA, reduceIte, Nat.reduceEqDiff, eq_self]
    refine hK1 _ _ ?_
    refine awp_prune [1, 2, 6] ?_
    simp only [prune, List.map_cons, List.map_nil, Go.AM.look, Nat.reduceEqDiff, reduceIte]
    refine awp_sr rfl fun K hK => ?_
    simp -dsimp
    refine hK _ _ ?_; clear hK K
    refine awp_seq_k fun K2 hK2 => ?_
    refine awp_sr rfl fun K hK => ?_
    simp -dsimp
    refine hK _ _ ?_; clear hK K
    refine awp_block ?_
    refine awp_prune [1, 2, 6, 8, 39, 40] ?_
    simp only [prune, List.map_cons, List.map_nil, Go.AM.look, Nat.reduceEqDiff, reduceIte]
    refine awp_loop_l [1, 2, 6, 39] (α := Nat) (fun a => [(40, I a), (8, .row 1 0 (fA p l a).length)]) (fun a => [some (.els 2 [p.cells]), some (.els 4 ((fA p l a).map Foul.cells))]) (fun a => a ≤ p.Rails.length) (fun a => p.Rails.length - a) 0 ?_ ?_ ?_
    · simp
    · exact (sub_nil 8 4 (by simp)).trans (sub_rb [some 0, some 1] rfl (by simp [fA]) (by simp [fA]))
    rintro a a1
    simp only [List.cons_append, List.nil_append, prune, List.map_cons, List.map_nil, Go.AM.look, Nat.reduceEqDiff, reduceIte]
    refine awp_sr rfl fun K hK => ?_
    simp -dsimp
    refine hK _ _ ?_; clear hK K
    refine awp_seq_k fun K3 hK3 => ?_
    refine awp_cond rfl (fun hc1 => ?_) (fun hc1 => ?_)
    · skip
      try simp at hc1
      have wa : IntKind.i64.wrap ((a : Int) + 1) = (a : Int) + 1 := wrap_in (by omega) (by omega)
      refine awp_skip ?_
      simp only [thenA, inBlockA, reduceIte, Nat.reduceEqDiff, eq_self]
      refine hK3 _ _ ?_
      refine awp_prune [1, 2, 6, 8, 39, 40] ?_
      simp only [prune, List.map_cons, List.map_nil, Go.AM.look, Nat.reduceEqDiff, reduceIte]
      refine awp_seq_k fun K4 hK4 => ?_
      refine awp_block ?_
      refine awp_sr rfl fun K hK => ?_
      simp -dsimp
      refine hK _ _ ?_; clear hK K
      refine awp_sr rfl fun K hK => ?_
      simp -dsimp
      refine hK _ _ ?_; clear hK K
      refine awp_block ?_
      refine awp_prune [1, 2, 6, 8, 9, 39, 40, 43, 44, 45] ?_
      simp only [prune, List.map_cons, List.map_nil, Go.AM.look, Nat.reduceEqDiff, reduceIte]
      refine awp_loop_l [1, 2, 6, 9, 39, 40, 43, 44] (α := Nat) (fun i => [(45, I i), (8, .row 1 0 (fA p l a ++ fI p l a i).length)]) (fun i => [some (.els 2 [p.cells]), some (.els 4 ((fA p l a ++ fI p l a i).map Foul.cells))]) (fun i => i ≤ l.length) (fun i => l.length - i) 0 ?_ ?_ ?_
      · simp
      · exact sub_rb [some 0, some 1] rfl (by simp [fI]) (by simp [fI])
      rintro i i1
      simp only [List.cons_append, List.nil_append, prune, List.map_cons, List.map_nil, Go.AM.look, Nat.reduceEqDiff, reduceIte]
      refine awp_sr rfl fun K hK => ?_
      simp -dsimp
      refine hK _ _ ?_; clear hK K
      refine awp_seq_k fun K5 hK5 => ?_
      refine awp_cond rfl (fun hc2 => ?_) (fun hc2 => ?_)
      · skip
        try simp at hc2
        have wi : IntKind.i64.wrap ((i : Int) + 1) = (i : Int) + 1 := wrap_in (by omega) (by omega)
        obtain ⟨x, hx⟩ : ∃ x, l[i]? = some x := ⟨_, List.getElem?_eq_getElem hc2⟩
        have px := hpr x (List.mem_of_getElem? hx)
        refine awp_skip ?_
        simp only [thenA, inBlockA, reduceIte, Nat.reduceEqDiff, eq_self]
        refine hK5 _ _ ?_
        refine awp_prune [1, 2, 6, 8, 9, 39, 40, 43, 44, 45] ?_
        simp only [prune, List.map_cons, List.map_nil, Go.AM.look, Nat.reduceEqDiff, reduceIte]
        refine awp_seq_k fun K6 hK6 => ?_
        refine awp_block ?_
        refine awp_sr rfl fun K hK => ?_
        simp -dsimp [hx]
        refine hK _ _ ?_; clear hK K
        refine awp_sr rfl fun K hK => ?_
        simp -dsimp
        refine hK _ _ ?_; clear hK K
        refine awp_block ?_
        refine awp_prune [1, 2, 6, 8, 9, 10, 11, 12, 39, 40, 43, 44, 45] ?_
        simp only [prune, List.map_cons, List.map_nil, Go.AM.look, Nat.reduceEqDiff, reduceIte]
        refine awp_loop_l [1, 2, 6, 9, 10, 11, 39, 40, 43, 44, 45] (α := Nat) (fun d => [(12, I ((a : Int) + d)), (8, .row 1 0 (fA p l a ++ fI p l a i ++ fB p l a i d).length)]) (fun d => [some (.els 2 [p.cells]), some (.els 4 ((fA p l a ++ fI p l a i ++ fB p l a i d).map Foul.cells)), some (.els 2 [x.cells])]) (fun d => d ≤ p.Rails.length - a) (fun d => p.Rails.length - a - d) 0 ?_ ?_ ?_
        · simp
        · exact sub_rb [some 0, some 1, some 2] rfl (by simp [fB]) (by simp [fB])
        rintro d d1
        simp only [List.cons_append, List.nil_append, prune, List.map_cons, List.map_nil, Go.AM.look, Nat.reduceEqDiff, reduceIte]
        refine awp_seq_k fun K7 hK7 => ?_
        refine awp_sr rfl fun K hK => ?_
        simp -dsimp
        refine hK _ _ ?_; clear hK K
        refine awp_cond rfl (fun hc3 => ?_) (fun hc3 => ?_)
        · skip
          try simp at hc3
          have wd : IntKind.i64.wrap ((a : Int) + d + 1) = (a : Int) + d + 1 := wrap_in (by omega) (by omega)
          refine awp_skip ?_
          simp only [thenA, inBlockA, reduceIte, Nat.reduceEqDiff, eq_self]
          refine hK7 _ _ ?_
          refine awp_prune [1, 2, 6, 8, 9, 10, 11, 12, 39, 40, 43, 44, 45] ?_
          simp only [prune, List.map_cons, List.map_nil, Go.AM.look, Nat.reduceEqDiff, reduceIte]
          refine awp_seq_k fun K8 hK8 => ?_
          refine awp_block ?_
          refine awp_sr rfl fun K hK => ?_
          simp -dsimp
          refine hK _ _ ?_; clear hK K
          refine awp_block ?_
          refine awp_prune [1, 2, 6, 8, 9, 10, 11, 12, 39, 40, 43, 44, 45, 58, 59, 60] ?_
          simp only [prune, List.map_cons, List.map_nil, Go.AM.look, Nat.reduceEqDiff, reduceIte]
          refine awp_loop_l [1, 2, 6, 9, 10, 11, 12, 39, 40, 43, 44, 45, 58, 59] (α := Nat) (fun k => [(60, I k), (8, .row 1 0 (fA p l a ++ fI p l a i ++ fB p l a i d ++ fK p l a i (a + d) k).length)]) (fun k => [some (.els 2 [p.cells]), some (.els 4 ((fA p l a ++ fI p l a i ++ fB p l a i d ++ fK p l a i (a + d) k).map Foul.cells)), some (.els 2 [x.cells])]) (fun k => k ≤ l.length) (fun k => l.length - k) 0 ?_ ?_ ?_
          · simp
          · exact sub_rb [some 0, some 1, some 2] rfl (by simp [fK]) (by simp [fK])
          rintro k k1
          have hbd := fouls_bd p l (N := 12) (a := a) (i := i) (d := d) (k := k) hN (by omega) hc1 i1 (by omega) k1
          have hsK := fK_succ p l a i (a + d) k
          have hsB := fB_succ p l a i d
          have hsI := fI_succ p l a i
          generalize hout : fA p l a ++ fI p l a i ++ fB p l a i d ++ fK p l a i (a + d) k = out at hbd ⊢
          have f1 : Fits (out.length + 1) 33 := fits_of (by omega) (by omega)
          have hot := fl_take out
          simp only [List.cons_append, List.nil_append, prune, List.map_cons, List.map_nil, Go.AM.look, Nat.reduceEqDiff, reduceIte]
          refine awp_sr rfl fun K hK => ?_
          simp -dsimp
          refine hK _ _ ?_; clear hK K
          refine awp_seq_k fun K9 hK9 => ?_
          refine awp_cond rfl (fun hc4 => ?_) (fun hc4 => ?_)
          · skip
            try simp at hc4
            have wk : IntKind.i64.wrap ((k : Int) + 1) = (k : Int) + 1 := wrap_in (by omega) (by omega)
            obtain ⟨y, hy⟩ : ∃ y, l[k]? = some y := ⟨_, List.getElem?_eq_getElem hc4⟩
            have py := hpr y (List.mem_of_getElem? hy)
            have hF : hitF p l a i (a + d) k = ((decide ((a : Int) < a + d) || decide (i ≤ k)) && railsB p a x ((a : Int) + d) y) := by unfold hitF; rw [pr_get hx, pr_get hy, Int.natCast_add, show decide (a < a + d) = decide ((a : Int) < a + d) from decide_eq_decide.2 (by omega)]
            refine awp_skip ?_
            simp only [thenA, inBlockA, reduceIte, Nat.reduceEqDiff, eq_self]
            refine hK9 _ _ ?_
            refine awp_prune [1, 2, 6, 8, 9, 10, 11, 12, 39, 40, 43, 44, 45, 58, 59, 60] ?_
            simp only [prune, List.map_cons, List.map_nil, Go.AM.look, Nat.reduceEqDiff, reduceIte]
            refine awp_seq_k fun K10 hK10 => ?_
            refine awp_block ?_
            refine awp_sr rfl fun K hK => ?_
            simp -dsimp [hy]
            refine hK _ _ ?_; clear hK K
            refine awp_sr rfl fun K hK => ?_
            simp -dsimp
            refine callK_may _ (fun hm => hcf a x ((a : Int) + d) y (inr_iff.2 (by omega)) (inr_iff.2 (by omega)) px py) (by simp) ?_
            simp -dsimp
            refine hK _ _ ?_; clear hK K
            refine awp_cond rfl (fun hc5 => ?_) (fun hc5 => ?_)
            · skip
              skip
              have hh : hitF p l a i (a + d) k = true := hF.trans hc5
              refine awp_r rfl fun K hK => ?_
              simp -dsimp [f1]
              refine hK _ _ ?_; clear hK K
              simp only [thenA, inBlockA, reduceIte, Nat.reduceEqDiff, eq_self]
              refine hK10 _ _ ?_
              refine awp_prune [1, 2, 6, 8, 9, 10, 11, 12, 39, 40, 43, 44, 45, 58, 59, 60] ?_
              simp only [prune, List.map_cons, List.map_nil, Go.AM.look, Nat.reduceEqDiff, reduceIte]
              refine awp_r rfl fun K hK => ?_
              simp -dsimp [wk]
              refine hK _ _ ?_; clear hK K
              simp only [thenA, inBlockA, reduceIte, Nat.reduceEqDiff, eq_self]
              exact ⟨k + 1, by omega, by omega, sub_rb [some 0, some 4, some 2] rfl (by simp [hsK, hh, ← hout]; omega) (by simp [hsK, hh, ← List.append_assoc, hout, hot])⟩
            · skip
              skip
              have hh : hitF p l a i (a + d) k = false := hF.trans hc5
              refine awp_skip ?_
              simp only [thenA, inBlockA, reduceIte, Nat.reduceEqDiff, eq_self]
              refine hK10 _ _ ?_
              refine awp_prune [1, 2, 6, 8, 9, 10, 11, 12, 39, 40, 43, 44, 45, 58, 59, 60] ?_
              simp only [prune, List.map_cons, List.map_nil, Go.AM.look, Nat.reduceEqDiff, reduceIte]
              refine awp_r rfl fun K hK => ?_
              simp -dsimp [wk]
              refine hK _ _ ?_; clear hK K
              simp only [thenA, inBlockA, reduceIte, Nat.reduceEqDiff, eq_self]
              exact ⟨k + 1, by omega, by omega, sub_rb [some 0, some 1, some 2] rfl (by simp only [hsK, hh, Bool.false_eq_true, if_false, List.append_nil, hout]; simp) (by simp only [hsK, hh, Bool.false_eq_true, if_false, List.append_nil, hout]; simp [hot])⟩
          · skip
            try simp at hc4
            have hke : k = l.length := by omega
            subst hke
            refine awp_exit ?_
            simp only [thenA, inBlockA, reduceIte, Nat.reduceEqDiff, eq_self]
            refine hK8 _ _ ?_
            refine awp_prune [1, 2, 6, 8, 9, 10, 11, 12, 39, 40, 43, 44, 45] ?_
            simp only [prune, List.map_cons, List.map_nil, Go.AM.look, Nat.reduceEqDiff, reduceIte]
            refine awp_r rfl fun K hK => ?_
            simp -dsimp [wd]
            refine hK _ _ ?_; clear hK K
            simp only [thenA, inBlockA, reduceIte, Nat.reduceEqDiff, eq_self]
            exact ⟨d + 1, by omega, by omega, sub_rb [some 0, some 1, some 2] rfl (by simp [hsB, ← hout, Int.add_assoc]) (by simp [hsB, ← hout])⟩
        · skip
          try simp at hc3
          have hde : d = p.Rails.length - a := by omega
          subst hde
          refine awp_exit ?_
          simp only [thenA, inBlockA, reduceIte, Nat.reduceEqDiff, eq_self]
          refine hK6 _ _ ?_
          refine awp_prune [1, 2, 6, 8, 9, 39, 40, 43, 44, 45] ?_
          simp only [prune, List.map_cons, List.map_nil, Go.AM.look, Nat.reduceEqDiff, reduceIte]
          refine awp_r rfl fun K hK => ?_
          simp -dsimp [wi]
          refine hK _ _ ?_; clear hK K
          simp only [thenA, inBlockA, reduceIte, Nat.reduceEqDiff, eq_self]
          exact ⟨i + 1, by omega, by omega, sub_rb [some 0, some 1] rfl (by simp [fI_succ]) (by simp [fI_succ])⟩
      · skip
        try simp at hc2
        have hie : i = l.length := by omega
        subst hie
        refine awp_exit ?_
        simp only [thenA, inBlockA, reduceIte, Nat.reduceEqDiff, eq_self]
        refine hK4 _ _ ?_
        refine awp_prune [1, 2, 6, 8, 39, 40] ?_
        simp only [prune, List.map_cons, List.map_nil, Go.AM.look, Nat.reduceEqDiff, reduceIte]
        refine awp_r rfl fun K hK => ?_
        simp -dsimp [wa]
        refine hK _ _ ?_; clear hK K
        simp only [thenA, inBlockA, reduceIte, Nat.reduceEqDiff, eq_self]
        exact ⟨a + 1, by omega, by omega, sub_rb [some 0, some 1] rfl (by simp [fA_succ]) (by simp [fA_succ])⟩
    · skip
      try simp at hc1
      have hae : a = p.Rails.length := by omega
      subst hae
      refine awp_exit ?_
      simp only [thenA, inBlockA, reduceIte, Nat.reduceEqDiff, eq_self]
      refine hK2 _ _ ?_
      refine awp_prune [8] ?_
      simp only [prune, List.map_cons, List.map_nil, Go.AM.look, Nat.reduceEqDiff, reduceIte]
      refine awp_sr rfl fun K hK => ?_
      simp -dsimp
      refine hK _ _ ?_; clear hK K
      exact awp_ret (by simp [foulsL, fl_take])
end Go.Tram
