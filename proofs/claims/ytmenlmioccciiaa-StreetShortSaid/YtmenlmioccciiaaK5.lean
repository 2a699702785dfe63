/- Walks: the specification's tours. -/
import Derived.Test.YtmenlmioccciiaaZV
namespace Go.Street
open Go.AM Go.Proofs
set_option maxRecDepth 10000
set_option maxHeartbeats 8000000
set_option linter.unusedVariables false
set_option linter.unusedSimpArgs false

/-- All tours that begin so, in their order. -/
def toursF (l : List Int) : Nat → List Int → List (List Int)
  | 0, b => if b.length = l.length then [b] else []
  | n + 1, b => if b.length = l.length then [b] else l.flatMap fun x => if x ∈ b then [] else toursF l n (b ++ [x])
theorem toursF_len (l : List Int) (h : l.length ≤ 6) : ∀ n b, (toursF l n b).length ≤ 6 ^ n
  | 0, b => by unfold toursF; split <;> simp
  | n + 1, b => by
    unfold toursF
    split
    · have := Nat.one_le_pow (n + 1) 6 (by omega)
      simpa using this
    · rw [List.length_flatMap]
      have gen : ∀ m : List Int, (m.map fun x => (if x ∈ b then [] else toursF l n (b ++ [x])).length).sum ≤ m.length * 6 ^ n := by
        intro m
        induction m with
        | nil => simp
        | cons x m ih =>
          simp only [List.map_cons, List.sum_cons, List.length_cons, Nat.add_mul, Nat.one_mul]
          have : (if x ∈ b then [] else toursF l n (b ++ [x])).length ≤ 6 ^ n := by
            split
            · simp
            · exact toursF_len l h n _
          omega
      have h1 := gen l
      have h2 := Nat.mul_le_mul_right (6 ^ n) h
      rw [Nat.pow_succ]
      omega
theorem flat_take {l : List Int} {f : Int → List (List Int)} {k : Nat} {x : Int} (h : l[k]? = some x) : (l.take (k + 1)).flatMap f = (l.take k).flatMap f ++ f x := by
  rw [List.take_add_one, h]; simp
theorem flat_le {l : List Int} {f : Int → List (List Int)} (k : Nat) : ((l.take k).flatMap f).length ≤ (l.flatMap f).length := by
  conv => rhs; rw [← List.take_append_drop k l]
  rw [List.flatMap_append, List.length_append]; omega

theorem toursF_full {l b : List Int} (he : b.length = l.length) : ∀ n, toursF l n b = [b]
  | 0 => by unfold toursF; rw [if_pos he]
  | n + 1 => by unfold toursF; rw [if_pos he]
theorem toursF_more {l b : List Int} (he : ¬ b.length = l.length) (n : Nat) : toursF l (n + 1) b = l.flatMap fun x => if x ∈ b then [] else toursF l n (b ++ [x]) := by
  rw [toursF, if_neg he]

theorem m_rtours (l : List Int) (hl : l.length ≤ 6) : ∀ (n : Nat) (b : List Int), n ≤ 6 → 1 ≤ b.length → b.length ≤ l.length → l.length ≤ b.length + n →
    MutCall Try.prog 57 [iL l, iL b] [] [] (.row 0 0 (toursF l n b).length) [] [some (.els 1 ((toursF l n b).map rCell))] := by
  intro n
  induction n with
  | zero =>
    intro b _ h1 h2 h3
    have he : b.length = l.length := by omega
    have hne : b ≠ [] := by intro e; rw [e] at h1; simp at h1
    have f1 : Fits b.length 9 := fits_of (by omega) (by omega)
    rw [toursF_full he]
    have hb2 : ((b.length : Int) == (l.length : Int)) = true := by rw [he]; simp
    refine MutCall.of_bodyG [] Try.func57 rfl (by decide) (by simp [Try.ntmps57]) rfl rfl ?_
    intro J hJ
    simp only [Try.ntmps57, Try.results57]
    refine gwp_sr rfl (by decide) rfl rfl fun K hK => ?_
    simp -dsimp
    refine hK _ _ ?_; clear hK K
    refine gwp_seq_k fun K1 hK1 => ?_
    refine gwp_sr rfl (by decide) rfl rfl fun K hK => ?_
    simp -dsimp
    refine hK _ _ ?_; clear hK K
    refine gwp_cond rfl (fun hc0 => ?_) (fun hc0 => ?_)
    · skip
      skip
      refine gwp_flag (by decide) ?_
      refine gwp_sr rfl (by decide) rfl rfl fun K hK => ?_
      simp -dsimp [f1, hne]
      refine hK _ _ ?_; clear hK K
      refine gwp_weak (gsub (sub_rf (T' := [(4, .row 0 0 1)]) (H' := [some (.els 1 [rCell b])]) [some 1] rfl (by simp) (by simp)) (by simp)) ?_
      exact gwp_ret ⟨[some 0], rfl, by simp, by simp, by simp, by simp [resP, tupOf]⟩
    · skip
      skip
      simp [hb2] at hc0
  | succ n ih =>
    intro b hn h1 h2 h3
    have hne : b ≠ [] := by intro e; rw [e] at h1; simp at h1
    have f1 : Fits b.length 9 := fits_of (by omega) (by omega)
    by_cases he : b.length = l.length
    · rw [toursF_full he]
      have hb2 : ((b.length : Int) == (l.length : Int)) = true := by rw [he]; simp
      refine MutCall.of_bodyG [] Try.func57 rfl (by decide) (by simp [Try.ntmps57]) rfl rfl ?_
      intro J hJ
      simp only [Try.ntmps57, Try.results57]
      refine gwp_sr rfl (by decide) rfl rfl fun K hK => ?_
      simp -dsimp
      refine hK _ _ ?_; clear hK K
      refine gwp_seq_k fun K1 hK1 => ?_
      refine gwp_sr rfl (by decide) rfl rfl fun K hK => ?_
      simp -dsimp
      refine hK _ _ ?_; clear hK K
      refine gwp_cond rfl (fun hc0 => ?_) (fun hc0 => ?_)
      · skip
        skip
        refine gwp_flag (by decide) ?_
        refine gwp_sr rfl (by decide) rfl rfl fun K hK => ?_
        simp -dsimp [f1, hne]
        refine hK _ _ ?_; clear hK K
        refine gwp_weak (gsub (sub_rf (T' := [(4, .row 0 0 1)]) (H' := [some (.els 1 [rCell b])]) [some 1] rfl (by simp) (by simp)) (by simp)) ?_
        exact gwp_ret ⟨[some 0], rfl, by simp, by simp, by simp, by simp [resP, tupOf]⟩
      · skip
        skip
        simp [hb2] at hc0
    · have hbnd := toursF_len l hl (n + 1) b
      have hb2 : ((b.length : Int) == (l.length : Int)) = false := by rw [beq_d]; exact decide_eq_false (by omega)
      have hp6 : 6 ^ (n + 1) ≤ 6 ^ 6 := Nat.pow_le_pow_right (by omega) hn
      rw [toursF_more he] at hbnd ⊢
      obtain ⟨F, hF⟩ : ∃ F : Int → List (List Int), F = fun x => if x ∈ b then [] else toursF l n (b ++ [x]) := ⟨_, rfl⟩
      rw [← hF] at hbnd ⊢
      obtain ⟨TT, hTT⟩ : ∃ T : Nat → List (List Int), T = fun k => (l.take k).flatMap F := ⟨_, rfl⟩
      have hT0 : TT 0 = [] := by rw [hTT]; rfl
      have hTl : l.flatMap F = TT l.length := by rw [hTT]; simp only; rw [List.take_of_length_le (Nat.le_refl _)]
      have hTs : ∀ k x, l[k]? = some x → TT (k + 1) = TT k ++ F x := by intro k x h; rw [hTT]; exact flat_take h
      have hTb : ∀ k, (TT k).length ≤ (TT l.length).length := by intro k; rw [← hTl, hTT]; exact flat_le k
      rw [hTl] at hbnd ⊢
      clear hTT
      refine MutCall.of_bodyG [] Try.func57 rfl (by decide) (by simp [Try.ntmps57]) rfl rfl ?_
      intro J hJ
      simp only [Try.ntmps57, Try.results57]
      refine gwp_sr rfl (by decide) rfl rfl fun K hK => ?_
      simp -dsimp
      refine hK _ _ ?_; clear hK K
      refine gwp_seq_k fun K1 hK1 => ?_
      refine gwp_sr rfl (by decide) rfl rfl fun K hK => ?_
      simp -dsimp
      refine hK _ _ ?_; clear hK K
      refine gwp_cond rfl (fun hc0 => ?_) (fun hc0 => ?_)
      · skip
        skip
        simp [hb2] at hc0
      · skip
        skip
        refine gwp_skip ?_
        simp only [thenA, inBlockA, reduceIte, Nat.reduceEqDiff, eq_self]
        refine hK1 _ _ ?_
        refine gwp_prune [0, 1] (Or.inr (by simp)) ?_
        simp only [prune, List.map_cons, List.map_nil, Go.AM.look, Nat.reduceEqDiff, reduceIte]
        refine gwp_sr rfl (by decide) rfl rfl fun K hK => ?_
        simp -dsimp
        refine hK _ _ ?_; clear hK K
        refine gwp_seq_k fun K2 hK2 => ?_
        refine gwp_sr rfl (by decide) rfl rfl fun K hK => ?_
        simp -dsimp
        refine hK _ _ ?_; clear hK K
        refine gwp_block ?_
        refine gwp_prune [0, 1, 5, 6] (Or.inr (by simp)) ?_
        simp only [prune, List.map_cons, List.map_nil, Go.AM.look, Nat.reduceEqDiff, reduceIte]
        refine gwp_loop_l [0, 1] (α := Nat) (fun k => [(5, .row 0 0 (TT k).length), (6, I k)]) (fun k => [some (.els 1 ((TT k).map rCell))]) (fun k => k ≤ l.length) (fun k => l.length - k) 0 ?_ ?_ ?_
        · exact Nat.zero_le _
        · exact gsub ((sub_nil 5 1 (by simp)).trans (sub_rb [some 0] rfl (by simp [hT0]) (by simp [hT0]))) (by simp)
        rintro k k1
        simp only [List.cons_append, List.nil_append, prune, List.map_cons, List.map_nil, Go.AM.look, Nat.reduceEqDiff, reduceIte]
        refine gwp_seq_k fun K3 hK3 => ?_
        refine gwp_sr rfl (by decide) rfl rfl fun K hK => ?_
        simp -dsimp
        refine hK _ _ ?_; clear hK K
        refine gwp_cond rfl (fun hc1 => ?_) (fun hc1 => ?_)
        · skip
          skip
          have hkl : k < l.length := by simpa using hc1
          obtain ⟨x, hx⟩ : ∃ x, l[k]? = some x := ⟨_, List.getElem?_eq_getElem hkl⟩
          have wk : IntKind.i64.wrap ((k : Int) + 1) = (k : Int) + 1 := wrap_in (by omega) (by omega)
          have hft := hTs k x hx
          have hfl := hTb (k + 1)
          rw [hft, List.length_append] at hfl
          generalize TT k = T at hft hfl ⊢
          have tT : List.take T.length (T.map rCell) = T.map rCell := List.take_of_length_le (by simp)
          refine gwp_skip ?_
          simp only [thenA, inBlockA, reduceIte, Nat.reduceEqDiff, eq_self]
          refine hK3 _ _ ?_
          refine gwp_prune [0, 1, 5, 6] (Or.inr (by simp)) ?_
          simp only [prune, List.map_cons, List.map_nil, Go.AM.look, Nat.reduceEqDiff, reduceIte]
          refine gwp_seq_k fun K4 hK4 => ?_
          refine gwp_block ?_
          refine gwp_sr rfl (by decide) rfl rfl fun K hK => ?_
          simp -dsimp [hx]
          refine callK_intro _ (c_rHas b x (by omega)) (by simp) ?_
          simp -dsimp [hx]
          refine hK _ _ ?_; clear hK K
          refine gwp_cond rfl (fun hc2 => ?_) (fun hc2 => ?_)
          · skip
            try simp at hc2
            have hFx : F x = toursF l n (b ++ [x]) := by rw [hF]; simp [hc2]
            have hrec := ih (b ++ [x]) (by omega) (by simp) (by simp; omega) (by simp; omega)
            rw [← hFx] at hrec
            have f2 : Fits (b.length + 1) 9 := fits_of (by omega) (by omega)
            have f3 : Fits (T.length + (F x).length) 25 := fits_of (by omega) (by omega)
            have hrec2 : MutCall Try.prog 57 [iL l, .row 0 0 (b.length + 1)] [] [some (.els 1 ((b ++ [x]).map nCell))] (.row 0 0 (F x).length) [] [some (.els 1 ((F x).map rCell))] := by
              refine MutCall.eat 3 0 rfl ?_ ?_ hrec
              · simp [List.range, List.range.loop]
              · have e : List.take (b.length + 1) (b.map nCell ++ [[I x]]) = b.map nCell ++ [[I x]] := List.take_of_length_le (by simp)
                simp [List.range, List.range.loop, e]
            refine gwp_draw mixed rfl (by decide) rfl rfl fun K hK => ?_
            simp -dsimp [hx, f1, f2, f3, hne, tT]
            refine callK_mut [] [2] [none, none, none, some 0] (hrec2) (by decide) rfl (by simp) (by simp) rfl (by simp) ?_
            simp -dsimp [hx, f1, f2, f3, hne, tT]
            refine hK _ _ _ (by decide +kernel) ?_; clear hK K
            simp only [thenA, inBlockA, reduceIte, Nat.reduceEqDiff, eq_self]
            refine hK4 _ _ ?_
            refine gwp_prune [0, 1, 5, 6] (Or.inr (by simp)) ?_
            simp only [prune, List.map_cons, List.map_nil, Go.AM.look, Nat.reduceEqDiff, reduceIte]
            refine gwp_r rfl (by decide) rfl rfl fun K hK => ?_
            simp -dsimp [wk]
            refine hK _ _ ?_; clear hK K
            simp only [thenA, inBlockA, reduceIte, Nat.reduceEqDiff, eq_self]
            exact ⟨k + 1, by omega, by omega, gsub (sub_rb [some 4] rfl (by simp [hft]) (by simp [hft])) (by simp)⟩
          · skip
            try simp at hc2
            refine gwp_skip ?_
            simp only [thenA, inBlockA, reduceIte, Nat.reduceEqDiff, eq_self]
            refine hK4 _ _ ?_
            refine gwp_prune [0, 1, 5, 6] (Or.inr (by simp)) ?_
            simp only [prune, List.map_cons, List.map_nil, Go.AM.look, Nat.reduceEqDiff, reduceIte]
            refine gwp_r rfl (by decide) rfl rfl fun K hK => ?_
            simp -dsimp [wk]
            refine hK _ _ ?_; clear hK K
            simp only [thenA, inBlockA, reduceIte, Nat.reduceEqDiff, eq_self]
            have hFx : F x = [] := by rw [hF]; simp [hc2]
            exact ⟨k + 1, by omega, by omega, gsub (sub_rb [some 0] rfl (by simp [hft, hFx]) (by simp [hft, hFx])) (by simp)⟩
        · skip
          skip
          have hkl : ¬ k < l.length := by simpa using hc1
          have hke : k = l.length := by omega
          subst hke
          refine gwp_exit ?_
          simp only [thenA, inBlockA, reduceIte, Nat.reduceEqDiff, eq_self]
          refine hK2 _ _ ?_
          refine gwp_prune [5] (Or.inr (by simp)) ?_
          simp only [prune, List.map_cons, List.map_nil, Go.AM.look, Nat.reduceEqDiff, reduceIte]
          refine gwp_sr rfl (by decide) rfl rfl fun K hK => ?_
          simp -dsimp
          refine hK _ _ ?_; clear hK K
          exact gwp_ret ⟨[some 0], rfl, by simp, by simp, by simp, by simp [resP, tupOf]⟩
end Go.Street
