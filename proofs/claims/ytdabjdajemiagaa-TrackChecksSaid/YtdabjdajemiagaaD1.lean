/- Walks: what has been found, the best one first (a heap behind an interface). -/
import Derived.Test.YtdabjdajemiagaaY2
import Derived.Test.YtdabjdajemiagaaW4
import Derived.Test.YtdabjdajemiagaaW11
namespace Go.Tram
open Go.AM Go.Proofs
set_option maxRecDepth 10000
set_option maxHeartbeats 4000000
set_option linter.unusedVariables false
set_option linter.unusedSimpArgs false

structure Fnd where
  Move : Int
  Len : Int
  Mv : Int
  deriving DecidableEq, Inhabited
@[simp] def Fnd.cells (x : Fnd) : List AV := [I x.Move, I x.Len, I x.Mv]
abbrev Fnd.av (x : Fnd) : AV := .agg x.cells
def ltF (a b : Fnd) : Bool := decide (a.Len < b.Len) || (decide (a.Len = b.Len) && decide (a.Mv < b.Mv))

section
variable {α : Type} [Inhabited α] (lt : α → α → Bool)
def gd (l : List α) (i : Nat) : α := l.getD i default
def swpG (l : List α) (i j : Nat) : List α := (l.set i (gd l j)).set j (gd l i)
def upL : Nat → List α → Nat → List α
  | 0, l, _ => l
  | k + 1, l, j => if (j - 1) / 2 = j ∨ lt (gd l j) (gd l ((j - 1) / 2)) = false then l else upL k (swpG l ((j - 1) / 2) j) ((j - 1) / 2)
def kidL (l : List α) (i n : Nat) : Nat := if 2 * i + 2 < n ∧ lt (gd l (2 * i + 2)) (gd l (2 * i + 1)) = true then 2 * i + 2 else 2 * i + 1
def downL : Nat → List α → Nat → Nat → List α
  | 0, l, _, _ => l
  | k + 1, l, i, n => if n ≤ 2 * i + 1 ∨ lt (gd l (kidL lt l i n)) (gd l i) = false then l else downL k (swpG l i (kidL lt l i n)) (kidL lt l i n) n
theorem swpG_len (l : List α) (i j : Nat) : (swpG l i j).length = l.length := by simp [swpG]
theorem upL_len : ∀ (k : Nat) (l : List α) (j : Nat), (upL lt k l j).length = l.length
  | 0, l, j => rfl
  | k + 1, l, j => by
    simp only [upL]
    split
    · rfl
    · rw [upL_len k, swpG_len]
theorem downL_len : ∀ (k : Nat) (l : List α) (i n : Nat), (downL lt k l i n).length = l.length
  | 0, l, i, n => rfl
  | k + 1, l, i, n => by
    simp only [downL]
    split
    · rfl
    · rw [downL_len k, swpG_len]
def pushL (l : List α) (x : α) : List α := upL lt (l.length + 1) (l ++ [x]) l.length
def popL (l : List α) : List α := downL lt l.length (swpG l 0 (l.length - 1)) 0 (l.length - 1)
end

@[simp] theorem mtl_Push : mtOf Try.prog 114 "Push" = some (111, none) := by kernel_rfl
@[simp] theorem mtl_Pop : mtOf Try.prog 114 "Pop" = some (119, none) := by kernel_rfl
@[simp] theorem mtl_Len : mtOf Try.prog 114 "Len" = some (109, (some 118)) := by kernel_rfl
@[simp] theorem mtl_Less : mtOf Try.prog 114 "Less" = some (110, (some 118)) := by kernel_rfl
@[simp] theorem mtl_Swap : mtOf Try.prog 114 "Swap" = some (112, (some 118)) := by kernel_rfl
@[simp] theorem mtl_best : mtOf Try.prog 114 "tramline/track.best" = some (113, none) := by kernel_rfl

theorem flat_f (l : List Fnd) : (l.map Fnd.cells).all (fun e => e.all flatC) = true := by simp [flatC]
@[simp high] theorem flat_f_ren (l : List Fnd) (g : List (Option Nat)) (n : Nat) : (l.map Fnd.cells).map (fun e => e.map (renAV g n)) = l.map Fnd.cells := map_flatC (fun x h => flatC_ren h g n) (flat_f l)
@[simp high] theorem flat_f_renF (l : List Fnd) (H : Nat → Option ARow) (g : List (Option Nat)) (n : Nat) : (l.map Fnd.cells).map (fun e => e.map (renF H g n)) = l.map Fnd.cells := map_flatC (fun x h => flatC_renF h H g n) (flat_f l)
@[simp high] theorem flat_f_frzP (l : List Fnd) (H : Hp) (n : Nat) : (l.map Fnd.cells).map (fun e => e.map (frzP H n)) = l.map Fnd.cells := map_flatC (fun x h => flatC_frzP h H n) (flat_f l)
@[simp high] theorem flat_f_plain (l : List Fnd) : plainEls (l.map Fnd.cells) = true := plain_flat (flat_f l)

theorem c_lLen (l : List Fnd) : PureCall Try.prog 109 [.lst 3 (l.map Fnd.cells)] (I l.length) := by
  refine PureCall.of_body Try.func109 rfl (by decide) (by simp [Try.ntmps109]) ?_
  simp only [Try.ntmps109, Try.results109]
  refine awp_sr rfl fun K hK => ?_
  simp -dsimp
  refine hK _ _ ?_; clear hK K
  refine awp_sr rfl fun K hK => ?_
  simp -dsimp
  refine hK _ _ ?_; clear hK K
  exact awp_ret (by simp)

theorem c_lLess (l : List Fnd) (i j : Nat) (a b : Fnd) (hi : l[i]? = some a) (hj : l[j]? = some b) : PureCall Try.prog 110 [.lst 3 (l.map Fnd.cells), I i, I j] (Bo (ltF a b)) := by
  have hor := c_Or [cmpI a.Len b.Len, cmpI a.Mv b.Mv] (by simp)
  simp only [List.map_cons, List.map_nil] at hor
  refine PureCall.of_body Try.func110 rfl (by decide) (by simp [Try.ntmps110]) ?_
  simp only [Try.ntmps110, Try.results110]
  refine awp_sr rfl fun K hK => ?_
  simp -dsimp
  refine hK _ _ ?_; clear hK K
  refine awp_sd mixed rfl fun K hK => ?_
  simp -dsimp [hi, hj]
  refine callK_intro _ (c_Compare a.Len b.Len) (by simp) ?_
  simp -dsimp [hi, hj]
  refine callK_intro _ (c_Compare a.Mv b.Mv) (by simp) ?_
  simp -dsimp [hi, hj]
  refine callK_intro _ (hor) (by simp) ?_
  simp -dsimp [hi, hj]
  refine hK _ _ _ (by decide +kernel) ?_; clear hK K
  refine awp_ret ?_
  simp
  simp only [ltF, orI, cmpI]; rcases Int.lt_trichotomy a.Len b.Len with h | h | h <;> rcases Int.lt_trichotomy a.Mv b.Mv with h' | h' | h' <;> (try simp [h, h']) <;> (repeat' split) <;> (try simp_all) <;> omega

theorem m_lSwap (l : List Fnd) (n i j : Nat) (a b : Fnd) (hi : l[i]? = some a) (hj : l[j]? = some b) (hin : i < n) (hjn : j < n) (hn : n ≤ l.length) : MutCall Try.prog 112 [.row 0 0 n, I i, I j] [some (.els 3 (l.map Fnd.cells))] [] (.tup []) [some (.els 3 ((swpG l i j).map Fnd.cells))] [] := by
  have hs : (((l.map Fnd.cells).set i b.cells).set j a.cells) = (swpG l i j).map Fnd.cells := by simp [swpG, List.map_set, gd, List.getD_eq_getElem?_getD, hi, hj]
  have hj2 : ((l.map Fnd.cells).set i [I b.Move, I b.Len, I b.Mv])[j]? = some [I b.Move, I b.Len, I b.Mv] := by
    rw [List.getElem?_set]
    obtain ⟨hjl, _⟩ := List.getElem?_eq_some_iff.1 hj
    obtain ⟨hil, _⟩ := List.getElem?_eq_some_iff.1 hi
    split
    · rw [if_pos (by simpa using hil)]
    · rw [List.getElem?_map, hj]; rfl
  simp only [Fnd.cells] at hs
  refine MutCall.of_bodyG [0] Try.func112 rfl (by decide) (by simp [Try.ntmps112]) rfl rfl ?_
  intro J hJ
  simp only [Try.ntmps112, Try.results112]
  refine gwp_draw mixed rfl (by decide) rfl rfl fun K hK => ?_
  simp -dsimp [hi, hj, hin, hjn, hj2]
  refine hK _ _ _ (by decide +kernel) ?_; clear hK K
  try simp only [thenA, inBlockA, reduceIte, Nat.reduceEqDiff, eq_self]
  exact ⟨[some 0], rfl, by simp, by simp [← hs], by simp; omega, by simp [resP, tupOf]⟩
theorem getD_at {α : Type} [Inhabited α] {l : List α} {i : Nat} (h : i < l.length) : l[i]? = some (gd l i) := by unfold gd; rw [List.getD_eq_getElem?_getD, List.getElem?_eq_getElem h]; rfl
theorem c_lLess' (l : List Fnd) (i j : Nat) (x y : Int) (hx : x = i) (hy : y = j) (hi : i < l.length) (hj : j < l.length) : PureCall Try.prog 110 [.lst 3 (l.map Fnd.cells), I x, I y] (Bo (ltF (gd l i) (gd l j))) := by
  subst hx hy; exact c_lLess l i j _ _ (getD_at hi) (getD_at hj)
theorem c_lLessT (l : List Fnd) (n i j : Nat) (x y : Int) (hx : x = i) (hy : y = j) (hn : n ≤ l.length) (hi : i < n) (hj : j < n) : PureCall Try.prog 110 [if n ≤ l.length then .lst 3 ((l.map Fnd.cells).take n) else .any, I x, I y] (Bo (ltF (gd l i) (gd l j))) := by
  have h := c_lLess (l.take n) i j (gd l i) (gd l j) (by rw [List.getElem?_take, if_pos hi]; exact getD_at (by omega)) (by rw [List.getElem?_take, if_pos hj]; exact getD_at (by omega))
  subst hx hy
  rw [if_pos hn, ← List.map_take]
  exact h
theorem c_lLenT (l : List Fnd) (n : Nat) (hn : n ≤ l.length) : PureCall Try.prog 109 [if n ≤ l.length then .lst 3 ((l.map Fnd.cells).take n) else .any] (I n) := by
  have h := c_lLen (l.take n)
  rw [List.length_take, Nat.min_eq_left hn] at h
  rw [if_pos hn, ← List.map_take]
  exact h
theorem m_lSwap' (l : List Fnd) (n i j : Nat) (x y : Int) (hx : x = i) (hy : y = j) (hin : i < n) (hjn : j < n) (hn : n ≤ l.length) : MutCall Try.prog 112 [.row 0 0 n, I x, I y] [some (.els 3 (l.map Fnd.cells))] [] (.tup []) [some (.els 3 ((swpG l i j).map Fnd.cells))] [] := by
  subst hx hy; exact m_lSwap l n i j _ _ (getD_at (by omega)) (getD_at (by omega)) hin hjn hn

abbrev qAV : AV := .ifc 114 (.ptr 0 0 0)
theorem m_up (l : List Fnd) (n j k : Nat) (hj : j < n) (hn : n ≤ l.length) (hk : j < k) (hb : l.length ≤ 1000000) :
    MutCall Try.prog 72 [qAV, I j] [some (.els 1 [[.row 1 0 n]])] [some (.els 3 (l.map Fnd.cells))] (.tup []) [some (.els 1 [[.row 1 0 n]])] [some (.els 3 ((upL ltF k l j).map Fnd.cells))] := by
  refine MutCall.of_bodyG [0] Try.func72 rfl (by decide) (by simp [Try.ntmps72]) rfl rfl ?_
  intro J hJ
  simp only [Try.ntmps72, Try.results72]
  refine gwp_block ?_
  refine gwp_prune [0, 1] (Or.inr (by simp)) ?_
  simp only [prune, List.map_cons, List.map_nil, Go.AM.look, Nat.reduceEqDiff, reduceIte]
  refine gwp_loop_l [0] (α := List Fnd × Nat × Nat) (fun s => [(1, I s.2.1)]) (fun s => [some (.els 1 [[.row 1 0 n]]), some (.els 3 (s.1.map Fnd.cells))]) (fun s => s.1.length = l.length ∧ s.2.1 < n ∧ s.2.1 < s.2.2 ∧ upL ltF s.2.2 s.1 s.2.1 = upL ltF k l j) (fun s => s.2.2) (l, j, k) ?_ ?_ ?_
  · exact ⟨rfl, hj, hk, rfl⟩
  · exact gsub (sub_same (by simp)) (by simp)
  rintro ⟨l', j', k'⟩ ⟨i1, i2, i3, i4⟩
  simp only at i1 i2 i3 i4 ⊢
  obtain ⟨k', rfl⟩ : ∃ q, k' = q + 1 := ⟨k' - 1, by omega⟩
  have w1 : IntKind.i64.wrap ((j' : Int) - 1) = (j' : Int) - 1 := wrap_in (by omega) (by omega)
  have w2 : IntKind.i64.wrap (((j' : Int) - 1).tdiv 2) = (((j' - 1) / 2 : Nat) : Int) := by rcases j' with _ | q; rfl; rw [show (((q + 1 : Nat) : Int) - 1) = (q : Int) by omega, Int.tdiv_eq_ediv_of_nonneg (by omega), wrap_in (by omega) (by omega)]; simp
  obtain ⟨i', hi'⟩ : ∃ i', i' = (j' - 1) / 2 := ⟨_, rfl⟩
  rw [← hi'] at w2
  have hil : i' ≤ j' := by omega
  simp only [upL, ← hi'] at i4
  simp only [List.cons_append, List.nil_append, prune, List.map_cons, List.map_nil, Go.AM.look, Nat.reduceEqDiff, reduceIte]
  refine gwp_block ?_
  refine gwp_sr rfl (by decide) rfl rfl fun K hK => ?_
  simp -dsimp [w1, w2]
  refine hK _ _ ?_; clear hK K
  refine gwp_seq_k fun K1 hK1 => ?_
  refine gwp_sr rfl (by decide) rfl rfl fun K hK => ?_
  simp -dsimp
  refine callK_may _ (fun hm => c_lLessT l' n j' i' _ _ rfl rfl (by omega) (by omega) (by omega)) (by simp) ?_
  simp -dsimp
  refine hK _ _ ?_; clear hK K
  refine gwp_cond rfl (fun hc0 => ?_) (fun hc0 => ?_)
  · skip
    skip
    have h0 : i' = j' ∨ ltF (gd l' j') (gd l' i') = false := by simp at hc0; rcases hc0 with h | h; exact Or.inl (by omega); exact Or.inr h
    have hfin : upL ltF k l j = l' := by rw [← i4, if_pos h0]
    refine gwp_exit ?_
    try simp only [thenA, inBlockA, reduceIte, Nat.reduceEqDiff, eq_self]
    exact ⟨[some 0, some 1], rfl, by simp, by simp [hfin], by simp, by simp [resP, tupOf]⟩
  · skip
    skip
    have hne : ¬ (i' = j' ∨ ltF (gd l' j') (gd l' i') = false) := by rintro (h | h); simp [h] at hc0; rw [h] at hc0; simp at hc0
    have hne1 : i' ≠ j' := fun h => hne (Or.inl h)
    rw [if_neg hne] at i4
    refine gwp_skip ?_
    simp only [thenA, inBlockA, reduceIte, Nat.reduceEqDiff, eq_self]
    refine hK1 _ _ ?_
    refine gwp_prune [0, 1, 4] (Or.inr (by simp)) ?_
    simp only [prune, List.map_cons, List.map_nil, Go.AM.look, Nat.reduceEqDiff, reduceIte]
    refine gwp_sr rfl (by decide) rfl rfl fun K hK => ?_
    simp -dsimp
    refine callK_mut [1] [] [none, some 0] (m_lSwap' l' n i' j' _ _ rfl rfl (by omega) (by omega) (by omega)) (by decide) rfl (by simp) (by simp) rfl (by simp) ?_
    simp -dsimp
    refine hK _ _ ?_; clear hK K
    refine gwp_r rfl (by decide) rfl rfl fun K hK => ?_
    simp -dsimp
    refine hK _ _ ?_; clear hK K
    simp only [thenA, inBlockA, reduceIte, Nat.reduceEqDiff, eq_self]
    exact ⟨(swpG l' i' j', i', k'), ⟨by rw [swpG_len]; exact i1, by show i' < n; omega, by show i' < k'; omega, i4⟩, by simp, gsub (sub_rb [some 0, some 1] rfl (by simp) (by simp)) (by simp)⟩
def downI : Nat → List Fnd → Nat → Nat → Nat
  | 0, _, i, _ => i
  | k + 1, l, i, n => if n ≤ 2 * i + 1 ∨ ltF (gd l (kidL ltF l i n)) (gd l i) = false then i else downI k (swpG l i (kidL ltF l i n)) (kidL ltF l i n) n
theorem m_down (l : List Fnd) (n' n i k : Nat) (hn : n ≤ n') (hn' : n' ≤ l.length) (hi : i < n') (hk : n < i + k) (hb : l.length ≤ 1000000) :
    ∃ b, MutCall Try.prog 117 [qAV, I i, I n] [some (.els 1 [[.row 1 0 n']])] [some (.els 3 (l.map Fnd.cells))] (Bo b) [some (.els 1 [[.row 1 0 n']])] [some (.els 3 ((downL ltF k l i n).map Fnd.cells))] := by
  refine ⟨decide (i < downI k l i n), ?_⟩
  refine MutCall.of_bodyG [0] Try.func117 rfl (by decide) (by simp [Try.ntmps117]) rfl rfl ?_
  intro J hJ
  simp only [Try.ntmps117, Try.results117]
  refine gwp_sr rfl (by decide) rfl rfl fun K hK => ?_
  simp -dsimp
  refine hK _ _ ?_; clear hK K
  refine gwp_sr rfl (by decide) rfl rfl fun K hK => ?_
  simp -dsimp
  refine hK _ _ ?_; clear hK K
  refine gwp_seq_k fun K1 hK1 => ?_
  refine gwp_block ?_
  refine gwp_prune [0, 1, 2, 7] (Or.inr (by simp)) ?_
  simp only [prune, List.map_cons, List.map_nil, Go.AM.look, Nat.reduceEqDiff, reduceIte]
  refine gwp_loop_l [0, 1, 2] (α := List Fnd × Nat × Nat) (fun s => [(7, I s.2.1)]) (fun s => [some (.els 1 [[.row 1 0 n']]), some (.els 3 (s.1.map Fnd.cells))]) (fun s => s.1.length = l.length ∧ s.2.1 < n' ∧ n < s.2.1 + s.2.2 ∧ downL ltF s.2.2 s.1 s.2.1 n = downL ltF k l i n ∧ downI s.2.2 s.1 s.2.1 n = downI k l i n) (fun s => s.2.2) (l, i, k) ?_ ?_ ?_
  · exact ⟨rfl, hi, hk, rfl, rfl⟩
  · exact gsub (sub_same (by simp)) (by simp)
  rintro ⟨l', i', k'⟩ ⟨i1, i2, i3, i4, i5⟩
  simp only at i1 i2 i3 i4 i5 ⊢
  have w0 : IntKind.i64.wrap (2 * (i' : Int)) = 2 * (i' : Int) := wrap_in (by omega) (by omega)
  have w1 : IntKind.i64.wrap (2 * (i' : Int) + 1) = 2 * (i' : Int) + 1 := wrap_in (by omega) (by omega)
  have w2 : IntKind.i64.wrap (2 * (i' : Int) + 1 + 1) = 2 * (i' : Int) + 2 := by rw [show 2 * (i' : Int) + 1 + 1 = 2 * (i' : Int) + 2 by omega]; exact wrap_in (by omega) (by omega)
  simp only [List.cons_append, List.nil_append, prune, List.map_cons, List.map_nil, Go.AM.look, Nat.reduceEqDiff, reduceIte]
  refine gwp_block ?_
  refine gwp_sr rfl (by decide) rfl rfl fun K hK => ?_
  simp -dsimp [w0, w1]
  refine hK _ _ ?_; clear hK K
  refine gwp_seq_k fun K2 hK2 => ?_
  refine gwp_sr rfl (by decide) rfl rfl fun K hK => ?_
  simp -dsimp
  refine hK _ _ ?_; clear hK K
  refine gwp_cond rfl (fun hc0 => ?_) (fun hc0 => ?_)
  · skip
    skip
    have h0 : n ≤ 2 * i' + 1 := by simp at hc0; omega
    have hfin : downL ltF k l i n = l' ∧ downI k l i n = i' := by rcases k' with _ | k'; exact ⟨i4.symm, i5.symm⟩; simp only [downL, downI, if_pos (Or.inl h0 : n ≤ 2 * i' + 1 ∨ _)] at i4 i5; exact ⟨i4.symm, i5.symm⟩
    refine gwp_exit ?_
    simp only [thenA, inBlockA, reduceIte, Nat.reduceEqDiff, eq_self]
    refine hK1 _ _ ?_
    refine gwp_prune [0, 1, 7] (Or.inr (by simp)) ?_
    simp only [prune, List.map_cons, List.map_nil, Go.AM.look, Nat.reduceEqDiff, reduceIte]
    refine gwp_sr rfl (by decide) rfl rfl fun K hK => ?_
    simp -dsimp
    refine hK _ _ ?_; clear hK K
    exact gwp_ret ⟨[some 0, some 1], rfl, by simp, by simp [hfin.1], by simp, by simp [resP, tupOf, hfin.2]⟩
  · skip
    skip
    have h0 : 2 * i' + 1 < n := by simp at hc0; omega
    obtain ⟨k', rfl⟩ : ∃ q, k' = q + 1 := ⟨k' - 1, by omega⟩
    simp only [downL, downI] at i4 i5
    have hkid : kidL ltF l' i' n = if 2 * i' + 2 < n ∧ ltF (gd l' (2 * i' + 2)) (gd l' (2 * i' + 1)) = true then 2 * i' + 2 else 2 * i' + 1 := rfl
    refine gwp_skip ?_
    simp only [thenA, inBlockA, reduceIte, Nat.reduceEqDiff, eq_self]
    refine hK2 _ _ ?_
    refine gwp_prune [0, 1, 2, 7, 8] (Or.inr (by simp)) ?_
    simp only [prune, List.map_cons, List.map_nil, Go.AM.look, Nat.reduceEqDiff, reduceIte]
    refine gwp_sr rfl (by decide) rfl rfl fun K hK => ?_
    simp -dsimp
    refine hK _ _ ?_; clear hK K
    refine gwp_seq_k fun K3 hK3 => ?_
    refine gwp_sr rfl (by decide) rfl rfl fun K hK => ?_
    simp -dsimp [w2]
    refine hK _ _ ?_; clear hK K
    refine gwp_sr rfl (by decide) rfl rfl fun K hK => ?_
    simp -dsimp
    refine callK_may _ (fun hm => c_lLessT l' n' (2 * i' + 2) (2 * i' + 1) _ _ (by omega) (by omega) (by omega) (by simp at hm; omega) (by omega)) (by simp) ?_
    simp -dsimp
    refine hK _ _ ?_; clear hK K
    refine gwp_cond rfl (fun hc1 => ?_) (fun hc1 => ?_)
    · skip
      skip
      have h1 : 2 * i' + 2 < n ∧ ltF (gd l' (2 * i' + 2)) (gd l' (2 * i' + 1)) = true := by rw [Bool.and_eq_true, decide_eq_true_eq] at hc1; exact ⟨by omega, hc1.2⟩
      rw [if_pos h1] at hkid
      refine gwp_r rfl (by decide) rfl rfl fun K hK => ?_
      simp -dsimp
      refine hK _ _ ?_; clear hK K
      simp only [thenA, inBlockA, reduceIte, Nat.reduceEqDiff, eq_self]
      refine hK3 _ _ ?_
      refine gwp_prune [0, 1, 2, 7, 9] (Or.inr (by simp)) ?_
      simp only [prune, List.map_cons, List.map_nil, Go.AM.look, Nat.reduceEqDiff, reduceIte]
      refine gwp_seq_k fun K4 hK4 => ?_
      refine gwp_sr rfl (by decide) rfl rfl fun K hK => ?_
      simp -dsimp
      refine callK_intro _ (c_lLessT l' n' (2 * i' + 2) i' _ _ (by omega) rfl (by omega) (by omega) (by omega)) (by simp) ?_
      simp -dsimp
      refine hK _ _ ?_; clear hK K
      refine gwp_cond rfl (fun hc2 => ?_) (fun hc2 => ?_)
      · skip
        skip
        rw [hkid] at i4 i5
        simp only [Bool.not_eq_true'] at hc2
        rw [if_pos (Or.inr hc2)] at i4 i5
        have hfin : downL ltF k l i n = l' ∧ downI k l i n = i' := ⟨i4.symm, i5.symm⟩
        refine gwp_exit ?_
        simp only [thenA, inBlockA, reduceIte, Nat.reduceEqDiff, eq_self]
        refine hK1 _ _ ?_
        refine gwp_prune [0, 1, 7] (Or.inr (by simp)) ?_
        simp only [prune, List.map_cons, List.map_nil, Go.AM.look, Nat.reduceEqDiff, reduceIte]
        refine gwp_sr rfl (by decide) rfl rfl fun K hK => ?_
        simp -dsimp
        refine hK _ _ ?_; clear hK K
        exact gwp_ret ⟨[some 0, some 1], rfl, by simp, by simp [hfin.1], by simp, by simp [resP, tupOf, hfin.2]⟩
      · skip
        skip
        rw [hkid] at i4 i5
        simp only [Bool.not_eq_false'] at hc2
        rw [hc2, if_neg (by simp; omega)] at i4 i5
        refine gwp_skip ?_
        simp only [thenA, inBlockA, reduceIte, Nat.reduceEqDiff, eq_self]
        refine hK4 _ _ ?_
        refine gwp_prune [0, 1, 2, 7, 9] (Or.inr (by simp)) ?_
        simp only [prune, List.map_cons, List.map_nil, Go.AM.look, Nat.reduceEqDiff, reduceIte]
        refine gwp_sr rfl (by decide) rfl rfl fun K hK => ?_
        simp -dsimp
        refine callK_mut [1] [] [none, some 0] (m_lSwap' l' n' i' (2 * i' + 2) _ (2 * (i' : Int) + 2) rfl (by omega) (by omega) (by omega) (by omega)) (by decide) rfl (by simp) (by simp) rfl (by simp) ?_
        simp -dsimp
        refine hK _ _ ?_; clear hK K
        refine gwp_r rfl (by decide) rfl rfl fun K hK => ?_
        simp -dsimp
        refine hK _ _ ?_; clear hK K
        simp only [thenA, inBlockA, reduceIte, Nat.reduceEqDiff, eq_self]
        exact ⟨(swpG l' i' (2 * i' + 2), 2 * i' + 2, k'), ⟨by rw [swpG_len]; exact i1, by show 2 * i' + 2 < n'; omega, by show n < 2 * i' + 2 + k'; omega, i4, i5⟩, by simp, gsub (sub_rb [some 0, some 1] rfl (by simp) (by simp)) (by simp)⟩
    · skip
      skip
      have h1 : ¬ (2 * i' + 2 < n ∧ ltF (gd l' (2 * i' + 2)) (gd l' (2 * i' + 1)) = true) := by rintro ⟨g1, g2⟩; rw [g2] at hc1; simp at hc1; omega
      rw [if_neg h1] at hkid
      refine gwp_skip ?_
      simp only [thenA, inBlockA, reduceIte, Nat.reduceEqDiff, eq_self]
      refine hK3 _ _ ?_
      refine gwp_prune [0, 1, 2, 7, 9] (Or.inr (by simp)) ?_
      simp only [prune, List.map_cons, List.map_nil, Go.AM.look, Nat.reduceEqDiff, reduceIte]
      refine gwp_seq_k fun K5 hK5 => ?_
      refine gwp_sr rfl (by decide) rfl rfl fun K hK => ?_
      simp -dsimp
      refine callK_intro _ (c_lLessT l' n' (2 * i' + 1) i' _ _ (by omega) rfl (by omega) (by omega) (by omega)) (by simp) ?_
      simp -dsimp
      refine hK _ _ ?_; clear hK K
      refine gwp_cond rfl (fun hc2 => ?_) (fun hc2 => ?_)
      · skip
        skip
        rw [hkid] at i4 i5
        simp only [Bool.not_eq_true'] at hc2
        rw [if_pos (Or.inr hc2)] at i4 i5
        have hfin : downL ltF k l i n = l' ∧ downI k l i n = i' := ⟨i4.symm, i5.symm⟩
        refine gwp_exit ?_
        simp only [thenA, inBlockA, reduceIte, Nat.reduceEqDiff, eq_self]
        refine hK1 _ _ ?_
        refine gwp_prune [0, 1, 7] (Or.inr (by simp)) ?_
        simp only [prune, List.map_cons, List.map_nil, Go.AM.look, Nat.reduceEqDiff, reduceIte]
        refine gwp_sr rfl (by decide) rfl rfl fun K hK => ?_
        simp -dsimp
        refine hK _ _ ?_; clear hK K
        exact gwp_ret ⟨[some 0, some 1], rfl, by simp, by simp [hfin.1], by simp, by simp [resP, tupOf, hfin.2]⟩
      · skip
        skip
        rw [hkid] at i4 i5
        simp only [Bool.not_eq_false'] at hc2
        rw [hc2, if_neg (by simp; omega)] at i4 i5
        refine gwp_skip ?_
        simp only [thenA, inBlockA, reduceIte, Nat.reduceEqDiff, eq_self]
        refine hK5 _ _ ?_
        refine gwp_prune [0, 1, 2, 7, 9] (Or.inr (by simp)) ?_
        simp only [prune, List.map_cons, List.map_nil, Go.AM.look, Nat.reduceEqDiff, reduceIte]
        refine gwp_sr rfl (by decide) rfl rfl fun K hK => ?_
        simp -dsimp
        refine callK_mut [1] [] [none, some 0] (m_lSwap' l' n' i' (2 * i' + 1) _ (2 * (i' : Int) + 1) rfl (by omega) (by omega) (by omega) (by omega)) (by decide) rfl (by simp) (by simp) rfl (by simp) ?_
        simp -dsimp
        refine hK _ _ ?_; clear hK K
        refine gwp_r rfl (by decide) rfl rfl fun K hK => ?_
        simp -dsimp
        refine hK _ _ ?_; clear hK K
        simp only [thenA, inBlockA, reduceIte, Nat.reduceEqDiff, eq_self]
        exact ⟨(swpG l' i' (2 * i' + 1), 2 * i' + 1, k'), ⟨by rw [swpG_len]; exact i1, by show 2 * i' + 1 < n'; omega, by show n < 2 * i' + 1 + k'; omega, i4, i5⟩, by simp, gsub (sub_rb [some 0, some 1] rfl (by simp) (by simp)) (by simp)⟩
end Go.Tram
