/- Walks: the library's slices and the track's small functions. -/
import Derived.Test.YtdabjdajemiagaaW2
import Derived.Test.YtdabjdajemiagaaSq
import Derived.Test.YtdabjdajemiagaaGB
import Derived.Test.YtdabjdajemiagaaGS
namespace Go.Tram
open Go.AM Go.Proofs
set_option maxRecDepth 10000
set_option maxHeartbeats 4000000
set_option linter.unusedVariables false
set_option linter.unusedSimpArgs false

theorem c_Grow (n : Int) (h0 : 1 ≤ n) (h1 : n ≤ 1000) : OwnCall Try.prog 62 [.v (.slice none 0 0), I n] 0 0 2 (List.replicate n.toNat [I 0, I 0]) := by
  have w1 : IntKind.i64.wrap 0 = 0 := by decide
  have w2 : IntKind.i64.wrap n = n := wrap_in (by omega) (by omega)
  have f1 : Fits n.toNat 17 := fits_of (by omega) (by omega)
  have n1 : ¬ n < 0 := by omega
  have n2 : 0 < n := by omega
  have n3 : ¬ n ≤ 0 := by omega
  refine OwnCall.of_body Try.func62 rfl (by decide) (by simp [Try.ntmps62]) (by simp) (by simp; omega) ?_
  simp only [Try.ntmps62, Try.results62]
  refine awp_sr rfl fun K hK => ?_
  simp -dsimp [w1, w2, f1, n1, n2, n3, h0]
  refine hK _ _ ?_; clear hK K
  refine awp_seq_k fun K1 hK1 => ?_
  refine awp_sr rfl fun K hK => ?_
  simp -dsimp [w1, w2, f1, n1, n2, n3, h0]
  refine hK _ _ ?_; clear hK K
  refine awp_cond rfl (fun hc0 => ?_) (fun hc0 => ?_)
  · skip
    skip
    simp at hc0
  · skip
    skip
    refine awp_skip ?_
    simp only [thenA, inBlockA, reduceIte, Nat.reduceEqDiff, eq_self]
    refine hK1 _ _ ?_
    refine awp_prune [0, 1] ?_
    simp only [prune, List.map_cons, List.map_nil, Go.AM.look, Nat.reduceEqDiff, reduceIte]
    refine awp_seq_k fun K2 hK2 => ?_
    refine awp_sr rfl fun K hK => ?_
    simp -dsimp [w1, w2, f1, n1, n2, n3, h0]
    refine hK _ _ ?_; clear hK K
    refine awp_sr rfl fun K hK => ?_
    simp -dsimp [w1, w2, f1, n1, n2, n3, h0]
    refine hK _ _ ?_; clear hK K
    refine awp_cond rfl (fun hc1 => ?_) (fun hc1 => ?_)
    · skip
      skip
      refine awp_r rfl fun K hK => ?_
      simp -dsimp [w1, w2, f1, n1, n2, n3, h0]
      refine hK _ _ ?_; clear hK K
      simp only [thenA, inBlockA, reduceIte, Nat.reduceEqDiff, eq_self]
      refine hK2 _ _ ?_
      refine awp_prune [0] ?_
      simp only [prune, List.map_cons, List.map_nil, Go.AM.look, Nat.reduceEqDiff, reduceIte]
      refine awp_sr rfl fun K hK => ?_
      simp -dsimp [w1, w2, f1, n1, n2, n3, h0]
      refine hK _ _ ?_; clear hK K
      exact awp_ret ⟨4, 0, rfl, by simp, by simp⟩
    · skip
      skip
      simp at hc1

theorem c_isNaN (n : Int) : PureCall Try.prog 91 [I n] (Bo false) := by
  refine PureCall.of_body Try.func91 rfl (by decide) (by simp [Try.ntmps91]) ?_
  simp only [Try.ntmps91, Try.results91]
  refine awp_sr rfl fun K hK => ?_
  simp -dsimp
  refine hK _ _ ?_; clear hK K
  refine awp_sr rfl fun K hK => ?_
  simp -dsimp
  refine hK _ _ ?_; clear hK K
  exact awp_ret (by simp)
theorem c_Compare (a b : Int) : PureCall Try.prog 115 [I a, I b] (I (cmpI a b)) := by
  refine PureCall.of_body Try.func115 rfl (by decide) (by simp [Try.ntmps115]) ?_
  simp only [Try.ntmps115, Try.results115]
  refine awp_sr rfl fun K hK => ?_
  simp -dsimp
  refine hK _ _ ?_; clear hK K
  refine awp_sr rfl fun K hK => ?_
  simp -dsimp
  refine callK_intro _ (c_isNaN a) (by simp) ?_
  simp -dsimp
  refine hK _ _ ?_; clear hK K
  refine awp_sr rfl fun K hK => ?_
  simp -dsimp
  refine callK_intro _ (c_isNaN b) (by simp) ?_
  simp -dsimp
  refine hK _ _ ?_; clear hK K
  refine awp_seq_k fun K1 hK1 => ?_
  refine awp_sr rfl fun K hK => ?_
  simp -dsimp
  refine hK _ _ ?_; clear hK K
  refine awp_cond rfl (fun hc0 => ?_) (fun hc0 => ?_)
  · skip
    skip
    simp at hc0
  · skip
    skip
    refine awp_skip ?_
    simp only [thenA, inBlockA, reduceIte, Nat.reduceEqDiff, eq_self]
    refine hK1 _ _ ?_
    refine awp_prune [0, 1, 6] ?_
    simp only [prune, List.map_cons, List.map_nil, Go.AM.look, Nat.reduceEqDiff, reduceIte]
    refine awp_seq_k fun K2 hK2 => ?_
    refine awp_sr rfl fun K hK => ?_
    simp -dsimp
    refine hK _ _ ?_; clear hK K
    refine awp_cond rfl (fun hc2 => ?_) (fun hc2 => ?_)
    · skip
      skip
      simp at hc2
    · skip
      skip
      refine awp_skip ?_
      simp only [thenA, inBlockA, reduceIte, Nat.reduceEqDiff, eq_self]
      refine hK2 _ _ ?_
      refine awp_prune [0, 1] ?_
      simp only [prune, List.map_cons, List.map_nil, Go.AM.look, Nat.reduceEqDiff, reduceIte]
      refine awp_seq_k fun K3 hK3 => ?_
      refine awp_sr rfl fun K hK => ?_
      simp -dsimp
      refine hK _ _ ?_; clear hK K
      refine awp_cond rfl (fun hc3 => ?_) (fun hc3 => ?_)
      · skip
        try simp at hc3
        refine awp_sr rfl fun K hK => ?_
        simp -dsimp
        refine hK _ _ ?_; clear hK K
        exact awp_ret (by simp_all [cmpI]; try omega)
      · skip
        try simp at hc3
        refine awp_skip ?_
        simp only [thenA, inBlockA, reduceIte, Nat.reduceEqDiff, eq_self]
        refine hK3 _ _ ?_
        refine awp_prune [0, 1] ?_
        simp only [prune, List.map_cons, List.map_nil, Go.AM.look, Nat.reduceEqDiff, reduceIte]
        refine awp_seq_k fun K4 hK4 => ?_
        refine awp_sr rfl fun K hK => ?_
        simp -dsimp
        refine hK _ _ ?_; clear hK K
        refine awp_cond rfl (fun hc4 => ?_) (fun hc4 => ?_)
        · skip
          try simp at hc4
          refine awp_sr rfl fun K hK => ?_
          simp -dsimp
          refine hK _ _ ?_; clear hK K
          exact awp_ret (by simp_all [cmpI]; try omega)
        · skip
          try simp at hc4
          refine awp_skip ?_
          simp only [thenA, inBlockA, reduceIte, Nat.reduceEqDiff, eq_self]
          refine hK4 _ _ ?_
          refine awp_prune [] ?_
          simp only [prune, List.map_cons, List.map_nil, Go.AM.look, Nat.reduceEqDiff, reduceIte]
          refine awp_sr rfl fun K hK => ?_
          simp -dsimp
          refine hK _ _ ?_; clear hK K
          exact awp_ret (by simp_all [cmpI]; try omega)

def partsAV (parts : List (List Spot)) : AV := .lst 1 (parts.map fun q => [.lst 2 (q.map Spot.cells)])
@[irreducible] def tot (parts : List (List Spot)) (k : Nat) : Nat := (parts.take k).flatten.length
theorem tot_zero (parts : List (List Spot)) : tot parts 0 = 0 := by unfold tot; simp
theorem tot_succ {parts : List (List Spot)} {k : Nat} {q : List Spot} (h : parts[k]? = some q) : tot parts (k + 1) = tot parts k + q.length := by
  unfold tot; rw [List.take_add_one, h]; simp
theorem tot_all {parts : List (List Spot)} {k : Nat} (h : parts.length ≤ k) : tot parts k = parts.flatten.length := by unfold tot; rw [List.take_of_length_le h]
theorem tot_le (parts : List (List Spot)) (k : Nat) : tot parts k ≤ parts.flatten.length := by
  unfold tot
  have := congrArg (fun l => l.flatten.length) (List.take_append_drop k parts)
  simp only [List.flatten_append, List.length_append] at this
  omega
def cat (parts : List (List Spot)) (k : Nat) : List (List AV) := (parts.take k).flatten.map Spot.cells
theorem cat_succ {parts : List (List Spot)} {k : Nat} {q : List Spot} (h : parts[k]? = some q) : cat parts (k + 1) = cat parts k ++ q.map Spot.cells := by
  unfold cat; rw [List.take_add_one, h]; simp
theorem cat_len (parts : List (List Spot)) (k : Nat) : (cat parts k).length = tot parts k := by unfold cat tot; rw [List.length_map]
theorem cat_ren (parts : List (List Spot)) (k : Nat) (g : List (Option Nat)) : (cat parts k).map (fun e => e.map (renAV g 3)) = cat parts k := by unfold cat; rw [List.map_map]; exact List.map_congr_left fun s _ => rfl
theorem cat_frz (parts : List (List Spot)) (k : Nat) (H : Hp) : (cat parts k).map (fun e => e.map (frzP H 5)) = cat parts k := by unfold cat; rw [List.map_map]; exact List.map_congr_left fun s _ => rfl
theorem cat_all {parts : List (List Spot)} {k : Nat} (h : parts.length ≤ k) : cat parts k = parts.flatten.map Spot.cells := by unfold cat; rw [List.take_of_length_le h]

theorem c_Concat (parts : List (List Spot)) (h1 : 1 ≤ parts.flatten.length) (h2 : parts.flatten.length ≤ 1000) (h3 : parts.length ≤ 1000) : PureCall Try.prog 47 [partsAV parts] (.lst 2 (parts.flatten.map Spot.cells)) := by
  unfold partsAV
  refine PureCall.of_body Try.func47 rfl (by decide) (by simp [Try.ntmps47]) ?_
  simp only [Try.ntmps47, Try.results47]
  refine awp_sr rfl fun K hK => ?_
  simp -dsimp
  refine hK _ _ ?_; clear hK K
  refine awp_sr rfl fun K hK => ?_
  simp -dsimp
  refine hK _ _ ?_; clear hK K
  refine awp_seq_k fun K1 hK1 => ?_
  refine awp_sr rfl fun K hK => ?_
  simp -dsimp
  refine hK _ _ ?_; clear hK K
  refine awp_block ?_
  refine awp_prune [0, 3, 9, 10, 11] ?_
  simp only [prune, List.map_cons, List.map_nil, Go.AM.look, Nat.reduceEqDiff, reduceIte]
  refine awp_loop_l [0, 9, 10] (α := Nat) (fun k => [(3, I (tot parts k : Nat)), (11, I k)]) (fun _ => []) (fun k => k ≤ parts.length) (fun k => parts.length - k) 0 ?_ ?_ ?_
  · simp
  · exact sub_same (by simp [tot_zero])
  rintro k k1
  simp only [List.cons_append, List.nil_append, prune, List.map_cons, List.map_nil, Go.AM.look, Nat.reduceEqDiff, reduceIte]
  refine awp_sr rfl fun K hK => ?_
  simp -dsimp
  refine hK _ _ ?_; clear hK K
  refine awp_seq_k fun K2 hK2 => ?_
  refine awp_cond rfl (fun hc0 => ?_) (fun hc0 => ?_)
  · skip
    try simp at hc0
    obtain ⟨q, hq⟩ : ∃ q, parts[k]? = some q := ⟨_, List.getElem?_eq_getElem hc0⟩
    have hs := tot_succ hq
    have hle := tot_le parts (k + 1)
    have w1 : IntKind.i64.wrap ((tot parts k : Int) + (q.length : Int)) = (tot parts (k + 1) : Nat) := by rw [wrap_in (by omega) (by omega)]; omega
    have wk : IntKind.i64.wrap ((k : Int) + 1) = (k : Int) + 1 := wrap_in (by omega) (by omega)
    have wn : ¬ ((tot parts (k + 1) : Nat) : Int) < 0 := by omega
    refine awp_skip ?_
    simp only [thenA, inBlockA, reduceIte, Nat.reduceEqDiff, eq_self]
    refine hK2 _ _ ?_
    refine awp_prune [0, 3, 9, 10, 11] ?_
    simp only [prune, List.map_cons, List.map_nil, Go.AM.look, Nat.reduceEqDiff, reduceIte]
    refine awp_seq_k fun K3 hK3 => ?_
    refine awp_block ?_
    refine awp_sr rfl fun K hK => ?_
    simp -dsimp [hq]
    refine hK _ _ ?_; clear hK K
    refine awp_sr rfl fun K hK => ?_
    simp -dsimp [w1]
    refine hK _ _ ?_; clear hK K
    refine awp_sr rfl fun K hK => ?_
    simp -dsimp [wn]
    refine hK _ _ ?_; clear hK K
    refine awp_cond rfl (fun hc1 => ?_) (fun hc1 => ?_)
    · skip
      skip
      simp at hc1
    · skip
      skip
      refine awp_skip ?_
      simp only [thenA, inBlockA, reduceIte, Nat.reduceEqDiff, eq_self]
      refine hK3 _ _ ?_
      refine awp_prune [0, 3, 9, 10, 11] ?_
      simp only [prune, List.map_cons, List.map_nil, Go.AM.look, Nat.reduceEqDiff, reduceIte]
      refine awp_r rfl fun K hK => ?_
      simp -dsimp [wk]
      refine hK _ _ ?_; clear hK K
      simp only [thenA, inBlockA, reduceIte, Nat.reduceEqDiff, eq_self]
      exact ⟨k + 1, by omega, by omega, sub_same (by simp)⟩
  · skip
    try simp at hc0
    have hk : tot parts k = parts.flatten.length := tot_all (by omega)
    refine awp_exit ?_
    simp only [thenA, inBlockA, reduceIte, Nat.reduceEqDiff, eq_self]
    refine hK1 _ _ ?_
    refine awp_prune [0, 3] ?_
    simp only [prune, List.map_cons, List.map_nil, Go.AM.look, Nat.reduceEqDiff, reduceIte]
    refine awp_sr rfl fun K hK => ?_
    simp -dsimp
    refine callK_own (c_Grow (tot parts k : Nat) (by omega) (by omega)) ?_
    simp -dsimp
    refine hK _ _ ?_; clear hK K
    refine awp_seq_k fun K4 hK4 => ?_
    refine awp_sr rfl fun K hK => ?_
    simp -dsimp
    refine hK _ _ ?_; clear hK K
    refine awp_block ?_
    refine awp_prune [6, 25, 26, 27] ?_
    simp only [prune, List.map_cons, List.map_nil, Go.AM.look, Nat.reduceEqDiff, reduceIte]
    refine awp_loop_l [25, 26] (α := Nat × List (List AV)) (fun x => [(6, .row 0 0 (tot parts x.1)), (27, I x.1)]) (fun x => [some (.els 2 x.2)]) (fun x => x.1 ≤ parts.length ∧ x.2.take (tot parts x.1) = cat parts x.1 ∧ tot parts x.1 ≤ x.2.length) (fun x => parts.length - x.1) (0, List.replicate (tot parts k) [I 0, I 0]) ?_ ?_ ?_
    · simp [tot_zero, cat]
    · exact sub_same (by simp [tot_zero])
    rintro ⟨k, es⟩ ⟨k1, k2, k3⟩
    simp only at k1 k2 k3
    simp only [List.cons_append, List.nil_append, prune, List.map_cons, List.map_nil, Go.AM.look, Nat.reduceEqDiff, reduceIte]
    refine awp_sr rfl fun K hK => ?_
    simp -dsimp
    refine hK _ _ ?_; clear hK K
    refine awp_seq_k fun K5 hK5 => ?_
    refine awp_cond rfl (fun hc2 => ?_) (fun hc2 => ?_)
    · skip
      try simp at hc2
      obtain ⟨q, hq⟩ : ∃ q, parts[k]? = some q := ⟨_, List.getElem?_eq_getElem hc2⟩
      have hs := tot_succ hq
      have hle := tot_le parts (k + 1)
      have hcl := cat_len parts k
      have wk : IntKind.i64.wrap ((k : Int) + 1) = (k : Int) + 1 := wrap_in (by omega) (by omega)
      have f1 : Fits (tot parts k + q.length) 17 := fits_of (by omega) (by omega)
      refine awp_skip ?_
      simp only [thenA, inBlockA, reduceIte, Nat.reduceEqDiff, eq_self]
      refine hK5 _ _ ?_
      refine awp_prune [6, 25, 26, 27] ?_
      simp only [prune, List.map_cons, List.map_nil, Go.AM.look, Nat.reduceEqDiff, reduceIte]
      refine awp_seq_k fun K6 hK6 => ?_
      refine awp_block ?_
      refine awp_sr rfl fun K hK => ?_
      simp -dsimp [hq]
      refine hK _ _ ?_; clear hK K
      refine awp_r rfl fun K hK => ?_
      simp -dsimp [k2, k3, hcl, f1]
      refine hK _ _ ?_; clear hK K
      simp only [thenA, inBlockA, reduceIte, Nat.reduceEqDiff, eq_self]
      refine hK6 _ _ ?_
      refine awp_prune [6, 25, 26, 27] ?_
      simp only [prune, List.map_cons, List.map_nil, Go.AM.look, Nat.reduceEqDiff, reduceIte]
      refine awp_r rfl fun K hK => ?_
      simp -dsimp [wk]
      refine hK _ _ ?_; clear hK K
      simp only [thenA, inBlockA, reduceIte, Nat.reduceEqDiff, eq_self]
      exact ⟨(k + 1, cat parts (k + 1)), ⟨by omega, by rw [List.take_of_length_le (by rw [cat_len]; exact Nat.le_refl _)], by rw [cat_len]; exact Nat.le_refl _⟩, by simp; omega, sub_rb [some 1] rfl (by simp [hs]) (by simp [cat_succ hq, cat_ren, Function.comp_def])⟩
    · skip
      try simp at hc2
      refine awp_exit ?_
      simp only [thenA, inBlockA, reduceIte, Nat.reduceEqDiff, eq_self]
      refine hK4 _ _ ?_
      refine awp_prune [6] ?_
      simp only [prune, List.map_cons, List.map_nil, Go.AM.look, Nat.reduceEqDiff, reduceIte]
      refine awp_sr rfl fun K hK => ?_
      simp -dsimp
      refine hK _ _ ?_; clear hK K
      exact awp_ret (by simp [k2, k3, cat_frz]; rw [cat_all hc2, List.map_flatten])
end Go.Tram
