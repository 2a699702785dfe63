/- Walks: all pairs of strips of two rails. -/
import Derived.Test.YteodgilndjjgdaaGreatGD
import Derived.Test.YteodgilndjjgdaaGreatW14
import Derived.Test.YteodgilndjjgdaaGreatGS
namespace Go.Tram
open Go.AM Go.Proofs
set_option maxRecDepth 10000
set_option maxHeartbeats 4000000
set_option linter.unusedVariables false
set_option linter.unusedSimpArgs false

def pairAV (q : SS × SS) : List AV := [q.1.av, q.2.av]

theorem pairAV_len (p : Plan) (a b : Int) : ∀ z ∈ (pairs p a b).map pairAV, z.length = 2 := by
  intro z hz
  obtain ⟨q, _, rfl⟩ := List.mem_map.1 hz
  rfl

theorem c_all (p : Plan) (a b : Int) : PureCall Tryz.prog 52 [.iptr (sheet p), I a, I b] (.clo 73 [.iptr [.iptr (sheet p)], .iptr [I a], .iptr [I b]]) := by
  generalize sheet p = sh
  refine PureCall.of_body Tryz.func52 rfl (by decide) (by simp [Tryz.ntmps52]) ?_
  simp only [Tryz.ntmps52, Tryz.results52]
  refine awp_sr rfl fun K hK => ?_
  simp -dsimp
  refine hK _ _ ?_; clear hK K
  refine awp_sr rfl fun K hK => ?_
  simp -dsimp
  refine hK _ _ ?_; clear hK K
  exact awp_ret (by simp)

theorem c_all1 (p : Plan) (a b : Int) (ha : inr a 0 (p.Rails.length - 1) = true) (hb : inr b 0 (p.Rails.length - 1) = true) (hla : (p.strips a).length ≤ 1000000) (hlb : (p.strips b).length ≤ 1000000) :
    IterCall Tryz.prog 73 [.iptr [.iptr (sheet p)], .iptr [I a], .iptr [I b]] ((pairs p a b).map pairAV) := by
  have ia := inr_iff.1 ha
  have ib := inr_iff.1 hb
  have ga := sheetRows_at (p := p) (r := a) (by omega) (by omega)
  have gb := sheetRows_at (p := p) (r := b) (by omega) (by omega)
  have hpl := pairs_len p a b
  unfold sheet
  refine IterCall.of_body Tryz.func73 rfl (by decide) (by simp [Tryz.ntmps73]) (by simp [Tryz.ntmps73]) (by simp [Tryz.results73]) ?_
  intro J l hmk hY
  simp only [Tryz.ntmps73, Tryz.results73]
  refine gwp_sd mixed rfl (by decide) rfl rfl fun K hK => ?_
  simp -dsimp [ga, ia.1]
  refine hK _ _ _ (by decide +kernel) ?_; clear hK K
  refine gwp_block ?_
  refine gwp_prune [0, 1, 3, 15, 16, 17, 999999] (Or.inl (by decide)) ?_
  simp only [prune, List.map_cons, List.map_nil, Go.AM.look, Nat.reduceEqDiff, reduceIte]
  refine gwp_loop_l [0, 1, 3, 15, 16] (α := Nat) (fun k => [(17, I k), (999999, cntV (k * (p.strips b).length))]) (fun k => []) (fun k => k ≤ (p.strips a).length) (fun k => (p.strips a).length - k) 0 ?_ ?_ ?_
  · simp
  · exact gsub (sub_same (by simp)) (by simp)
  rintro k k1
  simp only [List.cons_append, List.nil_append, prune, List.map_cons, List.map_nil, Go.AM.look, Nat.reduceEqDiff, reduceIte]
  refine gwp_sr rfl (by decide) rfl rfl fun K hK => ?_
  simp -dsimp
  refine hK _ _ ?_; clear hK K
  refine gwp_seq_k fun K1 hK1 => ?_
  refine gwp_cond rfl (fun hc0 => ?_) (fun hc0 => ?_)
  · skip
    try simp at hc0
    obtain ⟨s, hs⟩ : ∃ s, (p.strips a)[k]? = some s := ⟨_, List.getElem?_eq_getElem (by simpa using hc0)⟩
    have wk : IntKind.i64.wrap ((k : Int) + 1) = (k : Int) + 1 := wrap_in (by omega) (by omega)
    refine gwp_skip ?_
    simp only [thenA, inBlockA, reduceIte, Nat.reduceEqDiff, eq_self]
    refine hK1 _ _ ?_
    refine gwp_prune [0, 1, 3, 15, 16, 17, 999999] (Or.inl (by decide)) ?_
    simp only [prune, List.map_cons, List.map_nil, Go.AM.look, Nat.reduceEqDiff, reduceIte]
    refine gwp_seq_k fun K2 hK2 => ?_
    refine gwp_block ?_
    refine gwp_sr rfl (by decide) rfl rfl fun K hK => ?_
    simp -dsimp [hs]
    refine hK _ _ ?_; clear hK K
    refine gwp_sd mixed rfl (by decide) rfl rfl fun K hK => ?_
    simp -dsimp [gb, ib.1]
    refine hK _ _ _ (by decide +kernel) ?_; clear hK K
    refine gwp_block ?_
    refine gwp_prune [0, 1, 3, 6, 15, 16, 17, 27, 28, 29, 999999] (Or.inl (by decide)) ?_
    simp only [prune, List.map_cons, List.map_nil, Go.AM.look, Nat.reduceEqDiff, reduceIte]
    refine gwp_loop_l [0, 1, 3, 6, 15, 16, 17, 27, 28] (α := Nat) (fun j => [(29, I j), (999999, cntV (k * (p.strips b).length + j))]) (fun j => [some (.els 9 [s.cells])]) (fun j => j ≤ (p.strips b).length) (fun j => (p.strips b).length - j) 0 ?_ ?_ ?_
    · simp
    · exact gsub (sub_same (by simp)) (by simp)
    rintro j j1
    simp only [List.cons_append, List.nil_append, prune, List.map_cons, List.map_nil, Go.AM.look, Nat.reduceEqDiff, reduceIte]
    refine gwp_sr rfl (by decide) rfl rfl fun K hK => ?_
    simp -dsimp
    refine hK _ _ ?_; clear hK K
    refine gwp_seq_k fun K3 hK3 => ?_
    refine gwp_cond rfl (fun hc1 => ?_) (fun hc1 => ?_)
    · skip
      try simp at hc1
      obtain ⟨t, ht⟩ : ∃ t, (p.strips b)[j]? = some t := ⟨_, List.getElem?_eq_getElem (by simpa using hc1)⟩
      have wj : IntKind.i64.wrap ((j : Int) + 1) = (j : Int) + 1 := wrap_in (by omega) (by omega)
      refine gwp_skip ?_
      simp only [thenA, inBlockA, reduceIte, Nat.reduceEqDiff, eq_self]
      refine hK3 _ _ ?_
      refine gwp_prune [0, 1, 3, 6, 15, 16, 17, 27, 28, 29, 999999] (Or.inl (by decide)) ?_
      simp only [prune, List.map_cons, List.map_nil, Go.AM.look, Nat.reduceEqDiff, reduceIte]
      refine gwp_seq_k fun K4 hK4 => ?_
      refine gwp_block ?_
      refine gwp_sr rfl (by decide) rfl rfl fun K hK => ?_
      simp -dsimp [ht]
      refine hK _ _ ?_; clear hK K
      refine gwp_sy hmk hY rfl (by decide) rfl rfl fun K hK => ?_
      simp -dsimp
      refine yK_intro (by rw [List.getElem?_map, pairs_at hs ht]; rfl) ?_ ?_
      · refine hK _ _ ?_; clear hK K
        refine gwp_cond rfl (fun hc2 => ?_) (fun hc2 => ?_)
        · skip
          skip
          simp at hc2
        · skip
          skip
          refine gwp_skip ?_
          simp only [thenA, inBlockA, reduceIte, Nat.reduceEqDiff, eq_self]
          refine hK4 _ _ ?_
          refine gwp_prune [0, 1, 3, 6, 15, 16, 17, 27, 28, 29, 999999] (Or.inl (by decide)) ?_
          simp only [prune, List.map_cons, List.map_nil, Go.AM.look, Nat.reduceEqDiff, reduceIte]
          refine gwp_r rfl (by decide) rfl rfl fun K hK => ?_
          simp -dsimp [wj]
          refine hK _ _ ?_; clear hK K
          simp only [thenA, inBlockA, reduceIte, Nat.reduceEqDiff, eq_self]
          exact ⟨j + 1, by omega, by omega, gsub (sub_rb [some 0] rfl (by simp [Nat.add_assoc]) (by simp)) (by simp [Nat.add_assoc])⟩
      · refine hK _ _ ?_; clear hK K
        refine gwp_cond rfl (fun hc2 => ?_) (fun hc2 => ?_)
        · skip
          skip
          exact gwp_ret (by simp)
        · skip
          skip
          simp at hc2
    · skip
      try simp at hc1
      have hje : j = (p.strips b).length := by have : ¬ j < (p.strips b).length := by simpa using hc1
                                               omega
      refine gwp_exit ?_
      simp only [thenA, inBlockA, reduceIte, Nat.reduceEqDiff, eq_self]
      refine hK2 _ _ ?_
      refine gwp_prune [0, 1, 3, 15, 16, 17, 999999] (Or.inl (by decide)) ?_
      simp only [prune, List.map_cons, List.map_nil, Go.AM.look, Nat.reduceEqDiff, reduceIte]
      refine gwp_r rfl (by decide) rfl rfl fun K hK => ?_
      simp -dsimp [wk]
      refine hK _ _ ?_; clear hK K
      simp only [thenA, inBlockA, reduceIte, Nat.reduceEqDiff, eq_self]
      exact ⟨k + 1, by omega, by omega, gsub (sub_rb [] rfl (by simp [hje, Nat.succ_mul]) (by simp)) (by simp [hje, Nat.succ_mul])⟩
  · skip
    try simp at hc0
    have hke : k = (p.strips a).length := by have : ¬ k < (p.strips a).length := by simpa using hc0
                                             omega
    refine gwp_exit ?_
    try simp only [thenA, inBlockA, reduceIte, Nat.reduceEqDiff, eq_self]
    simp [hpl, hke]
end Go.Tram
