/- Walks: distances of spots and segments. -/
import Derived.Test.YtdabjdajemiagaaW8
namespace Go.Tram
open Go.AM Go.Proofs
set_option maxRecDepth 10000
set_option maxHeartbeats 4000000
set_option linter.unusedVariables false
set_option linter.unusedSimpArgs false
attribute [-simp] minI maxI

theorem minI_eq (a b : Int) : minI a b = min a b := by unfold minI; split <;> omega
theorem maxI_eq (a b : Int) : maxI a b = max a b := by unfold maxI; split <;> omega

def orI : List Int → Int
  | [] => 0
  | x :: r => if x ≠ 0 then x else orI r
theorem orI_hit : ∀ {l : List Int} {k : Nat} {x : Int}, l[k]? = some x → x ≠ 0 → (l.take k).all (· == 0) = true → orI l = x
  | [], k, x, h, _, _ => by simp at h
  | y :: l, 0, x, h, hx, _ => by simp at h; subst h; simp [orI, hx]
  | y :: l, k + 1, x, h, hx, ha => by
    simp at h ha
    unfold orI
    rw [if_neg (by simp [ha.1])]
    exact orI_hit h hx (by simpa using ha.2)
theorem orI_none : ∀ {l : List Int}, l.all (· == 0) = true → orI l = 0
  | [], _ => rfl
  | y :: l, ha => by
    simp at ha
    unfold orI
    rw [if_neg (by simp [ha.1])]
    exact orI_none (by simpa using ha.2)

theorem c_Or (l : List Int) (hn : l.length ≤ 1000) : PureCall Try.prog 114 [.full 1 (l.map fun x => [I x])] (I (orI l)) := by
  refine PureCall.of_body Try.func114 rfl (by decide) (by simp [Try.ntmps114]) ?_
  simp only [Try.ntmps114, Try.results114]
  refine awp_sr rfl fun K hK => ?_
  simp -dsimp
  refine hK _ _ ?_; clear hK K
  refine awp_sr rfl fun K hK => ?_
  simp -dsimp
  refine hK _ _ ?_; clear hK K
  refine awp_seq_k fun K1 hK1 => ?_
  refine awp_sr rfl fun K hK => ?_
  simp -dsimp
  refine hK _ _ ?_; clear hK K
  refine awp_block ?_
  refine awp_prune [3, 6, 7, 8] ?_
  simp only [prune, List.map_cons, List.map_nil, Go.AM.look, Nat.reduceEqDiff, reduceIte]
  refine awp_loop_l [3, 6, 7] (α := Nat) (fun k => [(8, I k)]) (fun _ => []) (fun k => k ≤ l.length ∧ (l.take k).all (· == 0) = true) (fun k => l.length - k) 0 ?_ ?_ ?_
  · simp
  · exact sub_same (by simp)
  rintro k ⟨k1, k2⟩
  simp only [List.cons_append, List.nil_append, prune, List.map_cons, List.map_nil, Go.AM.look, Nat.reduceEqDiff, reduceIte]
  refine awp_sr rfl fun K hK => ?_
  simp -dsimp
  refine hK _ _ ?_; clear hK K
  refine awp_seq_k fun K2 hK2 => ?_
  refine awp_cond rfl (fun hc0 => ?_) (fun hc0 => ?_)
  · skip
    try simp at hc0
    obtain ⟨x, hx⟩ : ∃ x, l[k]? = some x := ⟨_, List.getElem?_eq_getElem hc0⟩
    have wk : IntKind.i64.wrap ((k : Int) + 1) = (k : Int) + 1 := wrap_in (by omega) (by omega)
    refine awp_skip ?_
    simp only [thenA, inBlockA, reduceIte, Nat.reduceEqDiff, eq_self]
    refine hK2 _ _ ?_
    refine awp_prune [3, 6, 7, 8] ?_
    simp only [prune, List.map_cons, List.map_nil, Go.AM.look, Nat.reduceEqDiff, reduceIte]
    refine awp_seq_k fun K3 hK3 => ?_
    refine awp_block ?_
    refine awp_sr rfl fun K hK => ?_
    simp -dsimp [hx]
    refine hK _ _ ?_; clear hK K
    refine awp_sr rfl fun K hK => ?_
    simp -dsimp
    refine hK _ _ ?_; clear hK K
    refine awp_cond rfl (fun hc1 => ?_) (fun hc1 => ?_)
    · skip
      try simp at hc1
      have ho := orI_hit hx hc1 k2
      refine awp_sr rfl fun K hK => ?_
      simp -dsimp
      refine hK _ _ ?_; clear hK K
      exact awp_ret (by simp [ho])
    · skip
      try simp at hc1
      refine awp_skip ?_
      simp only [thenA, inBlockA, reduceIte, Nat.reduceEqDiff, eq_self]
      refine hK3 _ _ ?_
      refine awp_prune [3, 6, 7, 8] ?_
      simp only [prune, List.map_cons, List.map_nil, Go.AM.look, Nat.reduceEqDiff, reduceIte]
      refine awp_r rfl fun K hK => ?_
      simp -dsimp [wk]
      refine hK _ _ ?_; clear hK K
      simp only [thenA, inBlockA, reduceIte, Nat.reduceEqDiff, eq_self]
      exact ⟨k + 1, ⟨by omega, by rw [take_all' hx, k2]; simp [hc1]⟩, by omega, sub_same (by simp)⟩
  · skip
    try simp at hc0
    have ho := orI_none (all_of_take (by omega) k2)
    refine awp_exit ?_
    simp only [thenA, inBlockA, reduceIte, Nat.reduceEqDiff, eq_self]
    refine hK1 _ _ ?_
    refine awp_prune [3] ?_
    simp only [prune, List.map_cons, List.map_nil, Go.AM.look, Nat.reduceEqDiff, reduceIte]
    refine awp_sr rfl fun K hK => ?_
    simp -dsimp
    refine hK _ _ ?_; clear hK K
    exact awp_ret (by simp [ho])

theorem und_u64 : (Try.prog).underlying 152 = some (.int .u64) := by kernel_rfl
theorem conv_iu (n : Int) (w : World) : (convert 3 152 (.int .i64 n)).run Try.prog w = .ok (.int .u64 (IntKind.u64.wrap n)) w := by
  simp [convert, run_underlying und_int, run_underlying und_u64, Conv.intToInt]

@[simp] def segC (a b : Spot) : List AV := [I a.X, I a.Y, I b.X, I b.Y]
abbrev seg (a b : Spot) : AV := .agg (segC a b)

end Go.Tram
