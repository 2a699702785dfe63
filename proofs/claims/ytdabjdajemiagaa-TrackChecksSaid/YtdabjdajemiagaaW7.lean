/- Walks: searching lists, and the track's check of a plan. -/
import Derived.Test.YtdabjdajemiagaaW6
import Derived.Test.YtdabjdajemiagaaGC
import Derived.Test.YtdabjdajemiagaaGS
namespace Go.Tram
open Go.AM Go.Proofs
set_option maxRecDepth 10000
set_option maxHeartbeats 4000000
set_option linter.unusedVariables false
set_option linter.unusedSimpArgs false

/-- Boxes that a closure has captured. -/
def ipts : List (List AV) → List AV
  | [] => []
  | c :: cs => .iptr c :: ipts cs
@[simp] theorem ipts_frz (H : Nat → Option ARow) (n : Nat) : ∀ cl : List (List AV), (ipts cl).map (frz H n) = ipts cl
  | [] => rfl
  | c :: cs => by simp only [ipts, List.map_cons, ipts_frz H n cs, List.cons.injEq, and_true]; cases n <;> rfl
@[simp] theorem ipts_noRef (n : Nat) : ∀ cl : List (List AV), (ipts cl).all (AV.noRef n) = true
  | [] => rfl
  | c :: cs => by simp only [ipts, List.all_cons, ipts_noRef n cs, Bool.and_true]; cases n <;> rfl
@[simp] theorem ipts_rd (n : Nat) : ∀ cl : List (List AV), (ipts cl).flatMap (frzRd n) = []
  | [] => rfl
  | c :: cs => by simp only [ipts, List.flatMap_cons, ipts_rd n cs, List.append_nil]; cases n <;> rfl
@[simp] theorem ipts_flat (H : Hp) (n : Nat) : ∀ cl : List (List AV), (ipts cl).map (frzP H n) = ipts cl
  | [] => rfl
  | c :: cs => by simp only [ipts, List.map_cons, ipts_flat H n cs, List.cons.injEq, and_true]; cases n <;> rfl
@[simp] theorem ipts_ren (g : List (Option Nat)) (n : Nat) : ∀ cl : List (List AV), (ipts cl).map (renAV g n) = ipts cl
  | [] => rfl
  | c :: cs => by simp only [ipts, List.map_cons, ipts_ren g n cs, List.cons.injEq, and_true]; cases n <;> rfl

/-- The first place at which it holds; -1: none. -/
def firstI {α : Type} (l : List α) (q : α → Bool) : Int := match l.findIdx? q with | some i => i | none => -1
theorem firstI_none {α : Type} {l : List α} {q : α → Bool} (h : l.any q = false) : firstI l q = -1 := by
  have : l.findIdx? q = none := by
    rw [List.findIdx?_eq_none_iff]
    intro x hx
    rw [List.any_eq_false] at h
    simpa using h x hx
  unfold firstI; rw [this]
theorem firstI_hit {α : Type} {l : List α} {q : α → Bool} {k : Nat} {x : α} (hx : l[k]? = some x) (hq : q x = true) (hn : (l.take k).any q = false) : firstI l q = k := by
  obtain ⟨hk, he⟩ := List.getElem?_eq_some_iff.1 hx
  have : l.findIdx? q = some k := by
    rw [List.findIdx?_eq_some_iff_getElem]
    refine ⟨hk, by rw [he]; exact hq, fun j hj => ?_⟩
    rw [List.any_eq_false] at hn
    have := hn l[j] (by rw [List.mem_take_iff_getElem]; exact ⟨j, by omega, rfl⟩)
    simpa using this
  unfold firstI; rw [this]
theorem firstI_nn {α : Type} (l : List α) (q : α → Bool) : decide (0 ≤ firstI l q) = l.any q := by
  cases h : l.any q with
  | false => rw [firstI_none h]; rfl
  | true =>
    rw [List.any_eq_true] at h
    obtain ⟨x, hx, hq⟩ := h
    unfold firstI
    cases hi : l.findIdx? q with
    | none => rw [List.findIdx?_eq_none_iff] at hi; exact absurd hq (by simp [hi x hx])
    | some i => simp
theorem any_take {α : Type} {l : List α} {q : α → Bool} {k : Nat} {x : α} (h : l[k]? = some x) : (l.take (k + 1)).any q = ((l.take k).any q || q x) := by
  rw [List.take_add_one, List.any_append, h]; simp
theorem any_of_take {α : Type} {l : List α} {q : α → Bool} {k : Nat} (hk : l.length ≤ k) (h : (l.take k).any q = false) : l.any q = false := by rwa [List.take_of_length_le hk] at h

theorem c_Index_Node (l : List Node) (f : FuncId) (cl : List (List AV)) (q : Node → Bool) (h : ∀ x ∈ l, PureCall Try.prog f (.agg x.cells :: ipts cl) (Bo (q x))) (hn : l.length ≤ 100000) :
    PureCall Try.prog 48 [.lst 5 (l.map Node.cells), .clo f (ipts cl)] (I (firstI l q)) := by
  refine PureCall.of_body Try.func48 rfl (by decide) (by simp [Try.ntmps48]) ?_
  simp only [Try.ntmps48, Try.results48]
  refine awp_sr rfl fun K hK => ?_
  simp -dsimp
  refine hK _ _ ?_; clear hK K
  refine awp_seq_k fun K1 hK1 => ?_
  refine awp_sr rfl fun K hK => ?_
  simp -dsimp
  refine hK _ _ ?_; clear hK K
  refine awp_block ?_
  refine awp_prune [0, 1, 7, 8] ?_
  simp only [prune, List.map_cons, List.map_nil, Go.AM.look, Nat.reduceEqDiff, reduceIte]
  refine awp_loop_l [0, 1, 7] (α := Nat) (fun k => [(8, I k)]) (fun _ => []) (fun k => k ≤ l.length ∧ (l.take k).any q = false) (fun k => l.length - k) 0 ?_ ?_ ?_
  · simp
  · exact sub_same (by simp)
  rintro k ⟨k1, k2⟩
  simp only [List.cons_append, List.nil_append, prune, List.map_cons, List.map_nil, Go.AM.look, Nat.reduceEqDiff, reduceIte]
  refine awp_sr rfl fun K hK => ?_
  simp -dsimp
  refine hK _ _ ?_; clear hK K
  refine awp_seq_k fun K2 hK2 => ?_
  refine awp_cond rfl (fun hc0 => ?_) (fun hc0 => ?_)
  · skip
    try simp at hc0
    obtain ⟨x, hx⟩ : ∃ x, l[k]? = some x := ⟨_, List.getElem?_eq_getElem hc0⟩
    have wk : IntKind.i64.wrap ((k : Int) + 1) = (k : Int) + 1 := wrap_in (by omega) (by omega)
    refine awp_skip ?_
    simp only [thenA, inBlockA, reduceIte, Nat.reduceEqDiff, eq_self]
    refine hK2 _ _ ?_
    refine awp_prune [0, 1, 7, 8] ?_
    simp only [prune, List.map_cons, List.map_nil, Go.AM.look, Nat.reduceEqDiff, reduceIte]
    refine awp_seq_k fun K3 hK3 => ?_
    refine awp_block ?_
    refine awp_sr rfl fun K hK => ?_
    simp -dsimp
    refine hK _ _ ?_; clear hK K
    refine awp_sr rfl fun K hK => ?_
    simp -dsimp [hx]
    refine callK_intro _ (h x (List.mem_of_getElem? hx)) (by simp) ?_
    simp -dsimp [hx]
    refine hK _ _ ?_; clear hK K
    refine awp_cond rfl (fun hc1 => ?_) (fun hc1 => ?_)
    · skip
      try simp at hc1
      refine awp_sr rfl fun K hK => ?_
      simp -dsimp
      refine hK _ _ ?_; clear hK K
      exact awp_ret (by simp [firstI_hit hx hc1 k2])
    · skip
      try simp at hc1
      refine awp_skip ?_
      simp only [thenA, inBlockA, reduceIte, Nat.reduceEqDiff, eq_self]
      refine hK3 _ _ ?_
      refine awp_prune [0, 1, 7, 8] ?_
      simp only [prune, List.map_cons, List.map_nil, Go.AM.look, Nat.reduceEqDiff, reduceIte]
      refine awp_r rfl fun K hK => ?_
      simp -dsimp [wk]
      refine hK _ _ ?_; clear hK K
      simp only [thenA, inBlockA, reduceIte, Nat.reduceEqDiff, eq_self]
      exact ⟨k + 1, ⟨by omega, by rw [any_take hx, k2, hc1]; rfl⟩, by omega, sub_same (by simp)⟩
  · skip
    try simp at hc0
    have hall := any_of_take (by omega) k2
    refine awp_exit ?_
    simp only [thenA, inBlockA, reduceIte, Nat.reduceEqDiff, eq_self]
    refine hK1 _ _ ?_
    refine awp_prune [] ?_
    simp only [prune, List.map_cons, List.map_nil, Go.AM.look, Nat.reduceEqDiff, reduceIte]
    refine awp_sr rfl fun K hK => ?_
    simp -dsimp
    refine hK _ _ ?_; clear hK K
    exact awp_ret (by simp [firstI_none hall])
theorem c_Cont_Node (l : List Node) (f : FuncId) (cl : List (List AV)) (q : Node → Bool) (h : ∀ x ∈ l, PureCall Try.prog f (.agg x.cells :: ipts cl) (Bo (q x))) (hn : l.length ≤ 100000) :
    PureCall Try.prog 30 [.lst 5 (l.map Node.cells), .clo f (ipts cl)] (Bo (l.any q)) := by
  refine PureCall.of_body Try.func30 rfl (by decide) (by simp [Try.ntmps30]) ?_
  simp only [Try.ntmps30, Try.results30]
  refine awp_sr rfl fun K hK => ?_
  simp -dsimp
  refine hK _ _ ?_; clear hK K
  refine awp_sr rfl fun K hK => ?_
  simp -dsimp
  refine callK_intro _ (c_Index_Node l f cl q h hn) (by simp) ?_
  simp -dsimp
  refine hK _ _ ?_; clear hK K
  exact awp_ret (by simp [firstI_nn])
theorem c_Index_Rail (l : List Rail) (f : FuncId) (cl : List (List AV)) (q : Rail → Bool) (h : ∀ x ∈ l, PureCall Try.prog f (.agg x.cells :: ipts cl) (Bo (q x))) (hn : l.length ≤ 100000) :
    PureCall Try.prog 51 [.lst 5 (l.map Rail.cells), .clo f (ipts cl)] (I (firstI l q)) := by
  refine PureCall.of_body Try.func51 rfl (by decide) (by simp [Try.ntmps51]) ?_
  simp only [Try.ntmps51, Try.results51]
  refine awp_sr rfl fun K hK => ?_
  simp -dsimp
  refine hK _ _ ?_; clear hK K
  refine awp_seq_k fun K1 hK1 => ?_
  refine awp_sr rfl fun K hK => ?_
  simp -dsimp
  refine hK _ _ ?_; clear hK K
  refine awp_block ?_
  refine awp_prune [0, 1, 7, 8] ?_
  simp only [prune, List.map_cons, List.map_nil, Go.AM.look, Nat.reduceEqDiff, reduceIte]
  refine awp_loop_l [0, 1, 7] (α := Nat) (fun k => [(8, I k)]) (fun _ => []) (fun k => k ≤ l.length ∧ (l.take k).any q = false) (fun k => l.length - k) 0 ?_ ?_ ?_
  · simp
  · exact sub_same (by simp)
  rintro k ⟨k1, k2⟩
  simp only [List.cons_append, List.nil_append, prune, List.map_cons, List.map_nil, Go.AM.look, Nat.reduceEqDiff, reduceIte]
  refine awp_sr rfl fun K hK => ?_
  simp -dsimp
  refine hK _ _ ?_; clear hK K
  refine awp_seq_k fun K2 hK2 => ?_
  refine awp_cond rfl (fun hc0 => ?_) (fun hc0 => ?_)
  · skip
    try simp at hc0
    obtain ⟨x, hx⟩ : ∃ x, l[k]? = some x := ⟨_, List.getElem?_eq_getElem hc0⟩
    have wk : IntKind.i64.wrap ((k : Int) + 1) = (k : Int) + 1 := wrap_in (by omega) (by omega)
    refine awp_skip ?_
    simp only [thenA, inBlockA, reduceIte, Nat.reduceEqDiff, eq_self]
    refine hK2 _ _ ?_
    refine awp_prune [0, 1, 7, 8] ?_
    simp only [prune, List.map_cons, List.map_nil, Go.AM.look, Nat.reduceEqDiff, reduceIte]
    refine awp_seq_k fun K3 hK3 => ?_
    refine awp_block ?_
    refine awp_sr rfl fun K hK => ?_
    simp -dsimp
    refine hK _ _ ?_; clear hK K
    refine awp_sr rfl fun K hK => ?_
    simp -dsimp [hx]
    refine callK_intro _ (h x (List.mem_of_getElem? hx)) (by simp) ?_
    simp -dsimp [hx]
    refine hK _ _ ?_; clear hK K
    refine awp_cond rfl (fun hc1 => ?_) (fun hc1 => ?_)
    · skip
      try simp at hc1
      refine awp_sr rfl fun K hK => ?_
      simp -dsimp
      refine hK _ _ ?_; clear hK K
      exact awp_ret (by simp [firstI_hit hx hc1 k2])
    · skip
      try simp at hc1
      refine awp_skip ?_
      simp only [thenA, inBlockA, reduceIte, Nat.reduceEqDiff, eq_self]
      refine hK3 _ _ ?_
      refine awp_prune [0, 1, 7, 8] ?_
      simp only [prune, List.map_cons, List.map_nil, Go.AM.look, Nat.reduceEqDiff, reduceIte]
      refine awp_r rfl fun K hK => ?_
      simp -dsimp [wk]
      refine hK _ _ ?_; clear hK K
      simp only [thenA, inBlockA, reduceIte, Nat.reduceEqDiff, eq_self]
      exact ⟨k + 1, ⟨by omega, by rw [any_take hx, k2, hc1]; rfl⟩, by omega, sub_same (by simp)⟩
  · skip
    try simp at hc0
    have hall := any_of_take (by omega) k2
    refine awp_exit ?_
    simp only [thenA, inBlockA, reduceIte, Nat.reduceEqDiff, eq_self]
    refine hK1 _ _ ?_
    refine awp_prune [] ?_
    simp only [prune, List.map_cons, List.map_nil, Go.AM.look, Nat.reduceEqDiff, reduceIte]
    refine awp_sr rfl fun K hK => ?_
    simp -dsimp
    refine hK _ _ ?_; clear hK K
    exact awp_ret (by simp [firstI_none hall])
theorem c_Cont_Rail (l : List Rail) (f : FuncId) (cl : List (List AV)) (q : Rail → Bool) (h : ∀ x ∈ l, PureCall Try.prog f (.agg x.cells :: ipts cl) (Bo (q x))) (hn : l.length ≤ 100000) :
    PureCall Try.prog 33 [.lst 5 (l.map Rail.cells), .clo f (ipts cl)] (Bo (l.any q)) := by
  refine PureCall.of_body Try.func33 rfl (by decide) (by simp [Try.ntmps33]) ?_
  simp only [Try.ntmps33, Try.results33]
  refine awp_sr rfl fun K hK => ?_
  simp -dsimp
  refine hK _ _ ?_; clear hK K
  refine awp_sr rfl fun K hK => ?_
  simp -dsimp
  refine callK_intro _ (c_Index_Rail l f cl q h hn) (by simp) ?_
  simp -dsimp
  refine hK _ _ ?_; clear hK K
  exact awp_ret (by simp [firstI_nn])
theorem c_Check1 (n : Node) : PureCall Try.prog 31 [.agg n.cells] (Bo (!nodeB n)) := by
  refine PureCall.of_body Try.func31 rfl (by decide) (by simp [Try.ntmps31]) ?_
  simp only [Try.ntmps31, Try.results31]
  refine awp_sr rfl fun K hK => ?_
  simp -dsimp
  refine hK _ _ ?_; clear hK K
  refine awp_sr rfl fun K hK => ?_
  simp -dsimp
  refine callK_intro _ (c_tnode n) (by simp) ?_
  simp -dsimp
  refine hK _ _ ?_; clear hK K
  exact awp_ret (by simp)
theorem c_Check2 (p : Plan) (r : Rail) (hA : p.Nodes.all nodeB = true) (hN : p.Nodes.length ≤ 300) : PureCall Try.prog 34 [.agg r.cells, .iptr p.cells] (Bo (!railB p r)) := by
  refine PureCall.of_body Try.func34 rfl (by decide) (by simp [Try.ntmps34]) ?_
  simp only [Try.ntmps34, Try.results34]
  refine awp_sr rfl fun K hK => ?_
  simp -dsimp
  refine hK _ _ ?_; clear hK K
  refine awp_sr rfl fun K hK => ?_
  simp -dsimp
  refine callK_intro _ (c_trail p r hA hN) (by simp) ?_
  simp -dsimp
  refine hK _ _ ?_; clear hK K
  exact awp_ret (by simp)
end Go.Tram
