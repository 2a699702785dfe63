/- Walks: the document's moves (tramlineref01). -/
import Derived.Test.YtdabjdajemiagaaGreatE1
import Derived.Test.YtdabjdajemiagaaGreatP1
import Derived.Test.YtdabjdajemiagaaGreatW3
namespace Go.Tram
open Go.AM Go.Proofs
set_option maxRecDepth 10000
set_option maxHeartbeats 4000000
set_option linter.unusedVariables false
set_option linter.unusedSimpArgs false

theorem c_SameM_lst (l : List Move) (hn : l.length ≤ 100000) : PureCall Tryz.prog 18 [.lst 2 (l.map Move.cells), .lst 2 (l.map Move.cells)] (Bo true) := by
  refine PureCall.of_body Tryz.func18 rfl (by decide) (by simp [Tryz.ntmps18]) ?_
  simp only [Tryz.ntmps18, Tryz.results18]
  refine awp_sr rfl fun K hK => ?_
  simp -dsimp
  refine hK _ _ ?_; clear hK K
  refine awp_seq_k fun K1 hK1 => ?_
  refine awp_sr rfl fun K hK => ?_
  simp -dsimp
  refine hK _ _ ?_; clear hK K
  refine awp_cond rfl (fun hc0 => ?_) (fun hc0 => ?_)
  · skip
    skip
    simp at hc0
  · skip
    skip
    refine awp_skip ?_
    simp only [thenA, inBlockA, reduceIte, Nat.reduceEqDiff, eq_self]
    refine hK1 _ _ ?_
    refine awp_prune [0, 1] ?_
    simp only [prune, List.map_cons, List.map_nil, Go.AM.look, Nat.reduceEqDiff, reduceIte]
    refine awp_seq_k fun K2 hK2 => ?_
    refine awp_sr rfl fun K hK => ?_
    simp -dsimp
    refine hK _ _ ?_; clear hK K
    refine awp_block ?_
    refine awp_prune [0, 1, 5] ?_
    simp only [prune, List.map_cons, List.map_nil, Go.AM.look, Nat.reduceEqDiff, reduceIte]
    refine awp_loop_l [0, 1] (α := Nat) (fun k => [(5, I k)]) (fun _ => []) (fun k => k ≤ l.length) (fun k => l.length - k) 0 ?_ ?_ ?_
    · simp
    · exact sub_same (by simp)
    rintro k k1
    simp only [List.cons_append, List.nil_append, prune, List.map_cons, List.map_nil, Go.AM.look, Nat.reduceEqDiff, reduceIte]
    refine awp_seq_k fun K3 hK3 => ?_
    refine awp_sr rfl fun K hK => ?_
    simp -dsimp
    refine hK _ _ ?_; clear hK K
    refine awp_cond rfl (fun hc1 => ?_) (fun hc1 => ?_)
    · skip
      try simp at hc1
      obtain ⟨c, hx⟩ : ∃ c, l[k]? = some c := ⟨_, List.getElem?_eq_getElem (by simpa using hc1)⟩
      have wk : IntKind.i64.wrap ((k : Int) + 1) = (k : Int) + 1 := wrap_in (by omega) (by omega)
      refine awp_skip ?_
      simp only [thenA, inBlockA, reduceIte, Nat.reduceEqDiff, eq_self]
      refine hK3 _ _ ?_
      refine awp_prune [0, 1, 5] ?_
      simp only [prune, List.map_cons, List.map_nil, Go.AM.look, Nat.reduceEqDiff, reduceIte]
      refine awp_seq_k fun K4 hK4 => ?_
      refine awp_block ?_
      refine awp_sd mixed rfl fun K hK => ?_
      simp -dsimp [hx]
      refine hK _ _ _ (by decide +kernel) ?_; clear hK K
      refine awp_cond rfl (fun hc2 => ?_) (fun hc2 => ?_)
      · skip
        skip
        simp at hc2
      · skip
        skip
        refine awp_skip ?_
        simp only [thenA, inBlockA, reduceIte, Nat.reduceEqDiff, eq_self]
        refine hK4 _ _ ?_
        refine awp_prune [0, 1, 5] ?_
        simp only [prune, List.map_cons, List.map_nil, Go.AM.look, Nat.reduceEqDiff, reduceIte]
        refine awp_r rfl fun K hK => ?_
        simp -dsimp [wk]
        refine hK _ _ ?_; clear hK K
        simp only [thenA, inBlockA, reduceIte, Nat.reduceEqDiff, eq_self]
        exact ⟨k + 1, by have := (List.getElem?_eq_some_iff.1 hx).1; omega, by have := (List.getElem?_eq_some_iff.1 hx).1; omega, sub_same (by simp)⟩
    · skip
      try simp at hc1
      refine awp_exit ?_
      simp only [thenA, inBlockA, reduceIte, Nat.reduceEqDiff, eq_self]
      refine hK2 _ _ ?_
      refine awp_prune [] ?_
      simp only [prune, List.map_cons, List.map_nil, Go.AM.look, Nat.reduceEqDiff, reduceIte]
      refine awp_sr rfl fun K hK => ?_
      simp -dsimp
      refine hK _ _ ?_; clear hK K
      exact awp_ret (by simp)
theorem c_SameC_lst (l : List Cover) (hn : l.length ≤ 100000) : PureCall Tryz.prog 35 [.lst 3 (l.map Cover.cells), .lst 3 (l.map Cover.cells)] (Bo true) := by
  refine PureCall.of_body Tryz.func35 rfl (by decide) (by simp [Tryz.ntmps35]) ?_
  simp only [Tryz.ntmps35, Tryz.results35]
  refine awp_sr rfl fun K hK => ?_
  simp -dsimp
  refine hK _ _ ?_; clear hK K
  refine awp_seq_k fun K1 hK1 => ?_
  refine awp_sr rfl fun K hK => ?_
  simp -dsimp
  refine hK _ _ ?_; clear hK K
  refine awp_cond rfl (fun hc0 => ?_) (fun hc0 => ?_)
  · skip
    skip
    simp at hc0
  · skip
    skip
    refine awp_skip ?_
    simp only [thenA, inBlockA, reduceIte, Nat.reduceEqDiff, eq_self]
    refine hK1 _ _ ?_
    refine awp_prune [0, 1] ?_
    simp only [prune, List.map_cons, List.map_nil, Go.AM.look, Nat.reduceEqDiff, reduceIte]
    refine awp_seq_k fun K2 hK2 => ?_
    refine awp_sr rfl fun K hK => ?_
    simp -dsimp
    refine hK _ _ ?_; clear hK K
    refine awp_block ?_
    refine awp_prune [0, 1, 5] ?_
    simp only [prune, List.map_cons, List.map_nil, Go.AM.look, Nat.reduceEqDiff, reduceIte]
    refine awp_loop_l [0, 1] (α := Nat) (fun k => [(5, I k)]) (fun _ => []) (fun k => k ≤ l.length) (fun k => l.length - k) 0 ?_ ?_ ?_
    · simp
    · exact sub_same (by simp)
    rintro k k1
    simp only [List.cons_append, List.nil_append, prune, List.map_cons, List.map_nil, Go.AM.look, Nat.reduceEqDiff, reduceIte]
    refine awp_seq_k fun K3 hK3 => ?_
    refine awp_sr rfl fun K hK => ?_
    simp -dsimp
    refine hK _ _ ?_; clear hK K
    refine awp_cond rfl (fun hc1 => ?_) (fun hc1 => ?_)
    · skip
      try simp at hc1
      obtain ⟨c, hx⟩ : ∃ c, l[k]? = some c := ⟨_, List.getElem?_eq_getElem (by simpa using hc1)⟩
      have wk : IntKind.i64.wrap ((k : Int) + 1) = (k : Int) + 1 := wrap_in (by omega) (by omega)
      refine awp_skip ?_
      simp only [thenA, inBlockA, reduceIte, Nat.reduceEqDiff, eq_self]
      refine hK3 _ _ ?_
      refine awp_prune [0, 1, 5] ?_
      simp only [prune, List.map_cons, List.map_nil, Go.AM.look, Nat.reduceEqDiff, reduceIte]
      refine awp_seq_k fun K4 hK4 => ?_
      refine awp_block ?_
      refine awp_sd mixed rfl fun K hK => ?_
      simp -dsimp [hx]
      refine hK _ _ _ (by decide +kernel) ?_; clear hK K
      refine awp_cond rfl (fun hc2 => ?_) (fun hc2 => ?_)
      · skip
        skip
        simp at hc2
      · skip
        skip
        refine awp_skip ?_
        simp only [thenA, inBlockA, reduceIte, Nat.reduceEqDiff, eq_self]
        refine hK4 _ _ ?_
        refine awp_prune [0, 1, 5] ?_
        simp only [prune, List.map_cons, List.map_nil, Go.AM.look, Nat.reduceEqDiff, reduceIte]
        refine awp_r rfl fun K hK => ?_
        simp -dsimp [wk]
        refine hK _ _ ?_; clear hK K
        simp only [thenA, inBlockA, reduceIte, Nat.reduceEqDiff, eq_self]
        exact ⟨k + 1, by have := (List.getElem?_eq_some_iff.1 hx).1; omega, by have := (List.getElem?_eq_some_iff.1 hx).1; omega, sub_same (by simp)⟩
    · skip
      try simp at hc1
      refine awp_exit ?_
      simp only [thenA, inBlockA, reduceIte, Nat.reduceEqDiff, eq_self]
      refine hK2 _ _ ?_
      refine awp_prune [] ?_
      simp only [prune, List.map_cons, List.map_nil, Go.AM.look, Nat.reduceEqDiff, reduceIte]
      refine awp_sr rfl fun K hK => ?_
      simp -dsimp
      refine hK _ _ ?_; clear hK K
      exact awp_ret (by simp)
theorem c_SameI_lst (l : List Int) (hn : l.length ≤ 100000) : PureCall Tryz.prog 45 [.lst 1 (l.map nCell), .lst 1 (l.map nCell)] (Bo true) := by
  refine PureCall.of_body Tryz.func45 rfl (by decide) (by simp [Tryz.ntmps45]) ?_
  simp only [Tryz.ntmps45, Tryz.results45]
  refine awp_sr rfl fun K hK => ?_
  simp -dsimp
  refine hK _ _ ?_; clear hK K
  refine awp_seq_k fun K1 hK1 => ?_
  refine awp_sr rfl fun K hK => ?_
  simp -dsimp
  refine hK _ _ ?_; clear hK K
  refine awp_cond rfl (fun hc0 => ?_) (fun hc0 => ?_)
  · skip
    skip
    simp at hc0
  · skip
    skip
    refine awp_skip ?_
    simp only [thenA, inBlockA, reduceIte, Nat.reduceEqDiff, eq_self]
    refine hK1 _ _ ?_
    refine awp_prune [0, 1] ?_
    simp only [prune, List.map_cons, List.map_nil, Go.AM.look, Nat.reduceEqDiff, reduceIte]
    refine awp_seq_k fun K2 hK2 => ?_
    refine awp_sr rfl fun K hK => ?_
    simp -dsimp
    refine hK _ _ ?_; clear hK K
    refine awp_block ?_
    refine awp_prune [0, 1, 5] ?_
    simp only [prune, List.map_cons, List.map_nil, Go.AM.look, Nat.reduceEqDiff, reduceIte]
    refine awp_loop_l [0, 1] (α := Nat) (fun k => [(5, I k)]) (fun _ => []) (fun k => k ≤ l.length) (fun k => l.length - k) 0 ?_ ?_ ?_
    · simp
    · exact sub_same (by simp)
    rintro k k1
    simp only [List.cons_append, List.nil_append, prune, List.map_cons, List.map_nil, Go.AM.look, Nat.reduceEqDiff, reduceIte]
    refine awp_seq_k fun K3 hK3 => ?_
    refine awp_sr rfl fun K hK => ?_
    simp -dsimp
    refine hK _ _ ?_; clear hK K
    refine awp_cond rfl (fun hc1 => ?_) (fun hc1 => ?_)
    · skip
      try simp at hc1
      obtain ⟨c, hx⟩ : ∃ c, l[k]? = some c := ⟨_, List.getElem?_eq_getElem (by simpa using hc1)⟩
      have wk : IntKind.i64.wrap ((k : Int) + 1) = (k : Int) + 1 := wrap_in (by omega) (by omega)
      refine awp_skip ?_
      simp only [thenA, inBlockA, reduceIte, Nat.reduceEqDiff, eq_self]
      refine hK3 _ _ ?_
      refine awp_prune [0, 1, 5] ?_
      simp only [prune, List.map_cons, List.map_nil, Go.AM.look, Nat.reduceEqDiff, reduceIte]
      refine awp_seq_k fun K4 hK4 => ?_
      refine awp_block ?_
      refine awp_sd mixed rfl fun K hK => ?_
      simp -dsimp [hx]
      refine hK _ _ _ (by decide +kernel) ?_; clear hK K
      refine awp_cond rfl (fun hc2 => ?_) (fun hc2 => ?_)
      · skip
        skip
        simp at hc2
      · skip
        skip
        refine awp_skip ?_
        simp only [thenA, inBlockA, reduceIte, Nat.reduceEqDiff, eq_self]
        refine hK4 _ _ ?_
        refine awp_prune [0, 1, 5] ?_
        simp only [prune, List.map_cons, List.map_nil, Go.AM.look, Nat.reduceEqDiff, reduceIte]
        refine awp_r rfl fun K hK => ?_
        simp -dsimp [wk]
        refine hK _ _ ?_; clear hK K
        simp only [thenA, inBlockA, reduceIte, Nat.reduceEqDiff, eq_self]
        exact ⟨k + 1, by have := (List.getElem?_eq_some_iff.1 hx).1; omega, by have := (List.getElem?_eq_some_iff.1 hx).1; omega, sub_same (by simp)⟩
    · skip
      try simp at hc1
      refine awp_exit ?_
      simp only [thenA, inBlockA, reduceIte, Nat.reduceEqDiff, eq_self]
      refine hK2 _ _ ?_
      refine awp_prune [] ?_
      simp only [prune, List.map_cons, List.map_nil, Go.AM.look, Nat.reduceEqDiff, reduceIte]
      refine awp_sr rfl fun K hK => ?_
      simp -dsimp
      refine hK _ _ ?_; clear hK K
      exact awp_ret (by simp)
theorem c_SameM_full (l : List Move) (hn : l.length ≤ 100000) : PureCall Tryz.prog 18 [.lst 2 (l.map Move.cells), .full 2 (l.map Move.cells)] (Bo true) := by
  refine PureCall.of_body Tryz.func18 rfl (by decide) (by simp [Tryz.ntmps18]) ?_
  simp only [Tryz.ntmps18, Tryz.results18]
  refine awp_sr rfl fun K hK => ?_
  simp -dsimp
  refine hK _ _ ?_; clear hK K
  refine awp_seq_k fun K1 hK1 => ?_
  refine awp_sr rfl fun K hK => ?_
  simp -dsimp
  refine hK _ _ ?_; clear hK K
  refine awp_cond rfl (fun hc0 => ?_) (fun hc0 => ?_)
  · skip
    skip
    simp at hc0
  · skip
    skip
    refine awp_skip ?_
    simp only [thenA, inBlockA, reduceIte, Nat.reduceEqDiff, eq_self]
    refine hK1 _ _ ?_
    refine awp_prune [0, 1] ?_
    simp only [prune, List.map_cons, List.map_nil, Go.AM.look, Nat.reduceEqDiff, reduceIte]
    refine awp_seq_k fun K2 hK2 => ?_
    refine awp_sr rfl fun K hK => ?_
    simp -dsimp
    refine hK _ _ ?_; clear hK K
    refine awp_block ?_
    refine awp_prune [0, 1, 5] ?_
    simp only [prune, List.map_cons, List.map_nil, Go.AM.look, Nat.reduceEqDiff, reduceIte]
    refine awp_loop_l [0, 1] (α := Nat) (fun k => [(5, I k)]) (fun _ => []) (fun k => k ≤ l.length) (fun k => l.length - k) 0 ?_ ?_ ?_
    · simp
    · exact sub_same (by simp)
    rintro k k1
    simp only [List.cons_append, List.nil_append, prune, List.map_cons, List.map_nil, Go.AM.look, Nat.reduceEqDiff, reduceIte]
    refine awp_seq_k fun K3 hK3 => ?_
    refine awp_sr rfl fun K hK => ?_
    simp -dsimp
    refine hK _ _ ?_; clear hK K
    refine awp_cond rfl (fun hc1 => ?_) (fun hc1 => ?_)
    · skip
      try simp at hc1
      obtain ⟨c, hx⟩ : ∃ c, l[k]? = some c := ⟨_, List.getElem?_eq_getElem (by simpa using hc1)⟩
      have wk : IntKind.i64.wrap ((k : Int) + 1) = (k : Int) + 1 := wrap_in (by omega) (by omega)
      refine awp_skip ?_
      simp only [thenA, inBlockA, reduceIte, Nat.reduceEqDiff, eq_self]
      refine hK3 _ _ ?_
      refine awp_prune [0, 1, 5] ?_
      simp only [prune, List.map_cons, List.map_nil, Go.AM.look, Nat.reduceEqDiff, reduceIte]
      refine awp_seq_k fun K4 hK4 => ?_
      refine awp_block ?_
      refine awp_sd mixed rfl fun K hK => ?_
      simp -dsimp [hx]
      refine hK _ _ _ (by decide +kernel) ?_; clear hK K
      refine awp_cond rfl (fun hc2 => ?_) (fun hc2 => ?_)
      · skip
        skip
        simp at hc2
      · skip
        skip
        refine awp_skip ?_
        simp only [thenA, inBlockA, reduceIte, Nat.reduceEqDiff, eq_self]
        refine hK4 _ _ ?_
        refine awp_prune [0, 1, 5] ?_
        simp only [prune, List.map_cons, List.map_nil, Go.AM.look, Nat.reduceEqDiff, reduceIte]
        refine awp_r rfl fun K hK => ?_
        simp -dsimp [wk]
        refine hK _ _ ?_; clear hK K
        simp only [thenA, inBlockA, reduceIte, Nat.reduceEqDiff, eq_self]
        exact ⟨k + 1, by have := (List.getElem?_eq_some_iff.1 hx).1; omega, by have := (List.getElem?_eq_some_iff.1 hx).1; omega, sub_same (by simp)⟩
    · skip
      try simp at hc1
      refine awp_exit ?_
      simp only [thenA, inBlockA, reduceIte, Nat.reduceEqDiff, eq_self]
      refine hK2 _ _ ?_
      refine awp_prune [] ?_
      simp only [prune, List.map_cons, List.map_nil, Go.AM.look, Nat.reduceEqDiff, reduceIte]
      refine awp_sr rfl fun K hK => ?_
      simp -dsimp
      refine hK _ _ ?_; clear hK K
      exact awp_ret (by simp)
theorem c_SameC_full (l : List Cover) (hn : l.length ≤ 100000) : PureCall Tryz.prog 35 [.lst 3 (l.map Cover.cells), .full 3 (l.map Cover.cells)] (Bo true) := by
  refine PureCall.of_body Tryz.func35 rfl (by decide) (by simp [Tryz.ntmps35]) ?_
  simp only [Tryz.ntmps35, Tryz.results35]
  refine awp_sr rfl fun K hK => ?_
  simp -dsimp
  refine hK _ _ ?_; clear hK K
  refine awp_seq_k fun K1 hK1 => ?_
  refine awp_sr rfl fun K hK => ?_
  simp -dsimp
  refine hK _ _ ?_; clear hK K
  refine awp_cond rfl (fun hc0 => ?_) (fun hc0 => ?_)
  · skip
    skip
    simp at hc0
  · skip
    skip
    refine awp_skip ?_
    simp only [thenA, inBlockA, reduceIte, Nat.reduceEqDiff, eq_self]
    refine hK1 _ _ ?_
    refine awp_prune [0, 1] ?_
    simp only [prune, List.map_cons, List.map_nil, Go.AM.look, Nat.reduceEqDiff, reduceIte]
    refine awp_seq_k fun K2 hK2 => ?_
    refine awp_sr rfl fun K hK => ?_
    simp -dsimp
    refine hK _ _ ?_; clear hK K
    refine awp_block ?_
    refine awp_prune [0, 1, 5] ?_
    simp only [prune, List.map_cons, List.map_nil, Go.AM.look, Nat.reduceEqDiff, reduceIte]
    refine awp_loop_l [0, 1] (α := Nat) (fun k => [(5, I k)]) (fun _ => []) (fun k => k ≤ l.length) (fun k => l.length - k) 0 ?_ ?_ ?_
    · simp
    · exact sub_same (by simp)
    rintro k k1
    simp only [List.cons_append, List.nil_append, prune, List.map_cons, List.map_nil, Go.AM.look, Nat.reduceEqDiff, reduceIte]
    refine awp_seq_k fun K3 hK3 => ?_
    refine awp_sr rfl fun K hK => ?_
    simp -dsimp
    refine hK _ _ ?_; clear hK K
    refine awp_cond rfl (fun hc1 => ?_) (fun hc1 => ?_)
    · skip
      try simp at hc1
      obtain ⟨c, hx⟩ : ∃ c, l[k]? = some c := ⟨_, List.getElem?_eq_getElem (by simpa using hc1)⟩
      have wk : IntKind.i64.wrap ((k : Int) + 1) = (k : Int) + 1 := wrap_in (by omega) (by omega)
      refine awp_skip ?_
      simp only [thenA, inBlockA, reduceIte, Nat.reduceEqDiff, eq_self]
      refine hK3 _ _ ?_
      refine awp_prune [0, 1, 5] ?_
      simp only [prune, List.map_cons, List.map_nil, Go.AM.look, Nat.reduceEqDiff, reduceIte]
      refine awp_seq_k fun K4 hK4 => ?_
      refine awp_block ?_
      refine awp_sd mixed rfl fun K hK => ?_
      simp -dsimp [hx]
      refine hK _ _ _ (by decide +kernel) ?_; clear hK K
      refine awp_cond rfl (fun hc2 => ?_) (fun hc2 => ?_)
      · skip
        skip
        simp at hc2
      · skip
        skip
        refine awp_skip ?_
        simp only [thenA, inBlockA, reduceIte, Nat.reduceEqDiff, eq_self]
        refine hK4 _ _ ?_
        refine awp_prune [0, 1, 5] ?_
        simp only [prune, List.map_cons, List.map_nil, Go.AM.look, Nat.reduceEqDiff, reduceIte]
        refine awp_r rfl fun K hK => ?_
        simp -dsimp [wk]
        refine hK _ _ ?_; clear hK K
        simp only [thenA, inBlockA, reduceIte, Nat.reduceEqDiff, eq_self]
        exact ⟨k + 1, by have := (List.getElem?_eq_some_iff.1 hx).1; omega, by have := (List.getElem?_eq_some_iff.1 hx).1; omega, sub_same (by simp)⟩
    · skip
      try simp at hc1
      refine awp_exit ?_
      simp only [thenA, inBlockA, reduceIte, Nat.reduceEqDiff, eq_self]
      refine hK2 _ _ ?_
      refine awp_prune [] ?_
      simp only [prune, List.map_cons, List.map_nil, Go.AM.look, Nat.reduceEqDiff, reduceIte]
      refine awp_sr rfl fun K hK => ?_
      simp -dsimp
      refine hK _ _ ?_; clear hK K
      exact awp_ret (by simp)
theorem c_SameI_full (l : List Int) (hn : l.length ≤ 100000) : PureCall Tryz.prog 45 [.lst 1 (l.map nCell), .full 1 (l.map nCell)] (Bo true) := by
  refine PureCall.of_body Tryz.func45 rfl (by decide) (by simp [Tryz.ntmps45]) ?_
  simp only [Tryz.ntmps45, Tryz.results45]
  refine awp_sr rfl fun K hK => ?_
  simp -dsimp
  refine hK _ _ ?_; clear hK K
  refine awp_seq_k fun K1 hK1 => ?_
  refine awp_sr rfl fun K hK => ?_
  simp -dsimp
  refine hK _ _ ?_; clear hK K
  refine awp_cond rfl (fun hc0 => ?_) (fun hc0 => ?_)
  · skip
    skip
    simp at hc0
  · skip
    skip
    refine awp_skip ?_
    simp only [thenA, inBlockA, reduceIte, Nat.reduceEqDiff, eq_self]
    refine hK1 _ _ ?_
    refine awp_prune [0, 1] ?_
    simp only [prune, List.map_cons, List.map_nil, Go.AM.look, Nat.reduceEqDiff, reduceIte]
    refine awp_seq_k fun K2 hK2 => ?_
    refine awp_sr rfl fun K hK => ?_
    simp -dsimp
    refine hK _ _ ?_; clear hK K
    refine awp_block ?_
    refine awp_prune [0, 1, 5] ?_
    simp only [prune, List.map_cons, List.map_nil, Go.AM.look, Nat.reduceEqDiff, reduceIte]
    refine awp_loop_l [0, 1] (α := Nat) (fun k => [(5, I k)]) (fun _ => []) (fun k => k ≤ l.length) (fun k => l.length - k) 0 ?_ ?_ ?_
    · simp
    · exact sub_same (by simp)
    rintro k k1
    simp only [List.cons_append, List.nil_append, prune, List.map_cons, List.map_nil, Go.AM.look, Nat.reduceEqDiff, reduceIte]
    refine awp_seq_k fun K3 hK3 => ?_
    refine awp_sr rfl fun K hK => ?_
    simp -dsimp
    refine hK _ _ ?_; clear hK K
    refine awp_cond rfl (fun hc1 => ?_) (fun hc1 => ?_)
    · skip
      try simp at hc1
      obtain ⟨c, hx⟩ : ∃ c, l[k]? = some c := ⟨_, List.getElem?_eq_getElem (by simpa using hc1)⟩
      have wk : IntKind.i64.wrap ((k : Int) + 1) = (k : Int) + 1 := wrap_in (by omega) (by omega)
      refine awp_skip ?_
      simp only [thenA, inBlockA, reduceIte, Nat.reduceEqDiff, eq_self]
      refine hK3 _ _ ?_
      refine awp_prune [0, 1, 5] ?_
      simp only [prune, List.map_cons, List.map_nil, Go.AM.look, Nat.reduceEqDiff, reduceIte]
      refine awp_seq_k fun K4 hK4 => ?_
      refine awp_block ?_
      refine awp_sd mixed rfl fun K hK => ?_
      simp -dsimp [hx]
      refine hK _ _ _ (by decide +kernel) ?_; clear hK K
      refine awp_cond rfl (fun hc2 => ?_) (fun hc2 => ?_)
      · skip
        skip
        simp at hc2
      · skip
        skip
        refine awp_skip ?_
        simp only [thenA, inBlockA, reduceIte, Nat.reduceEqDiff, eq_self]
        refine hK4 _ _ ?_
        refine awp_prune [0, 1, 5] ?_
        simp only [prune, List.map_cons, List.map_nil, Go.AM.look, Nat.reduceEqDiff, reduceIte]
        refine awp_r rfl fun K hK => ?_
        simp -dsimp [wk]
        refine hK _ _ ?_; clear hK K
        simp only [thenA, inBlockA, reduceIte, Nat.reduceEqDiff, eq_self]
        exact ⟨k + 1, by have := (List.getElem?_eq_some_iff.1 hx).1; omega, by have := (List.getElem?_eq_some_iff.1 hx).1; omega, sub_same (by simp)⟩
    · skip
      try simp at hc1
      refine awp_exit ?_
      simp only [thenA, inBlockA, reduceIte, Nat.reduceEqDiff, eq_self]
      refine hK2 _ _ ?_
      refine awp_prune [] ?_
      simp only [prune, List.map_cons, List.map_nil, Go.AM.look, Nat.reduceEqDiff, reduceIte]
      refine awp_sr rfl fun K hK => ?_
      simp -dsimp
      refine hK _ _ ?_; clear hK K
      exact awp_ret (by simp)

theorem c_rarr (m : Move) : PureCall Tryz.prog 61 [m.av] (.agg [I m.Rail, Bo (!m.Back)]) := by
  refine PureCall.of_body Tryz.func61 rfl (by decide) (by simp [Tryz.ntmps61]) ?_
  simp only [Tryz.ntmps61, Tryz.results61]
  refine awp_sr rfl fun K hK => ?_
  simp -dsimp
  refine hK _ _ ?_; clear hK K
  refine awp_sr rfl fun K hK => ?_
  simp -dsimp
  refine hK _ _ ?_; clear hK K
  exact awp_ret (by simp)
theorem c_rlea (m : Move) : PureCall Tryz.prog 63 [m.av] (.agg [I m.Rail, Bo m.Back]) := by
  refine PureCall.of_body Tryz.func63 rfl (by decide) (by simp [Tryz.ntmps63]) ?_
  simp only [Tryz.ntmps63, Tryz.results63]
  refine awp_sr rfl fun K hK => ?_
  simp -dsimp
  refine hK _ _ ?_; clear hK K
  refine awp_sr rfl fun K hK => ?_
  simp -dsimp
  refine hK _ _ ?_; clear hK K
  exact awp_ret (by simp)
theorem c_rMove (p : Plan) (m : Move) (hR : p.Rails.length ≤ 100000) : PureCall Tryz.prog 52 [p.av, m.av] (Bo (movB p m)) := by
  have w : IntKind.i64.wrap ((p.Rails.length : Int) - 1) = (p.Rails.length : Int) - 1 := wrap_in (by omega) (by omega)
  refine PureCall.of_body Tryz.func52 rfl (by decide) (by simp [Tryz.ntmps52]) ?_
  simp only [Tryz.ntmps52, Tryz.results52]
  refine awp_sr rfl fun K hK => ?_
  simp -dsimp
  refine hK _ _ ?_; clear hK K
  refine awp_sr rfl fun K hK => ?_
  simp -dsimp [w]
  refine callK_intro _ (c_in m.Rail 0 _) (by simp) ?_
  simp -dsimp [w]
  refine hK _ _ ?_; clear hK K
  exact awp_ret (by simp [movB])
theorem c_rOf (k : Int) (h0 : 0 ≤ k) (h1 : k ≤ 1000000) : PureCall Tryz.prog 40 [I k] (moveM k).av := by
  have w1 : IntKind.i64.wrap (k / 2) = k / 2 := wrap_in (by omega) (by omega)
  have d1 : k.tdiv 2 = k / 2 := Int.tdiv_eq_ediv_of_nonneg h0
  have d2 : k.tmod 2 = k % 2 := Int.tmod_eq_emod_of_nonneg h0
  refine PureCall.of_body Tryz.func40 rfl (by decide) (by simp [Tryz.ntmps40]) ?_
  simp only [Tryz.ntmps40, Tryz.results40]
  refine awp_sr rfl fun K hK => ?_
  simp -dsimp
  refine hK _ _ ?_; clear hK K
  refine awp_sr rfl fun K hK => ?_
  simp -dsimp [w1, d1, d2]
  refine hK _ _ ?_; clear hK K
  exact awp_ret (by simp [moveM]; rfl)
theorem c_rNumber (m : Move) (h0 : -1000000 ≤ m.Rail) (h1 : m.Rail ≤ 1000000) : PureCall Tryz.prog 29 [m.av] (I (numM m)) := by
  have w1 : IntKind.i64.wrap (2 * m.Rail) = 2 * m.Rail := wrap_in (by omega) (by omega)
  have w2 : IntKind.i64.wrap (2 * m.Rail + 1) = 2 * m.Rail + 1 := wrap_in (by omega) (by omega)
  refine PureCall.of_body Tryz.func29 rfl (by decide) (by simp [Tryz.ntmps29]) ?_
  simp only [Tryz.ntmps29, Tryz.results29]
  refine awp_sr rfl fun K hK => ?_
  simp -dsimp
  refine hK _ _ ?_; clear hK K
  refine awp_seq_k fun K1 hK1 => ?_
  refine awp_sr rfl fun K hK => ?_
  simp -dsimp
  refine hK _ _ ?_; clear hK K
  refine awp_cond rfl (fun hc0 => ?_) (fun hc0 => ?_)
  · skip
    skip
    refine awp_sr rfl fun K hK => ?_
    simp -dsimp [w1, w2]
    refine hK _ _ ?_; clear hK K
    exact awp_ret (by simp [numM, hc0])
  · skip
    skip
    refine awp_skip ?_
    simp only [thenA, inBlockA, reduceIte, Nat.reduceEqDiff, eq_self]
    refine hK1 _ _ ?_
    refine awp_prune [1] ?_
    simp only [prune, List.map_cons, List.map_nil, Go.AM.look, Nat.reduceEqDiff, reduceIte]
    refine awp_sr rfl fun K hK => ?_
    simp -dsimp [w1, w2]
    refine hK _ _ ?_; clear hK K
    exact awp_ret (by simp [numM, hc0])

theorem c_index (n : Node) (e : REnd) (hn : n.Ends.length ≤ 1000) : PureCall Tryz.prog 62 [n.av, e.av] (I (idxE n e)) := by
  refine PureCall.of_body Tryz.func62 rfl (by decide) (by simp [Tryz.ntmps62]) ?_
  simp only [Tryz.ntmps62, Tryz.results62]
  refine awp_sr rfl fun K hK => ?_
  simp -dsimp
  refine hK _ _ ?_; clear hK K
  refine awp_seq_k fun K1 hK1 => ?_
  refine awp_sr rfl fun K hK => ?_
  simp -dsimp
  refine hK _ _ ?_; clear hK K
  refine awp_block ?_
  refine awp_prune [2, 3, 5] ?_
  simp only [prune, List.map_cons, List.map_nil, Go.AM.look, Nat.reduceEqDiff, reduceIte]
  refine awp_loop_l [2, 3] (α := Nat) (fun k => [(5, I k)]) (fun _ => [some (.els 5 [n.cells]), some (.els 2 [e.cells])]) (fun k => k ≤ n.Ends.length ∧ idxTo e (n.Ends.drop k) k = idxE n e) (fun k => n.Ends.length - k) 0 ?_ ?_ ?_
  · exact ⟨Nat.zero_le _, rfl⟩
  · exact sub_same (by simp)
  rintro k ⟨k1, k2⟩
  simp only [List.cons_append, List.nil_append, prune, List.map_cons, List.map_nil, Go.AM.look, Nat.reduceEqDiff, reduceIte]
  refine awp_seq_k fun K2 hK2 => ?_
  refine awp_sr rfl fun K hK => ?_
  simp -dsimp
  refine hK _ _ ?_; clear hK K
  refine awp_cond rfl (fun hc0 => ?_) (fun hc0 => ?_)
  · skip
    try simp at hc0
    obtain ⟨x, hx⟩ : ∃ x, n.Ends[k]? = some x := ⟨_, List.getElem?_eq_getElem (by simpa using hc0)⟩
    obtain ⟨hxl, hxe⟩ := List.getElem?_eq_some_iff.1 hx
    have wk : IntKind.i64.wrap ((k : Int) + 1) = (k : Int) + 1 := wrap_in (by omega) (by omega)
    rw [List.drop_eq_getElem_cons hxl, hxe] at k2
    simp only [idxTo] at k2
    refine awp_skip ?_
    simp only [thenA, inBlockA, reduceIte, Nat.reduceEqDiff, eq_self]
    refine hK2 _ _ ?_
    refine awp_prune [2, 3, 5] ?_
    simp only [prune, List.map_cons, List.map_nil, Go.AM.look, Nat.reduceEqDiff, reduceIte]
    refine awp_seq_k fun K3 hK3 => ?_
    refine awp_block ?_
    refine awp_sd mixed rfl fun K hK => ?_
    simp -dsimp [hx]
    refine hK _ _ _ (by decide +kernel) ?_; clear hK K
    refine awp_cond rfl (fun hc1 => ?_) (fun hc1 => ?_)
    · skip
      skip
      have hxe2 : x = e := by obtain ⟨a, b⟩ := x; obtain ⟨c, d⟩ := e; simpa using hc1
      rw [if_pos hxe2] at k2
      refine awp_sr rfl fun K hK => ?_
      simp -dsimp
      refine hK _ _ ?_; clear hK K
      exact awp_ret (by simp [← k2])
    · skip
      skip
      have hxe2 : x ≠ e := by rintro rfl; simp at hc1
      rw [if_neg hxe2] at k2
      refine awp_skip ?_
      simp only [thenA, inBlockA, reduceIte, Nat.reduceEqDiff, eq_self]
      refine hK3 _ _ ?_
      refine awp_prune [2, 3, 5] ?_
      simp only [prune, List.map_cons, List.map_nil, Go.AM.look, Nat.reduceEqDiff, reduceIte]
      refine awp_r rfl fun K hK => ?_
      simp -dsimp [wk]
      refine hK _ _ ?_; clear hK K
      simp only [thenA, inBlockA, reduceIte, Nat.reduceEqDiff, eq_self]
      exact ⟨k + 1, ⟨by omega, by rw [← k2]; rfl⟩, by omega, sub_same (by simp)⟩
  · skip
    try simp at hc0
    have hke : k = n.Ends.length := by have : ¬ k < n.Ends.length := (by simpa using hc0); omega
    subst hke
    rw [List.drop_length] at k2
    refine awp_exit ?_
    simp only [thenA, inBlockA, reduceIte, Nat.reduceEqDiff, eq_self]
    refine hK1 _ _ ?_
    refine awp_prune [] ?_
    simp only [prune, List.map_cons, List.map_nil, Go.AM.look, Nat.reduceEqDiff, reduceIte]
    refine awp_sr rfl fun K hK => ?_
    simp -dsimp
    refine hK _ _ ?_; clear hK K
    exact awp_ret (by simp [← k2, idxTo])
theorem c_rlets1 (n : Node) (a b : Int) (ha : 0 ≤ a ∧ a ≤ 1000) (hb : 0 ≤ b ∧ b ≤ 1000) (hk : n.Kind = 1) : PureCall Tryz.prog 64 [n.av, I a, I b] (Bo (letsB n a b)) := by
  have w : IntKind.i64.wrap (a + b) = a + b := wrap_in (by omega) (by omega)
  have w2 : (a + b).tmod 2 = (a + b) % 2 := Int.tmod_eq_emod_of_nonneg (by omega)
  unfold letsB
  simp only [Node.av, Node.cells, hk, Int.reduceEq, if_false, if_true, reduceIte]
  refine PureCall.of_body Tryz.func64 rfl (by decide) (by simp [Tryz.ntmps64]) ?_
  simp only [Tryz.ntmps64, Tryz.results64]
  refine awp_sr rfl fun K hK => ?_
  simp -dsimp [w, w2]
  refine hK _ _ ?_; clear hK K
  refine awp_seq_k fun K1 hK1 => ?_
  refine awp_sr rfl fun K hK => ?_
  simp -dsimp [w, w2]
  refine hK _ _ ?_; clear hK K
  refine awp_block ?_
  refine awp_sr rfl fun K hK => ?_
  simp -dsimp [w, w2]
  refine hK _ _ ?_; clear hK K
  refine awp_cond rfl (fun hc0 => ?_) (fun hc0 => ?_)
  · skip
    skip
    refine awp_sr rfl fun K hK => ?_
    simp -dsimp [w, w2]
    refine hK _ _ ?_; clear hK K
    first | (exfalso; simp at hc0; done) | (exfalso; simp at hc1; done) | (exfalso; simp at hc2; done) | (exfalso; simp at hc3; done) | (exfalso; simp at hc4; done) | (refine awp_ret ?_; simp; done) | (refine awp_ret ?_; simp; exact Bool.eq_iff_iff.2 (by simp; try omega))
  · skip
    skip
    refine awp_sr rfl fun K hK => ?_
    simp -dsimp [w, w2]
    refine hK _ _ ?_; clear hK K
    refine awp_cond rfl (fun hc1 => ?_) (fun hc1 => ?_)
    · skip
      skip
      refine awp_sr rfl fun K hK => ?_
      simp -dsimp [w, w2]
      refine hK _ _ ?_; clear hK K
      first | (exfalso; simp at hc0; done) | (exfalso; simp at hc1; done) | (exfalso; simp at hc2; done) | (exfalso; simp at hc3; done) | (exfalso; simp at hc4; done) | (refine awp_ret ?_; simp; done) | (refine awp_ret ?_; simp; exact Bool.eq_iff_iff.2 (by simp; try omega))
    · skip
      skip
      refine awp_sr rfl fun K hK => ?_
      simp -dsimp [w, w2]
      refine hK _ _ ?_; clear hK K
      refine awp_cond rfl (fun hc2 => ?_) (fun hc2 => ?_)
      · skip
        skip
        refine awp_sr rfl fun K hK => ?_
        simp -dsimp [w, w2]
        refine hK _ _ ?_; clear hK K
        first | (exfalso; simp at hc0; done) | (exfalso; simp at hc1; done) | (exfalso; simp at hc2; done) | (exfalso; simp at hc3; done) | (exfalso; simp at hc4; done) | (refine awp_ret ?_; simp; done) | (refine awp_ret ?_; simp; exact Bool.eq_iff_iff.2 (by simp; try omega))
      · skip
        skip
        refine awp_sr rfl fun K hK => ?_
        simp -dsimp [w, w2]
        refine hK _ _ ?_; clear hK K
        refine awp_cond rfl (fun hc3 => ?_) (fun hc3 => ?_)
        · skip
          skip
          refine awp_sr rfl fun K hK => ?_
          simp -dsimp [w, w2]
          refine hK _ _ ?_; clear hK K
          first | (exfalso; simp at hc0; done) | (exfalso; simp at hc1; done) | (exfalso; simp at hc2; done) | (exfalso; simp at hc3; done) | (exfalso; simp at hc4; done) | (refine awp_ret ?_; simp; done) | (refine awp_ret ?_; simp; exact Bool.eq_iff_iff.2 (by simp; try omega))
        · skip
          skip
          refine awp_sr rfl fun K hK => ?_
          simp -dsimp [w, w2]
          refine hK _ _ ?_; clear hK K
          refine awp_cond rfl (fun hc4 => ?_) (fun hc4 => ?_)
          · skip
            skip
            refine awp_sr rfl fun K hK => ?_
            simp -dsimp [w, w2]
            refine hK _ _ ?_; clear hK K
            first | (exfalso; simp at hc0; done) | (exfalso; simp at hc1; done) | (exfalso; simp at hc2; done) | (exfalso; simp at hc3; done) | (exfalso; simp at hc4; done) | (refine awp_ret ?_; simp; done) | (refine awp_ret ?_; simp; exact Bool.eq_iff_iff.2 (by simp; try omega))
          · skip
            skip
            refine awp_skip ?_
            simp only [thenA, inBlockA, reduceIte, Nat.reduceEqDiff, eq_self]
            refine hK1 _ _ ?_
            refine awp_prune [] ?_
            simp only [prune, List.map_cons, List.map_nil, Go.AM.look, Nat.reduceEqDiff, reduceIte]
            refine awp_sr rfl fun K hK => ?_
            simp -dsimp [w, w2]
            refine hK _ _ ?_; clear hK K
            first | (exfalso; simp at hc0; done) | (exfalso; simp at hc1; done) | (exfalso; simp at hc2; done) | (exfalso; simp at hc3; done) | (exfalso; simp at hc4; done) | (refine awp_ret ?_; simp; done) | (refine awp_ret ?_; simp; exact Bool.eq_iff_iff.2 (by simp; try omega))
theorem c_rlets2 (n : Node) (a b : Int) (ha : 0 ≤ a ∧ a ≤ 1000) (hb : 0 ≤ b ∧ b ≤ 1000) (hk : n.Kind = 2) : PureCall Tryz.prog 64 [n.av, I a, I b] (Bo (letsB n a b)) := by
  have w : IntKind.i64.wrap (a + b) = a + b := wrap_in (by omega) (by omega)
  have w2 : (a + b).tmod 2 = (a + b) % 2 := Int.tmod_eq_emod_of_nonneg (by omega)
  unfold letsB
  simp only [Node.av, Node.cells, hk, Int.reduceEq, if_false, if_true, reduceIte]
  refine PureCall.of_body Tryz.func64 rfl (by decide) (by simp [Tryz.ntmps64]) ?_
  simp only [Tryz.ntmps64, Tryz.results64]
  refine awp_sr rfl fun K hK => ?_
  simp -dsimp [w, w2]
  refine hK _ _ ?_; clear hK K
  refine awp_seq_k fun K1 hK1 => ?_
  refine awp_sr rfl fun K hK => ?_
  simp -dsimp [w, w2]
  refine hK _ _ ?_; clear hK K
  refine awp_block ?_
  refine awp_sr rfl fun K hK => ?_
  simp -dsimp [w, w2]
  refine hK _ _ ?_; clear hK K
  refine awp_cond rfl (fun hc0 => ?_) (fun hc0 => ?_)
  · skip
    skip
    refine awp_sr rfl fun K hK => ?_
    simp -dsimp [w, w2]
    refine hK _ _ ?_; clear hK K
    first | (exfalso; simp at hc0; done) | (exfalso; simp at hc1; done) | (exfalso; simp at hc2; done) | (exfalso; simp at hc3; done) | (exfalso; simp at hc4; done) | (refine awp_ret ?_; simp; done) | (refine awp_ret ?_; simp; exact Bool.eq_iff_iff.2 (by simp; try omega))
  · skip
    skip
    refine awp_sr rfl fun K hK => ?_
    simp -dsimp [w, w2]
    refine hK _ _ ?_; clear hK K
    refine awp_cond rfl (fun hc1 => ?_) (fun hc1 => ?_)
    · skip
      skip
      refine awp_sr rfl fun K hK => ?_
      simp -dsimp [w, w2]
      refine hK _ _ ?_; clear hK K
      first | (exfalso; simp at hc0; done) | (exfalso; simp at hc1; done) | (exfalso; simp at hc2; done) | (exfalso; simp at hc3; done) | (exfalso; simp at hc4; done) | (refine awp_ret ?_; simp; done) | (refine awp_ret ?_; simp; exact Bool.eq_iff_iff.2 (by simp; try omega))
    · skip
      skip
      refine awp_sr rfl fun K hK => ?_
      simp -dsimp [w, w2]
      refine hK _ _ ?_; clear hK K
      refine awp_cond rfl (fun hc2 => ?_) (fun hc2 => ?_)
      · skip
        skip
        refine awp_sr rfl fun K hK => ?_
        simp -dsimp [w, w2]
        refine hK _ _ ?_; clear hK K
        first | (exfalso; simp at hc0; done) | (exfalso; simp at hc1; done) | (exfalso; simp at hc2; done) | (exfalso; simp at hc3; done) | (exfalso; simp at hc4; done) | (refine awp_ret ?_; simp; done) | (refine awp_ret ?_; simp; exact Bool.eq_iff_iff.2 (by simp; try omega))
      · skip
        skip
        refine awp_sr rfl fun K hK => ?_
        simp -dsimp [w, w2]
        refine hK _ _ ?_; clear hK K
        refine awp_cond rfl (fun hc3 => ?_) (fun hc3 => ?_)
        · skip
          skip
          refine awp_sr rfl fun K hK => ?_
          simp -dsimp [w, w2]
          refine hK _ _ ?_; clear hK K
          first | (exfalso; simp at hc0; done) | (exfalso; simp at hc1; done) | (exfalso; simp at hc2; done) | (exfalso; simp at hc3; done) | (exfalso; simp at hc4; done) | (refine awp_ret ?_; simp; done) | (refine awp_ret ?_; simp; exact Bool.eq_iff_iff.2 (by simp; try omega))
        · skip
          skip
          refine awp_sr rfl fun K hK => ?_
          simp -dsimp [w, w2]
          refine hK _ _ ?_; clear hK K
          refine awp_cond rfl (fun hc4 => ?_) (fun hc4 => ?_)
          · skip
            skip
            refine awp_sr rfl fun K hK => ?_
            simp -dsimp [w, w2]
            refine hK _ _ ?_; clear hK K
            first | (exfalso; simp at hc0; done) | (exfalso; simp at hc1; done) | (exfalso; simp at hc2; done) | (exfalso; simp at hc3; done) | (exfalso; simp at hc4; done) | (refine awp_ret ?_; simp; done) | (refine awp_ret ?_; simp; exact Bool.eq_iff_iff.2 (by simp; try omega))
          · skip
            skip
            refine awp_skip ?_
            simp only [thenA, inBlockA, reduceIte, Nat.reduceEqDiff, eq_self]
            refine hK1 _ _ ?_
            refine awp_prune [] ?_
            simp only [prune, List.map_cons, List.map_nil, Go.AM.look, Nat.reduceEqDiff, reduceIte]
            refine awp_sr rfl fun K hK => ?_
            simp -dsimp [w, w2]
            refine hK _ _ ?_; clear hK K
            first | (exfalso; simp at hc0; done) | (exfalso; simp at hc1; done) | (exfalso; simp at hc2; done) | (exfalso; simp at hc3; done) | (exfalso; simp at hc4; done) | (refine awp_ret ?_; simp; done) | (refine awp_ret ?_; simp; exact Bool.eq_iff_iff.2 (by simp; try omega))
theorem c_rlets3 (n : Node) (a b : Int) (ha : 0 ≤ a ∧ a ≤ 1000) (hb : 0 ≤ b ∧ b ≤ 1000) (hk : n.Kind = 3) : PureCall Tryz.prog 64 [n.av, I a, I b] (Bo (letsB n a b)) := by
  have w : IntKind.i64.wrap (a + b) = a + b := wrap_in (by omega) (by omega)
  have w2 : (a + b).tmod 2 = (a + b) % 2 := Int.tmod_eq_emod_of_nonneg (by omega)
  unfold letsB
  simp only [Node.av, Node.cells, hk, Int.reduceEq, if_false, if_true, reduceIte]
  refine PureCall.of_body Tryz.func64 rfl (by decide) (by simp [Tryz.ntmps64]) ?_
  simp only [Tryz.ntmps64, Tryz.results64]
  refine awp_sr rfl fun K hK => ?_
  simp -dsimp [w, w2]
  refine hK _ _ ?_; clear hK K
  refine awp_seq_k fun K1 hK1 => ?_
  refine awp_sr rfl fun K hK => ?_
  simp -dsimp [w, w2]
  refine hK _ _ ?_; clear hK K
  refine awp_block ?_
  refine awp_sr rfl fun K hK => ?_
  simp -dsimp [w, w2]
  refine hK _ _ ?_; clear hK K
  refine awp_cond rfl (fun hc0 => ?_) (fun hc0 => ?_)
  · skip
    skip
    refine awp_sr rfl fun K hK => ?_
    simp -dsimp [w, w2]
    refine hK _ _ ?_; clear hK K
    first | (exfalso; simp at hc0; done) | (exfalso; simp at hc1; done) | (exfalso; simp at hc2; done) | (exfalso; simp at hc3; done) | (exfalso; simp at hc4; done) | (refine awp_ret ?_; simp; done) | (refine awp_ret ?_; simp; exact Bool.eq_iff_iff.2 (by simp; try omega))
  · skip
    skip
    refine awp_sr rfl fun K hK => ?_
    simp -dsimp [w, w2]
    refine hK _ _ ?_; clear hK K
    refine awp_cond rfl (fun hc1 => ?_) (fun hc1 => ?_)
    · skip
      skip
      refine awp_sr rfl fun K hK => ?_
      simp -dsimp [w, w2]
      refine hK _ _ ?_; clear hK K
      first | (exfalso; simp at hc0; done) | (exfalso; simp at hc1; done) | (exfalso; simp at hc2; done) | (exfalso; simp at hc3; done) | (exfalso; simp at hc4; done) | (refine awp_ret ?_; simp; done) | (refine awp_ret ?_; simp; exact Bool.eq_iff_iff.2 (by simp; try omega))
    · skip
      skip
      refine awp_sr rfl fun K hK => ?_
      simp -dsimp [w, w2]
      refine hK _ _ ?_; clear hK K
      refine awp_cond rfl (fun hc2 => ?_) (fun hc2 => ?_)
      · skip
        skip
        refine awp_sr rfl fun K hK => ?_
        simp -dsimp [w, w2]
        refine hK _ _ ?_; clear hK K
        first | (exfalso; simp at hc0; done) | (exfalso; simp at hc1; done) | (exfalso; simp at hc2; done) | (exfalso; simp at hc3; done) | (exfalso; simp at hc4; done) | (refine awp_ret ?_; simp; done) | (refine awp_ret ?_; simp; exact Bool.eq_iff_iff.2 (by simp; try omega))
      · skip
        skip
        refine awp_sr rfl fun K hK => ?_
        simp -dsimp [w, w2]
        refine hK _ _ ?_; clear hK K
        refine awp_cond rfl (fun hc3 => ?_) (fun hc3 => ?_)
        · skip
          skip
          refine awp_sr rfl fun K hK => ?_
          simp -dsimp [w, w2]
          refine hK _ _ ?_; clear hK K
          first | (exfalso; simp at hc0; done) | (exfalso; simp at hc1; done) | (exfalso; simp at hc2; done) | (exfalso; simp at hc3; done) | (exfalso; simp at hc4; done) | (refine awp_ret ?_; simp; done) | (refine awp_ret ?_; simp; exact Bool.eq_iff_iff.2 (by simp; try omega))
        · skip
          skip
          refine awp_sr rfl fun K hK => ?_
          simp -dsimp [w, w2]
          refine hK _ _ ?_; clear hK K
          refine awp_cond rfl (fun hc4 => ?_) (fun hc4 => ?_)
          · skip
            skip
            refine awp_sr rfl fun K hK => ?_
            simp -dsimp [w, w2]
            refine hK _ _ ?_; clear hK K
            first | (exfalso; simp at hc0; done) | (exfalso; simp at hc1; done) | (exfalso; simp at hc2; done) | (exfalso; simp at hc3; done) | (exfalso; simp at hc4; done) | (refine awp_ret ?_; simp; done) | (refine awp_ret ?_; simp; exact Bool.eq_iff_iff.2 (by simp; try omega))
          · skip
            skip
            refine awp_skip ?_
            simp only [thenA, inBlockA, reduceIte, Nat.reduceEqDiff, eq_self]
            refine hK1 _ _ ?_
            refine awp_prune [] ?_
            simp only [prune, List.map_cons, List.map_nil, Go.AM.look, Nat.reduceEqDiff, reduceIte]
            refine awp_sr rfl fun K hK => ?_
            simp -dsimp [w, w2]
            refine hK _ _ ?_; clear hK K
            first | (exfalso; simp at hc0; done) | (exfalso; simp at hc1; done) | (exfalso; simp at hc2; done) | (exfalso; simp at hc3; done) | (exfalso; simp at hc4; done) | (refine awp_ret ?_; simp; done) | (refine awp_ret ?_; simp; exact Bool.eq_iff_iff.2 (by simp; try omega))
theorem c_rlets4 (n : Node) (a b : Int) (ha : 0 ≤ a ∧ a ≤ 1000) (hb : 0 ≤ b ∧ b ≤ 1000) (hk : n.Kind = 4) : PureCall Tryz.prog 64 [n.av, I a, I b] (Bo (letsB n a b)) := by
  have w : IntKind.i64.wrap (a + b) = a + b := wrap_in (by omega) (by omega)
  have w2 : (a + b).tmod 2 = (a + b) % 2 := Int.tmod_eq_emod_of_nonneg (by omega)
  unfold letsB
  simp only [Node.av, Node.cells, hk, Int.reduceEq, if_false, if_true, reduceIte]
  refine PureCall.of_body Tryz.func64 rfl (by decide) (by simp [Tryz.ntmps64]) ?_
  simp only [Tryz.ntmps64, Tryz.results64]
  refine awp_sr rfl fun K hK => ?_
  simp -dsimp [w, w2]
  refine hK _ _ ?_; clear hK K
  refine awp_seq_k fun K1 hK1 => ?_
  refine awp_sr rfl fun K hK => ?_
  simp -dsimp [w, w2]
  refine hK _ _ ?_; clear hK K
  refine awp_block ?_
  refine awp_sr rfl fun K hK => ?_
  simp -dsimp [w, w2]
  refine hK _ _ ?_; clear hK K
  refine awp_cond rfl (fun hc0 => ?_) (fun hc0 => ?_)
  · skip
    skip
    refine awp_sr rfl fun K hK => ?_
    simp -dsimp [w, w2]
    refine hK _ _ ?_; clear hK K
    first | (exfalso; simp at hc0; done) | (exfalso; simp at hc1; done) | (exfalso; simp at hc2; done) | (exfalso; simp at hc3; done) | (exfalso; simp at hc4; done) | (refine awp_ret ?_; simp; done) | (refine awp_ret ?_; simp; exact Bool.eq_iff_iff.2 (by simp; try omega))
  · skip
    skip
    refine awp_sr rfl fun K hK => ?_
    simp -dsimp [w, w2]
    refine hK _ _ ?_; clear hK K
    refine awp_cond rfl (fun hc1 => ?_) (fun hc1 => ?_)
    · skip
      skip
      refine awp_sr rfl fun K hK => ?_
      simp -dsimp [w, w2]
      refine hK _ _ ?_; clear hK K
      first | (exfalso; simp at hc0; done) | (exfalso; simp at hc1; done) | (exfalso; simp at hc2; done) | (exfalso; simp at hc3; done) | (exfalso; simp at hc4; done) | (refine awp_ret ?_; simp; done) | (refine awp_ret ?_; simp; exact Bool.eq_iff_iff.2 (by simp; try omega))
    · skip
      skip
      refine awp_sr rfl fun K hK => ?_
      simp -dsimp [w, w2]
      refine hK _ _ ?_; clear hK K
      refine awp_cond rfl (fun hc2 => ?_) (fun hc2 => ?_)
      · skip
        skip
        refine awp_sr rfl fun K hK => ?_
        simp -dsimp [w, w2]
        refine hK _ _ ?_; clear hK K
        first | (exfalso; simp at hc0; done) | (exfalso; simp at hc1; done) | (exfalso; simp at hc2; done) | (exfalso; simp at hc3; done) | (exfalso; simp at hc4; done) | (refine awp_ret ?_; simp; done) | (refine awp_ret ?_; simp; exact Bool.eq_iff_iff.2 (by simp; try omega))
      · skip
        skip
        refine awp_sr rfl fun K hK => ?_
        simp -dsimp [w, w2]
        refine hK _ _ ?_; clear hK K
        refine awp_cond rfl (fun hc3 => ?_) (fun hc3 => ?_)
        · skip
          skip
          refine awp_sr rfl fun K hK => ?_
          simp -dsimp [w, w2]
          refine hK _ _ ?_; clear hK K
          first | (exfalso; simp at hc0; done) | (exfalso; simp at hc1; done) | (exfalso; simp at hc2; done) | (exfalso; simp at hc3; done) | (exfalso; simp at hc4; done) | (refine awp_ret ?_; simp; done) | (refine awp_ret ?_; simp; exact Bool.eq_iff_iff.2 (by simp; try omega))
        · skip
          skip
          refine awp_sr rfl fun K hK => ?_
          simp -dsimp [w, w2]
          refine hK _ _ ?_; clear hK K
          refine awp_cond rfl (fun hc4 => ?_) (fun hc4 => ?_)
          · skip
            skip
            refine awp_sr rfl fun K hK => ?_
            simp -dsimp [w, w2]
            refine hK _ _ ?_; clear hK K
            first | (exfalso; simp at hc0; done) | (exfalso; simp at hc1; done) | (exfalso; simp at hc2; done) | (exfalso; simp at hc3; done) | (exfalso; simp at hc4; done) | (refine awp_ret ?_; simp; done) | (refine awp_ret ?_; simp; exact Bool.eq_iff_iff.2 (by simp; try omega))
          · skip
            skip
            refine awp_skip ?_
            simp only [thenA, inBlockA, reduceIte, Nat.reduceEqDiff, eq_self]
            refine hK1 _ _ ?_
            refine awp_prune [] ?_
            simp only [prune, List.map_cons, List.map_nil, Go.AM.look, Nat.reduceEqDiff, reduceIte]
            refine awp_sr rfl fun K hK => ?_
            simp -dsimp [w, w2]
            refine hK _ _ ?_; clear hK K
            first | (exfalso; simp at hc0; done) | (exfalso; simp at hc1; done) | (exfalso; simp at hc2; done) | (exfalso; simp at hc3; done) | (exfalso; simp at hc4; done) | (refine awp_ret ?_; simp; done) | (refine awp_ret ?_; simp; exact Bool.eq_iff_iff.2 (by simp; try omega))
theorem c_rlets5 (n : Node) (a b : Int) (ha : 0 ≤ a ∧ a ≤ 1000) (hb : 0 ≤ b ∧ b ≤ 1000) (hk : n.Kind = 5) : PureCall Tryz.prog 64 [n.av, I a, I b] (Bo (letsB n a b)) := by
  have w : IntKind.i64.wrap (a + b) = a + b := wrap_in (by omega) (by omega)
  have w2 : (a + b).tmod 2 = (a + b) % 2 := Int.tmod_eq_emod_of_nonneg (by omega)
  unfold letsB
  simp only [Node.av, Node.cells, hk, Int.reduceEq, if_false, if_true, reduceIte]
  refine PureCall.of_body Tryz.func64 rfl (by decide) (by simp [Tryz.ntmps64]) ?_
  simp only [Tryz.ntmps64, Tryz.results64]
  refine awp_sr rfl fun K hK => ?_
  simp -dsimp [w, w2]
  refine hK _ _ ?_; clear hK K
  refine awp_seq_k fun K1 hK1 => ?_
  refine awp_sr rfl fun K hK => ?_
  simp -dsimp [w, w2]
  refine hK _ _ ?_; clear hK K
  refine awp_block ?_
  refine awp_sr rfl fun K hK => ?_
  simp -dsimp [w, w2]
  refine hK _ _ ?_; clear hK K
  refine awp_cond rfl (fun hc0 => ?_) (fun hc0 => ?_)
  · skip
    skip
    refine awp_sr rfl fun K hK => ?_
    simp -dsimp [w, w2]
    refine hK _ _ ?_; clear hK K
    first | (exfalso; simp at hc0; done) | (exfalso; simp at hc1; done) | (exfalso; simp at hc2; done) | (exfalso; simp at hc3; done) | (exfalso; simp at hc4; done) | (refine awp_ret ?_; simp; done) | (refine awp_ret ?_; simp; exact Bool.eq_iff_iff.2 (by simp; try omega))
  · skip
    skip
    refine awp_sr rfl fun K hK => ?_
    simp -dsimp [w, w2]
    refine hK _ _ ?_; clear hK K
    refine awp_cond rfl (fun hc1 => ?_) (fun hc1 => ?_)
    · skip
      skip
      refine awp_sr rfl fun K hK => ?_
      simp -dsimp [w, w2]
      refine hK _ _ ?_; clear hK K
      first | (exfalso; simp at hc0; done) | (exfalso; simp at hc1; done) | (exfalso; simp at hc2; done) | (exfalso; simp at hc3; done) | (exfalso; simp at hc4; done) | (refine awp_ret ?_; simp; done) | (refine awp_ret ?_; simp; exact Bool.eq_iff_iff.2 (by simp; try omega))
    · skip
      skip
      refine awp_sr rfl fun K hK => ?_
      simp -dsimp [w, w2]
      refine hK _ _ ?_; clear hK K
      refine awp_cond rfl (fun hc2 => ?_) (fun hc2 => ?_)
      · skip
        skip
        refine awp_sr rfl fun K hK => ?_
        simp -dsimp [w, w2]
        refine hK _ _ ?_; clear hK K
        first | (exfalso; simp at hc0; done) | (exfalso; simp at hc1; done) | (exfalso; simp at hc2; done) | (exfalso; simp at hc3; done) | (exfalso; simp at hc4; done) | (refine awp_ret ?_; simp; done) | (refine awp_ret ?_; simp; exact Bool.eq_iff_iff.2 (by simp; try omega))
      · skip
        skip
        refine awp_sr rfl fun K hK => ?_
        simp -dsimp [w, w2]
        refine hK _ _ ?_; clear hK K
        refine awp_cond rfl (fun hc3 => ?_) (fun hc3 => ?_)
        · skip
          skip
          refine awp_sr rfl fun K hK => ?_
          simp -dsimp [w, w2]
          refine hK _ _ ?_; clear hK K
          first | (exfalso; simp at hc0; done) | (exfalso; simp at hc1; done) | (exfalso; simp at hc2; done) | (exfalso; simp at hc3; done) | (exfalso; simp at hc4; done) | (refine awp_ret ?_; simp; done) | (refine awp_ret ?_; simp; exact Bool.eq_iff_iff.2 (by simp; try omega))
        · skip
          skip
          refine awp_sr rfl fun K hK => ?_
          simp -dsimp [w, w2]
          refine hK _ _ ?_; clear hK K
          refine awp_cond rfl (fun hc4 => ?_) (fun hc4 => ?_)
          · skip
            skip
            refine awp_sr rfl fun K hK => ?_
            simp -dsimp [w, w2]
            refine hK _ _ ?_; clear hK K
            first | (exfalso; simp at hc0; done) | (exfalso; simp at hc1; done) | (exfalso; simp at hc2; done) | (exfalso; simp at hc3; done) | (exfalso; simp at hc4; done) | (refine awp_ret ?_; simp; done) | (refine awp_ret ?_; simp; exact Bool.eq_iff_iff.2 (by simp; try omega))
          · skip
            skip
            refine awp_skip ?_
            simp only [thenA, inBlockA, reduceIte, Nat.reduceEqDiff, eq_self]
            refine hK1 _ _ ?_
            refine awp_prune [] ?_
            simp only [prune, List.map_cons, List.map_nil, Go.AM.look, Nat.reduceEqDiff, reduceIte]
            refine awp_sr rfl fun K hK => ?_
            simp -dsimp [w, w2]
            refine hK _ _ ?_; clear hK K
            first | (exfalso; simp at hc0; done) | (exfalso; simp at hc1; done) | (exfalso; simp at hc2; done) | (exfalso; simp at hc3; done) | (exfalso; simp at hc4; done) | (refine awp_ret ?_; simp; done) | (refine awp_ret ?_; simp; exact Bool.eq_iff_iff.2 (by simp; try omega))
theorem c_rlets6 (n : Node) (a b : Int) (ha : 0 ≤ a ∧ a ≤ 1000) (hb : 0 ≤ b ∧ b ≤ 1000) (hk : n.Kind = 6) : PureCall Tryz.prog 64 [n.av, I a, I b] (Bo (letsB n a b)) := by
  have w : IntKind.i64.wrap (a + b) = a + b := wrap_in (by omega) (by omega)
  have w2 : (a + b).tmod 2 = (a + b) % 2 := Int.tmod_eq_emod_of_nonneg (by omega)
  unfold letsB
  simp only [Node.av, Node.cells, hk, Int.reduceEq, if_false, if_true, reduceIte]
  refine PureCall.of_body Tryz.func64 rfl (by decide) (by simp [Tryz.ntmps64]) ?_
  simp only [Tryz.ntmps64, Tryz.results64]
  refine awp_sr rfl fun K hK => ?_
  simp -dsimp [w, w2]
  refine hK _ _ ?_; clear hK K
  refine awp_seq_k fun K1 hK1 => ?_
  refine awp_sr rfl fun K hK => ?_
  simp -dsimp [w, w2]
  refine hK _ _ ?_; clear hK K
  refine awp_block ?_
  refine awp_sr rfl fun K hK => ?_
  simp -dsimp [w, w2]
  refine hK _ _ ?_; clear hK K
  refine awp_cond rfl (fun hc0 => ?_) (fun hc0 => ?_)
  · skip
    skip
    refine awp_sr rfl fun K hK => ?_
    simp -dsimp [w, w2]
    refine hK _ _ ?_; clear hK K
    first | (exfalso; simp at hc0; done) | (exfalso; simp at hc1; done) | (exfalso; simp at hc2; done) | (exfalso; simp at hc3; done) | (exfalso; simp at hc4; done) | (refine awp_ret ?_; simp; done) | (refine awp_ret ?_; simp; exact Bool.eq_iff_iff.2 (by simp; try omega))
  · skip
    skip
    refine awp_sr rfl fun K hK => ?_
    simp -dsimp [w, w2]
    refine hK _ _ ?_; clear hK K
    refine awp_cond rfl (fun hc1 => ?_) (fun hc1 => ?_)
    · skip
      skip
      refine awp_sr rfl fun K hK => ?_
      simp -dsimp [w, w2]
      refine hK _ _ ?_; clear hK K
      first | (exfalso; simp at hc0; done) | (exfalso; simp at hc1; done) | (exfalso; simp at hc2; done) | (exfalso; simp at hc3; done) | (exfalso; simp at hc4; done) | (refine awp_ret ?_; simp; done) | (refine awp_ret ?_; simp; exact Bool.eq_iff_iff.2 (by simp; try omega))
    · skip
      skip
      refine awp_sr rfl fun K hK => ?_
      simp -dsimp [w, w2]
      refine hK _ _ ?_; clear hK K
      refine awp_cond rfl (fun hc2 => ?_) (fun hc2 => ?_)
      · skip
        skip
        refine awp_sr rfl fun K hK => ?_
        simp -dsimp [w, w2]
        refine hK _ _ ?_; clear hK K
        first | (exfalso; simp at hc0; done) | (exfalso; simp at hc1; done) | (exfalso; simp at hc2; done) | (exfalso; simp at hc3; done) | (exfalso; simp at hc4; done) | (refine awp_ret ?_; simp; done) | (refine awp_ret ?_; simp; exact Bool.eq_iff_iff.2 (by simp; try omega))
      · skip
        skip
        refine awp_sr rfl fun K hK => ?_
        simp -dsimp [w, w2]
        refine hK _ _ ?_; clear hK K
        refine awp_cond rfl (fun hc3 => ?_) (fun hc3 => ?_)
        · skip
          skip
          refine awp_sr rfl fun K hK => ?_
          simp -dsimp [w, w2]
          refine hK _ _ ?_; clear hK K
          first | (exfalso; simp at hc0; done) | (exfalso; simp at hc1; done) | (exfalso; simp at hc2; done) | (exfalso; simp at hc3; done) | (exfalso; simp at hc4; done) | (refine awp_ret ?_; simp; done) | (refine awp_ret ?_; simp; exact Bool.eq_iff_iff.2 (by simp; try omega))
        · skip
          skip
          refine awp_sr rfl fun K hK => ?_
          simp -dsimp [w, w2]
          refine hK _ _ ?_; clear hK K
          refine awp_cond rfl (fun hc4 => ?_) (fun hc4 => ?_)
          · skip
            skip
            refine awp_sr rfl fun K hK => ?_
            simp -dsimp [w, w2]
            refine hK _ _ ?_; clear hK K
            first | (exfalso; simp at hc0; done) | (exfalso; simp at hc1; done) | (exfalso; simp at hc2; done) | (exfalso; simp at hc3; done) | (exfalso; simp at hc4; done) | (refine awp_ret ?_; simp; done) | (refine awp_ret ?_; simp; exact Bool.eq_iff_iff.2 (by simp; try omega))
          · skip
            skip
            refine awp_skip ?_
            simp only [thenA, inBlockA, reduceIte, Nat.reduceEqDiff, eq_self]
            refine hK1 _ _ ?_
            refine awp_prune [] ?_
            simp only [prune, List.map_cons, List.map_nil, Go.AM.look, Nat.reduceEqDiff, reduceIte]
            refine awp_sr rfl fun K hK => ?_
            simp -dsimp [w, w2]
            refine hK _ _ ?_; clear hK K
            first | (exfalso; simp at hc0; done) | (exfalso; simp at hc1; done) | (exfalso; simp at hc2; done) | (exfalso; simp at hc3; done) | (exfalso; simp at hc4; done) | (refine awp_ret ?_; simp; done) | (refine awp_ret ?_; simp; exact Bool.eq_iff_iff.2 (by simp; try omega))
theorem c_rlets (n : Node) (a b : Int) (ha : 0 ≤ a ∧ a ≤ 1000) (hb : 0 ≤ b ∧ b ≤ 1000) (hk : 1 ≤ n.Kind ∧ n.Kind ≤ 6) : PureCall Tryz.prog 64 [n.av, I a, I b] (Bo (letsB n a b)) := by
  have : n.Kind = 1 ∨ n.Kind = 2 ∨ n.Kind = 3 ∨ n.Kind = 4 ∨ n.Kind = 5 ∨ n.Kind = 6 := by omega
  rcases this with h | h | h | h | h | h
  · exact c_rlets1 n a b ha hb h
  · exact c_rlets2 n a b ha hb h
  · exact c_rlets3 n a b ha hb h
  · exact c_rlets4 n a b ha hb h
  · exact c_rlets5 n a b ha hb h
  · exact c_rlets6 n a b ha hb h

theorem idxTo_bd (e : REnd) : ∀ (l : List REnd) (i : Int), 0 ≤ i → -1 ≤ idxTo e l i ∧ idxTo e l i ≤ i + l.length
  | [], i, h => by simp [idxTo]; omega
  | x :: l, i, h => by
    have := idxTo_bd e l (i + 1) (by omega)
    simp only [idxTo]
    split <;> simp <;> omega
theorem idxE_bd (n : Node) (e : REnd) : -1 ≤ idxE n e ∧ idxE n e ≤ n.Ends.length := by
  have := idxTo_bd e n.Ends 0 (by omega)
  unfold idxE; omega

theorem c_rFollows (p : Plan) (m k : Move) (hv : validB p = true) (hm : movB p m = true) : PureCall Tryz.prog 20 [p.av, m.av, k.av] (Bo (rFoll p m k)) := by
  have hm' := movB_iff.1 hm
  have ha := at_in hv (e := arrE m) hm'.1 hm'.2
  have hnode := p.node_get ha.1 ha.2
  have hnf := node_kind (node_fine hv ha.1 ha.2)
  have hca := c_at p (arrE m) hm'.1 hm'.2
  have hna : p.node (p.at (arrE m)) = nodeAt p m := rfl
  rw [hna] at hnode hnf
  have hi1 := c_index (nodeAt p m) (arrE m) (by omega)
  have hi2 := c_index (nodeAt p m) (leaE k) (by omega)
  have hb1 := idxE_bd (nodeAt p m) (arrE m)
  have hb2 := idxE_bd (nodeAt p m) (leaE k)
  have hlt := fun h1 h2 => c_rlets (nodeAt p m) (idxE (nodeAt p m) (arrE m)) (idxE (nodeAt p m) (leaE k)) ⟨h1, by omega⟩ ⟨h2, by omega⟩ hnf.1
  have hrf : rFoll p m k = (decide (0 ≤ idxE (nodeAt p m) (arrE m)) && (decide (0 ≤ idxE (nodeAt p m) (leaE k)) && letsB (nodeAt p m) (idxE (nodeAt p m) (arrE m)) (idxE (nodeAt p m) (leaE k)))) := rfl
  rw [hrf]
  generalize letsB (nodeAt p m) (idxE (nodeAt p m) (arrE m)) (idxE (nodeAt p m) (leaE k)) = lt at hlt ⊢
  generalize nodeAt p m = n at *
  refine PureCall.of_body Tryz.func20 rfl (by decide) (by simp [Tryz.ntmps20]) ?_
  simp only [Tryz.ntmps20, Tryz.results20]
  refine awp_sr rfl fun K hK => ?_
  simp -dsimp
  refine hK _ _ ?_; clear hK K
  refine awp_sd mixed rfl fun K hK => ?_
  simp -dsimp
  refine callK_intro _ (c_rarr m) (by simp) ?_
  simp -dsimp
  refine callK_intro _ (hca) (by simp) ?_
  simp -dsimp
  refine hK _ _ _ (by decide +kernel) ?_; clear hK K
  refine awp_sr rfl fun K hK => ?_
  simp -dsimp [hnode, ha.1]
  refine hK _ _ ?_; clear hK K
  refine awp_sd mixed rfl fun K hK => ?_
  simp -dsimp
  refine callK_intro _ (c_rarr m) (by simp) ?_
  simp -dsimp
  refine callK_intro _ (hi1) (by simp) ?_
  simp -dsimp
  refine callK_intro _ (c_rlea k) (by simp) ?_
  simp -dsimp
  refine callK_intro _ (hi2) (by simp) ?_
  simp -dsimp
  refine hK _ _ _ (by decide +kernel) ?_; clear hK K
  refine awp_sr rfl fun K hK => ?_
  simp -dsimp
  refine callK_may _ (fun hm => hlt (by simp at hm; exact hm.1) (by simp at hm; exact hm.2)) (by simp) ?_
  simp -dsimp
  refine hK _ _ ?_; clear hK K
  exact awp_ret (by simp [Bool.and_assoc])

def rNx (p : Plan) (m : Move) (j : Nat) : List Move := ((List.range j).filter (fun (i : Nat) => rFoll p m (moveM i))).map fun (i : Nat) => moveM i
@[simp] theorem rNx_zero (p : Plan) (m : Move) : rNx p m 0 = [] := rfl
theorem rNx_succ (p : Plan) (m : Move) (j : Nat) : rNx p m (j + 1) = rNx p m j ++ if rFoll p m (moveM j) then [moveM j] else [] := by
  unfold rNx
  rw [List.range_succ, List.filter_append, List.map_append]
  cases h : rFoll p m (moveM j) <;> simp [h]
theorem rNx_len (p : Plan) (m : Move) (j : Nat) : (rNx p m j).length ≤ j := by
  unfold rNx
  have := List.length_filter_le (fun (i : Nat) => rFoll p m (moveM i)) (List.range j)
  simpa using this
theorem c_rNext (p : Plan) (m : Move) (hv : validB p = true) (hm : movB p m = true) : PureCall Tryz.prog 19 [p.av, m.av] (mLst (nextL p m)) := by
  have hR := (valid_parts hv).2.1
  have w2 : IntKind.i64.wrap (2 * (p.Rails.length : Int)) = 2 * (p.Rails.length : Int) := wrap_in (by omega) (by omega)
  have hfo := fun k => c_rFollows p m k hv hm
  have hsu := rNx_succ p m
  rw [next_eq hv hm]
  show PureCall _ _ _ (mLst (rNx p m (2 * p.Rails.length)))
  refine PureCall.of_body Tryz.func19 rfl (by decide) (by simp [Tryz.ntmps19]) ?_
  simp only [Tryz.ntmps19, Tryz.results19]
  refine awp_sr rfl fun K hK => ?_
  simp -dsimp
  refine hK _ _ ?_; clear hK K
  refine awp_sr rfl fun K hK => ?_
  simp -dsimp
  refine hK _ _ ?_; clear hK K
  refine awp_seq_k fun K1 hK1 => ?_
  refine awp_sr rfl fun K hK => ?_
  simp -dsimp
  refine hK _ _ ?_; clear hK K
  refine awp_block ?_
  refine awp_prune [2, 3, 5, 6] ?_
  simp only [prune, List.map_cons, List.map_nil, Go.AM.look, Nat.reduceEqDiff, reduceIte]
  refine awp_loop_l [2, 3] (α := Nat) (fun j => [(6, I j), (5, .row 2 0 (rNx p m j).length)]) (fun j => [some (.els 2 [p.cells]), some (.els 2 [m.cells]), some (.els 2 ((rNx p m j).map Move.cells))]) (fun j => j ≤ 2 * p.Rails.length) (fun j => 2 * p.Rails.length - j) 0 ?_ ?_ ?_
  · simp
  · exact (sub_nil 5 2 (by simp)).trans (sub_rb [some 0, some 1, some 2] rfl (by simp) (by simp))
  rintro j j1
  have hsj := hsu j
  have hlj := rNx_len p m j
  have hfj := hfo (moveM j)
  generalize hA : rNx p m j = A at hsj hlj ⊢
  have f1 : Fits (A.length + 1) 17 := fits_of (by omega) (by omega)
  have wj : IntKind.i64.wrap ((j : Int) + 1) = (j : Int) + 1 := wrap_in (by omega) (by omega)
  simp only [List.cons_append, List.nil_append, prune, List.map_cons, List.map_nil, Go.AM.look, Nat.reduceEqDiff, reduceIte]
  refine awp_seq_k fun K2 hK2 => ?_
  refine awp_sr rfl fun K hK => ?_
  simp -dsimp [w2]
  refine hK _ _ ?_; clear hK K
  refine awp_cond rfl (fun hc0 => ?_) (fun hc0 => ?_)
  · skip
    try simp at hc0
    refine awp_skip ?_
    simp only [thenA, inBlockA, reduceIte, Nat.reduceEqDiff, eq_self]
    refine hK2 _ _ ?_
    refine awp_prune [2, 3, 5, 6] ?_
    simp only [prune, List.map_cons, List.map_nil, Go.AM.look, Nat.reduceEqDiff, reduceIte]
    refine awp_seq_k fun K3 hK3 => ?_
    refine awp_block ?_
    refine awp_sd mixed rfl fun K hK => ?_
    simp -dsimp
    refine callK_intro _ (c_rOf j (by omega) (by omega)) (by simp) ?_
    simp -dsimp
    refine callK_intro _ (hfj) (by simp) ?_
    simp -dsimp
    refine hK _ _ _ (by decide +kernel) ?_; clear hK K
    refine awp_cond rfl (fun hc1 => ?_) (fun hc1 => ?_)
    · skip
      try simp at hc1
      rw [hc1, if_pos rfl] at hsj
      refine awp_r rfl fun K hK => ?_
      simp -dsimp [f1]
      refine callK_intro _ (c_rOf j (by omega) (by omega)) (by simp) ?_
      simp -dsimp [f1]
      refine hK _ _ ?_; clear hK K
      simp only [thenA, inBlockA, reduceIte, Nat.reduceEqDiff, eq_self]
      refine hK3 _ _ ?_
      refine awp_prune [2, 3, 5, 6] ?_
      simp only [prune, List.map_cons, List.map_nil, Go.AM.look, Nat.reduceEqDiff, reduceIte]
      refine awp_r rfl fun K hK => ?_
      simp -dsimp [wj]
      refine hK _ _ ?_; clear hK K
      simp only [thenA, inBlockA, reduceIte, Nat.reduceEqDiff, eq_self]
      exact ⟨j + 1, by omega, by omega, sub_rb [some 0, some 1, some 3] rfl (by simp [hsj]) (by simp [hsj])⟩
    · skip
      try simp at hc1
      rw [hc1, if_neg (by simp)] at hsj
      refine awp_skip ?_
      simp only [thenA, inBlockA, reduceIte, Nat.reduceEqDiff, eq_self]
      refine hK3 _ _ ?_
      refine awp_prune [2, 3, 5, 6] ?_
      simp only [prune, List.map_cons, List.map_nil, Go.AM.look, Nat.reduceEqDiff, reduceIte]
      refine awp_r rfl fun K hK => ?_
      simp -dsimp [wj]
      refine hK _ _ ?_; clear hK K
      simp only [thenA, inBlockA, reduceIte, Nat.reduceEqDiff, eq_self]
      exact ⟨j + 1, by omega, by omega, sub_rb [some 0, some 1, some 2] rfl (by simp [hsj]) (by simp [hsj])⟩
  · skip
    try simp at hc0
    have hje : j = 2 * p.Rails.length := by omega
    subst hje
    refine awp_exit ?_
    simp only [thenA, inBlockA, reduceIte, Nat.reduceEqDiff, eq_self]
    refine hK1 _ _ ?_
    refine awp_prune [5] ?_
    simp only [prune, List.map_cons, List.map_nil, Go.AM.look, Nat.reduceEqDiff, reduceIte]
    refine awp_sr rfl fun K hK => ?_
    simp -dsimp
    refine hK _ _ ?_; clear hK K
    exact awp_ret (by simp [hA])

/-- The setting that two moves need. -/
structure Setg where
  Node : Int
  Leg : Int
  deriving DecidableEq, Inhabited
@[simp] def Setg.cells (s : Setg) : List AV := [I s.Node, I s.Leg]
def rBetw (p : Plan) (m k : Move) : Setg := ⟨p.at (arrE m), maxI (idxE (nodeAt p m) (arrE m)) (idxE (nodeAt p m) (leaE k))⟩
def isSet (p : Plan) (m : Move) : Bool := decide ((nodeAt p m).Kind = 4)
theorem c_rBetween (p : Plan) (m k : Move) (hv : validB p = true) (hm : movB p m = true) : PureCall Tryz.prog 21 [p.av, m.av, k.av] (.tup [.agg (if isSet p m then rBetw p m k else ⟨0, 0⟩).cells, Bo (isSet p m)]) := by
  have hm' := movB_iff.1 hm
  have ha := at_in hv (e := arrE m) hm'.1 hm'.2
  have hnode := p.node_get ha.1 ha.2
  have hnf := node_kind (node_fine hv ha.1 ha.2)
  have hca := c_at p (arrE m) hm'.1 hm'.2
  have hna : p.node (p.at (arrE m)) = nodeAt p m := rfl
  rw [hna] at hnode hnf
  have hi1 := c_index (nodeAt p m) (arrE m) (by omega)
  have hi2 := c_index (nodeAt p m) (leaE k) (by omega)
  have hrb : rBetw p m k = ⟨p.at (arrE m), maxI (idxE (nodeAt p m) (arrE m)) (idxE (nodeAt p m) (leaE k))⟩ := rfl
  have his : isSet p m = decide ((nodeAt p m).Kind = 4) := rfl
  rw [hrb, his]
  generalize nodeAt p m = n at *
  refine PureCall.of_body Tryz.func21 rfl (by decide) (by simp [Tryz.ntmps21]) ?_
  simp only [Tryz.ntmps21, Tryz.results21]
  refine awp_sr rfl fun K hK => ?_
  simp -dsimp
  refine hK _ _ ?_; clear hK K
  refine awp_sd mixed rfl fun K hK => ?_
  simp -dsimp
  refine callK_intro _ (c_rarr m) (by simp) ?_
  simp -dsimp
  refine callK_intro _ (hca) (by simp) ?_
  simp -dsimp
  refine hK _ _ _ (by decide +kernel) ?_; clear hK K
  refine awp_sr rfl fun K hK => ?_
  simp -dsimp [hnode, ha.1]
  refine hK _ _ ?_; clear hK K
  refine awp_seq_k fun K1 hK1 => ?_
  refine awp_sr rfl fun K hK => ?_
  simp -dsimp
  refine hK _ _ ?_; clear hK K
  refine awp_cond rfl (fun hc0 => ?_) (fun hc0 => ?_)
  · skip
    try simp at hc0
    refine awp_sr rfl fun K hK => ?_
    simp -dsimp
    refine hK _ _ ?_; clear hK K
    exact awp_ret (by simp_all)
  · skip
    try simp at hc0
    refine awp_skip ?_
    simp only [thenA, inBlockA, reduceIte, Nat.reduceEqDiff, eq_self]
    refine hK1 _ _ ?_
    refine awp_prune [4, 5, 6, 8, 9] ?_
    simp only [prune, List.map_cons, List.map_nil, Go.AM.look, Nat.reduceEqDiff, reduceIte]
    refine awp_sd mixed rfl fun K hK => ?_
    simp -dsimp
    refine callK_intro _ (c_rarr m) (by simp) ?_
    simp -dsimp
    refine callK_intro _ (hi1) (by simp) ?_
    simp -dsimp
    refine callK_intro _ (c_rlea k) (by simp) ?_
    simp -dsimp
    refine callK_intro _ (hi2) (by simp) ?_
    simp -dsimp
    refine hK _ _ _ (by decide +kernel) ?_; clear hK K
    exact awp_ret (by simp_all)
end Go.Tram
