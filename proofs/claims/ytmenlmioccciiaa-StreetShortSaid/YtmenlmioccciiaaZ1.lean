/- Walks: the checks of a junction. -/
import Derived.Test.YtmenlmioccciiaaZ0
namespace Go.Street
open Go.AM Go.Proofs
set_option maxRecDepth 10000
set_option maxHeartbeats 4000000
set_option linter.unusedVariables false
set_option linter.unusedSimpArgs false

def clr (j : Jn) (a b : Int) : Int := at0 (rowAt j.Clears a) b
def conf (j : Jn) (a b : Int) : Bool := decide (0 ≤ clr j a b)
def strmB (s : Strm) : Bool := inr s.Kind 1 3 && inr s.Least 1 120
def Jn.n (j : Jn) : Nat := j.Streams.length
def streamsB (j : Jn) : Bool := inr j.n 1 20 && j.Streams.all strmB
def cellB (j : Jn) (a b : Nat) : Bool := inr (clr j a b) (-1) 60 && !(decide (a = b) && decide (clr j a b ≠ -1)) && (decide (clr j a b = -1) == decide (clr j b a = -1))
def clearsB (j : Jn) : Bool := decide (j.Clears.length = j.n) && (j.Clears.all fun r => decide (r.length = j.n)) && (List.range j.n).all fun a => (List.range j.n).all fun b => cellB j a b
/-- A square of clearing times. -/
structure Sqr (j : Jn) : Prop where
  len : j.Clears.length = j.n
  rows : ∀ r ∈ j.Clears, r.length = j.n
theorem Sqr.row {j : Jn} (h : Sqr j) {a : Int} (h0 : 0 ≤ a) (h1 : a < j.n) : j.Clears[a.toNat]? = some (rowAt j.Clears a) ∧ (rowAt j.Clears a).length = j.n := by
  have := rowAt_get (m := j.Clears) (i := a) h0 (by rw [h.len]; exact h1)
  exact ⟨this, h.rows _ (List.mem_of_getElem? this)⟩
theorem Sqr.get {j : Jn} (h : Sqr j) {a b : Int} (h0 : 0 ≤ a) (h1 : a < j.n) (k0 : 0 ≤ b) (k1 : b < j.n) : (rowAt j.Clears a)[b.toNat]? = some (clr j a b) :=
  at0_get k0 (by rw [(h.row h0 h1).2]; exact k1)

/-- The lists are short. -/
structure Fit (j : Jn) : Prop where
  s : j.Streams.length ≤ 22
  c : j.Clears.length ≤ 22
  p : j.Phases.length ≤ 14
  l : j.Longest.length ≤ 14
  g : j.Gates.length ≤ 22
  cs : ∀ r ∈ j.Clears, r.length ≤ 22
  ps : ∀ r ∈ j.Phases, r.length ≤ 22

theorem c_within (x lo hi : Int) : PureCall Try.prog 70 [I x, I lo, I hi] (Bo (inr x lo hi)) := by
  refine PureCall.of_body Try.func70 rfl (by decide) (by simp [Try.ntmps70]) ?_
  simp only [Try.ntmps70, Try.results70]
  refine awp_sr rfl fun K hK => ?_
  simp -dsimp
  refine hK _ _ ?_; clear hK K
  refine awp_sr rfl fun K hK => ?_
  simp -dsimp
  refine hK _ _ ?_; clear hK K
  exact awp_ret (by simp [inr])

theorem c_conflict (j : Jn) (a b : Int) (h : Sqr j) (h0 : 0 ≤ a) (h1 : a < j.n) (k0 : 0 ≤ b) (k1 : b < j.n) : PureCall Try.prog 72 [j.av, I a, I b] (Bo (conf j a b)) := by
  have g1 := (h.row h0 h1).1
  have g2 := h.get h0 h1 k0 k1
  refine PureCall.of_body Try.func72 rfl (by decide) (by simp [Try.ntmps72]) ?_
  simp only [Try.ntmps72, Try.results72]
  refine awp_sr rfl fun K hK => ?_
  simp -dsimp
  refine hK _ _ ?_; clear hK K
  refine awp_sr rfl fun K hK => ?_
  simp -dsimp [g1, g2, h0, k0]
  refine hK _ _ ?_; clear hK K
  exact awp_ret (by simp [conf])

theorem c_streams1 (s : Strm) : PureCall Try.prog 96 [.agg s.cells] (Bo (!strmB s)) := by
  refine PureCall.of_body Try.func96 rfl (by decide) (by simp [Try.ntmps96]) ?_
  simp only [Try.ntmps96, Try.results96]
  refine awp_sr rfl fun K hK => ?_
  simp -dsimp
  refine hK _ _ ?_; clear hK K
  refine awp_sr rfl fun K hK => ?_
  simp -dsimp
  refine callK_may _ (fun hm => c_within s.Least 1 120) (by simp) ?_
  simp -dsimp
  refine hK _ _ ?_; clear hK K
  refine awp_ret ?_
  simp [strmB, inr]
  rw [show decide (s.Kind < 1) = !decide (1 ≤ s.Kind) by rw [← decide_not]; exact decide_eq_decide.2 (by omega), show decide (3 < s.Kind) = !decide (s.Kind ≤ 3) by rw [← decide_not]; exact decide_eq_decide.2 (by omega)]

theorem c_Index_Strm (l : List Strm) (f : FuncId) (cl : List (List AV)) (q : Strm → Bool) (h : ∀ x ∈ l, PureCall Try.prog f (.agg x.cells :: ipts cl) (Bo (q x))) (hn : l.length ≤ 100000) :
    PureCall Try.prog 105 [.lst 2 (l.map Strm.cells), .clo f (ipts cl)] (I (firstI l q)) := by
  refine PureCall.of_body Try.func105 rfl (by decide) (by simp [Try.ntmps105]) ?_
  simp only [Try.ntmps105, Try.results105]
  refine awp_sr rfl fun K hK => ?_
  simp -dsimp
  refine hK _ _ ?_; clear hK K
  refine awp_seq_k fun K1 hK1 => ?_
  refine awp_sr rfl fun K hK => ?_
  simp -dsimp
  refine hK _ _ ?_; clear hK K
  refine awp_block ?_
  refine awp_prune [0, 1, 7, 8] ?_
  simp only [prune, List.map_cons, List.map_nil, Go.AM.look, Nat.reduceEqDiff, reduceIte]
  refine awp_loop_l [0, 1, 7] (α := Nat) (fun k => [(8, I k)]) (fun _ => []) (fun k => k ≤ l.length ∧ (l.take k).any q = false) (fun k => l.length - k) 0 ?_ ?_ ?_
  · simp
  · exact sub_same (by simp)
  rintro k ⟨k1, k2⟩
  simp only [List.cons_append, List.nil_append, prune, List.map_cons, List.map_nil, Go.AM.look, Nat.reduceEqDiff, reduceIte]
  refine awp_sr rfl fun K hK => ?_
  simp -dsimp
  refine hK _ _ ?_; clear hK K
  refine awp_seq_k fun K2 hK2 => ?_
  refine awp_cond rfl (fun hc0 => ?_) (fun hc0 => ?_)
  · skip
    try simp at hc0
    obtain ⟨x, hx⟩ : ∃ x, l[k]? = some x := ⟨_, List.getElem?_eq_getElem hc0⟩
    have wk : IntKind.i64.wrap ((k : Int) + 1) = (k : Int) + 1 := wrap_in (by omega) (by omega)
    refine awp_skip ?_
    simp only [thenA, inBlockA, reduceIte, Nat.reduceEqDiff, eq_self]
    refine hK2 _ _ ?_
    refine awp_prune [0, 1, 7, 8] ?_
    simp only [prune, List.map_cons, List.map_nil, Go.AM.look, Nat.reduceEqDiff, reduceIte]
    refine awp_seq_k fun K3 hK3 => ?_
    refine awp_block ?_
    refine awp_sr rfl fun K hK => ?_
    simp -dsimp
    refine hK _ _ ?_; clear hK K
    refine awp_sr rfl fun K hK => ?_
    simp -dsimp [hx]
    refine callK_intro _ (h x (List.mem_of_getElem? hx)) (by simp) ?_
    simp -dsimp [hx]
    refine hK _ _ ?_; clear hK K
    refine awp_cond rfl (fun hc1 => ?_) (fun hc1 => ?_)
    · skip
      try simp at hc1
      refine awp_sr rfl fun K hK => ?_
      simp -dsimp
      refine hK _ _ ?_; clear hK K
      exact awp_ret (by simp [firstI_hit hx hc1 k2])
    · skip
      try simp at hc1
      refine awp_skip ?_
      simp only [thenA, inBlockA, reduceIte, Nat.reduceEqDiff, eq_self]
      refine hK3 _ _ ?_
      refine awp_prune [0, 1, 7, 8] ?_
      simp only [prune, List.map_cons, List.map_nil, Go.AM.look, Nat.reduceEqDiff, reduceIte]
      refine awp_r rfl fun K hK => ?_
      simp -dsimp [wk]
      refine hK _ _ ?_; clear hK K
      simp only [thenA, inBlockA, reduceIte, Nat.reduceEqDiff, eq_self]
      exact ⟨k + 1, ⟨by omega, by rw [any_take hx, k2, hc1]; rfl⟩, by omega, sub_same (by simp)⟩
  · skip
    try simp at hc0
    have hall := any_of_take (by omega) k2
    refine awp_exit ?_
    simp only [thenA, inBlockA, reduceIte, Nat.reduceEqDiff, eq_self]
    refine hK1 _ _ ?_
    refine awp_prune [] ?_
    simp only [prune, List.map_cons, List.map_nil, Go.AM.look, Nat.reduceEqDiff, reduceIte]
    refine awp_sr rfl fun K hK => ?_
    simp -dsimp
    refine hK _ _ ?_; clear hK K
    exact awp_ret (by simp [firstI_none hall])
theorem c_Cont_Strm (l : List Strm) (f : FuncId) (cl : List (List AV)) (q : Strm → Bool) (h : ∀ x ∈ l, PureCall Try.prog f (.agg x.cells :: ipts cl) (Bo (q x))) (hn : l.length ≤ 100000) :
    PureCall Try.prog 95 [.lst 2 (l.map Strm.cells), .clo f (ipts cl)] (Bo (l.any q)) := by
  refine PureCall.of_body Try.func95 rfl (by decide) (by simp [Try.ntmps95]) ?_
  simp only [Try.ntmps95, Try.results95]
  refine awp_sr rfl fun K hK => ?_
  simp -dsimp
  refine hK _ _ ?_; clear hK K
  refine awp_sr rfl fun K hK => ?_
  simp -dsimp
  refine callK_intro _ (c_Index_Strm l f cl q h hn) (by simp) ?_
  simp -dsimp
  refine hK _ _ ?_; clear hK K
  exact awp_ret (by simp [firstI_nn])
theorem c_Index_i (l : List Int) (f : FuncId) (cl : List (List AV)) (q : Int → Bool) (h : ∀ x ∈ l, PureCall Try.prog f (I x :: ipts cl) (Bo (q x))) (hn : l.length ≤ 100000) :
    PureCall Try.prog 90 [iL l, .clo f (ipts cl)] (I (firstI l q)) := by
  refine PureCall.of_body Try.func90 rfl (by decide) (by simp [Try.ntmps90]) ?_
  simp only [Try.ntmps90, Try.results90]
  refine awp_sr rfl fun K hK => ?_
  simp -dsimp
  refine hK _ _ ?_; clear hK K
  refine awp_seq_k fun K1 hK1 => ?_
  refine awp_sr rfl fun K hK => ?_
  simp -dsimp
  refine hK _ _ ?_; clear hK K
  refine awp_block ?_
  refine awp_prune [0, 1, 7, 8] ?_
  simp only [prune, List.map_cons, List.map_nil, Go.AM.look, Nat.reduceEqDiff, reduceIte]
  refine awp_loop_l [0, 1, 7] (α := Nat) (fun k => [(8, I k)]) (fun _ => []) (fun k => k ≤ l.length ∧ (l.take k).any q = false) (fun k => l.length - k) 0 ?_ ?_ ?_
  · simp
  · exact sub_same (by simp)
  rintro k ⟨k1, k2⟩
  simp only [List.cons_append, List.nil_append, prune, List.map_cons, List.map_nil, Go.AM.look, Nat.reduceEqDiff, reduceIte]
  refine awp_sr rfl fun K hK => ?_
  simp -dsimp
  refine hK _ _ ?_; clear hK K
  refine awp_seq_k fun K2 hK2 => ?_
  refine awp_cond rfl (fun hc0 => ?_) (fun hc0 => ?_)
  · skip
    try simp at hc0
    obtain ⟨x, hx⟩ : ∃ x, l[k]? = some x := ⟨_, List.getElem?_eq_getElem hc0⟩
    have wk : IntKind.i64.wrap ((k : Int) + 1) = (k : Int) + 1 := wrap_in (by omega) (by omega)
    refine awp_skip ?_
    simp only [thenA, inBlockA, reduceIte, Nat.reduceEqDiff, eq_self]
    refine hK2 _ _ ?_
    refine awp_prune [0, 1, 7, 8] ?_
    simp only [prune, List.map_cons, List.map_nil, Go.AM.look, Nat.reduceEqDiff, reduceIte]
    refine awp_seq_k fun K3 hK3 => ?_
    refine awp_block ?_
    refine awp_sr rfl fun K hK => ?_
    simp -dsimp
    refine hK _ _ ?_; clear hK K
    refine awp_sr rfl fun K hK => ?_
    simp -dsimp [hx]
    refine callK_intro _ (h x (List.mem_of_getElem? hx)) (by simp) ?_
    simp -dsimp [hx]
    refine hK _ _ ?_; clear hK K
    refine awp_cond rfl (fun hc1 => ?_) (fun hc1 => ?_)
    · skip
      try simp at hc1
      refine awp_sr rfl fun K hK => ?_
      simp -dsimp
      refine hK _ _ ?_; clear hK K
      exact awp_ret (by simp [firstI_hit hx hc1 k2])
    · skip
      try simp at hc1
      refine awp_skip ?_
      simp only [thenA, inBlockA, reduceIte, Nat.reduceEqDiff, eq_self]
      refine hK3 _ _ ?_
      refine awp_prune [0, 1, 7, 8] ?_
      simp only [prune, List.map_cons, List.map_nil, Go.AM.look, Nat.reduceEqDiff, reduceIte]
      refine awp_r rfl fun K hK => ?_
      simp -dsimp [wk]
      refine hK _ _ ?_; clear hK K
      simp only [thenA, inBlockA, reduceIte, Nat.reduceEqDiff, eq_self]
      exact ⟨k + 1, ⟨by omega, by rw [any_take hx, k2, hc1]; rfl⟩, by omega, sub_same (by simp)⟩
  · skip
    try simp at hc0
    have hall := any_of_take (by omega) k2
    refine awp_exit ?_
    simp only [thenA, inBlockA, reduceIte, Nat.reduceEqDiff, eq_self]
    refine hK1 _ _ ?_
    refine awp_prune [] ?_
    simp only [prune, List.map_cons, List.map_nil, Go.AM.look, Nat.reduceEqDiff, reduceIte]
    refine awp_sr rfl fun K hK => ?_
    simp -dsimp
    refine hK _ _ ?_; clear hK K
    exact awp_ret (by simp [firstI_none hall])
theorem c_Cont_i (l : List Int) (f : FuncId) (cl : List (List AV)) (q : Int → Bool) (h : ∀ x ∈ l, PureCall Try.prog f (I x :: ipts cl) (Bo (q x))) (hn : l.length ≤ 100000) :
    PureCall Try.prog 64 [iL l, .clo f (ipts cl)] (Bo (l.any q)) := by
  refine PureCall.of_body Try.func64 rfl (by decide) (by simp [Try.ntmps64]) ?_
  simp only [Try.ntmps64, Try.results64]
  refine awp_sr rfl fun K hK => ?_
  simp -dsimp
  refine hK _ _ ?_; clear hK K
  refine awp_sr rfl fun K hK => ?_
  simp -dsimp
  refine callK_intro _ (c_Index_i l f cl q h hn) (by simp) ?_
  simp -dsimp
  refine hK _ _ ?_; clear hK K
  exact awp_ret (by simp [firstI_nn])

theorem c_ContT (l : List Int) (k : Nat) (f : FuncId) (cl : List (List AV)) (q : Int → Bool) (h : ∀ x ∈ l.take k, PureCall Try.prog f (I x :: ipts cl) (Bo (q x))) (hn : l.length ≤ 100000) :
    PureCall Try.prog 64 [.lst 1 (List.take k (l.map nCell)), .clo f (ipts cl)] (Bo ((l.take k).any q)) := by
  have := c_Cont_i (l.take k) f cl q h (by rw [List.length_take]; omega)
  unfold iL at this
  rwa [List.map_take] at this

theorem c_streams (j : Jn) (hf : Fit j) : PureCall Try.prog 74 [j.av] (Bo (streamsB j)) := by
  have hx := c_Cont_Strm j.Streams 96 [] (fun s => !strmB s) (fun s _ => c_streams1 s) (by have := hf.s; omega)
  have e : (!j.Streams.any fun s => !strmB s) = j.Streams.all strmB := by rw [List.any_eq_not_all_not]; simp
  refine PureCall.of_body Try.func74 rfl (by decide) (by simp [Try.ntmps74]) ?_
  simp only [Try.ntmps74, Try.results74]
  refine awp_sr rfl fun K hK => ?_
  simp -dsimp
  refine hK _ _ ?_; clear hK K
  refine awp_sr rfl fun K hK => ?_
  simp -dsimp
  refine callK_intro _ (c_within _ _ _) (by simp) ?_
  simp -dsimp
  refine callK_may _ (fun hm => hx) (by simp) ?_
  simp -dsimp
  refine hK _ _ ?_; clear hK K
  refine awp_ret ?_
  simp [streamsB, Jn.n, ← e]

theorem clears_bad {j : Jn} {a b : Nat} (h : Sqr j) (ha : a < j.n) (hb : b < j.n) (hc : cellB j a b = false) : clearsB j = false := by
  cases hh : clearsB j with
  | false => rfl
  | true =>
    simp only [clearsB, Bool.and_eq_true, List.all_eq_true, List.mem_range] at hh
    rw [hh.2 a ha b hb] at hc; cases hc

theorem c_clears (j : Jn) (hf : Fit j) : PureCall Try.prog 75 [j.av] (Bo (clearsB j)) := by
  have f1 := hf.s; have f2 := hf.c
  refine PureCall.of_body Try.func75 rfl (by decide) (by simp [Try.ntmps75]) ?_
  simp only [Try.ntmps75, Try.results75]
  refine awp_sr rfl fun K hK => ?_
  simp -dsimp
  refine hK _ _ ?_; clear hK K
  refine awp_seq_k fun K1 hK1 => ?_
  refine awp_sr rfl fun K hK => ?_
  simp -dsimp
  refine hK _ _ ?_; clear hK K
  refine awp_cond rfl (fun hc0 => ?_) (fun hc0 => ?_)
  · skip
    try simp at hc0
    refine awp_sr rfl fun K hK => ?_
    simp -dsimp
    refine hK _ _ ?_; clear hK K
    have hne : ¬ j.Clears.length = j.n := by simp only [Jn.n]; omega
    exact awp_ret (by simp [clearsB, hne])
  · skip
    try simp at hc0
    refine awp_skip ?_
    simp only [thenA, inBlockA, reduceIte, Nat.reduceEqDiff, eq_self]
    refine hK1 _ _ ?_
    refine awp_prune [1] ?_
    simp only [prune, List.map_cons, List.map_nil, Go.AM.look, Nat.reduceEqDiff, reduceIte]
    refine awp_seq_k fun K2 hK2 => ?_
    refine awp_sr rfl fun K hK => ?_
    simp -dsimp
    refine hK _ _ ?_; clear hK K
    refine awp_block ?_
    refine awp_prune [1, 20, 21, 22] ?_
    simp only [prune, List.map_cons, List.map_nil, Go.AM.look, Nat.reduceEqDiff, reduceIte]
    refine awp_loop_l [1, 20, 21] (α := Nat) (fun k => [(22, I k)]) (fun _ => [some (.els 6 [j.cells])]) (fun k => k ≤ j.Clears.length ∧ (j.Clears.take k).all (fun r => decide (r.length = j.n)) = true) (fun k => j.Clears.length - k) 0 ?_ ?_ ?_
    · simp
    · exact sub_same (by simp)
    rintro k ⟨k1, k2⟩
    simp only [List.cons_append, List.nil_append, prune, List.map_cons, List.map_nil, Go.AM.look, Nat.reduceEqDiff, reduceIte]
    refine awp_sr rfl fun K hK => ?_
    simp -dsimp
    refine hK _ _ ?_; clear hK K
    refine awp_seq_k fun K3 hK3 => ?_
    refine awp_cond rfl (fun hc1 => ?_) (fun hc1 => ?_)
    · skip
      try simp at hc1
      obtain ⟨r, hr⟩ : ∃ x, j.Clears[k]? = some x := ⟨_, List.getElem?_eq_getElem hc1⟩
      have wk : IntKind.i64.wrap ((k : Int) + 1) = (k : Int) + 1 := wrap_in (by omega) (by omega)
      refine awp_skip ?_
      simp only [thenA, inBlockA, reduceIte, Nat.reduceEqDiff, eq_self]
      refine hK3 _ _ ?_
      refine awp_prune [1, 20, 21, 22] ?_
      simp only [prune, List.map_cons, List.map_nil, Go.AM.look, Nat.reduceEqDiff, reduceIte]
      refine awp_seq_k fun K4 hK4 => ?_
      refine awp_block ?_
      refine awp_sr rfl fun K hK => ?_
      simp -dsimp [hr]
      refine hK _ _ ?_; clear hK K
      refine awp_sr rfl fun K hK => ?_
      simp -dsimp
      refine hK _ _ ?_; clear hK K
      refine awp_cond rfl (fun hc2 => ?_) (fun hc2 => ?_)
      · skip
        try simp at hc2
        refine awp_sr rfl fun K hK => ?_
        simp -dsimp
        refine hK _ _ ?_; clear hK K
        refine awp_ret ?_
        have hrn : ¬ r.length = j.n := by simp only [Jn.n]; omega
        have : j.Clears.all (fun r => decide (r.length = j.n)) = false := all_ff hr (decide_eq_false hrn)
        simp [clearsB, this]
      · skip
        try simp at hc2
        have hrn : r.length = j.n := by simp only [Jn.n]; omega
        refine awp_skip ?_
        simp only [thenA, inBlockA, reduceIte, Nat.reduceEqDiff, eq_self]
        refine hK4 _ _ ?_
        refine awp_prune [1, 20, 21, 22] ?_
        simp only [prune, List.map_cons, List.map_nil, Go.AM.look, Nat.reduceEqDiff, reduceIte]
        refine awp_r rfl fun K hK => ?_
        simp -dsimp [wk]
        refine hK _ _ ?_; clear hK K
        simp only [thenA, inBlockA, reduceIte, Nat.reduceEqDiff, eq_self]
        exact ⟨k + 1, ⟨by omega, by rw [take_all' hr, k2, decide_eq_true hrn]; rfl⟩, by omega, sub_rb [some 0] rfl (by simp) (by simp)⟩
    · skip
      try simp at hc1
      have hall := all_of_take (by omega) k2
      have hsq : Sqr j := ⟨by simp only [Jn.n]; omega, fun r hr => by simpa using List.all_eq_true.1 hall r hr⟩
      clear k2
      refine awp_exit ?_
      simp only [thenA, inBlockA, reduceIte, Nat.reduceEqDiff, eq_self]
      refine hK2 _ _ ?_
      refine awp_prune [1] ?_
      simp only [prune, List.map_cons, List.map_nil, Go.AM.look, Nat.reduceEqDiff, reduceIte]
      refine awp_seq_k fun K5 hK5 => ?_
      refine awp_sr rfl fun K hK => ?_
      simp -dsimp
      refine hK _ _ ?_; clear hK K
      refine awp_block ?_
      refine awp_prune [1, 36, 37, 38] ?_
      simp only [prune, List.map_cons, List.map_nil, Go.AM.look, Nat.reduceEqDiff, reduceIte]
      refine awp_loop_l [1, 36, 37] (α := Nat) (fun a => [(38, I a)]) (fun _ => [some (.els 6 [j.cells])]) (fun a => a ≤ j.n ∧ ∀ a', a' < a → ∀ b, b < j.n → cellB j a' b = true) (fun a => j.n - a) 0 ?_ ?_ ?_
      · exact ⟨Nat.zero_le _, fun a' h => by omega⟩
      · exact sub_same (by simp)
      rintro a ⟨a1, a2⟩
      simp only [List.cons_append, List.nil_append, prune, List.map_cons, List.map_nil, Go.AM.look, Nat.reduceEqDiff, reduceIte]
      refine awp_sr rfl fun K hK => ?_
      simp -dsimp
      refine hK _ _ ?_; clear hK K
      refine awp_seq_k fun K6 hK6 => ?_
      refine awp_cond rfl (fun hc3 => ?_) (fun hc3 => ?_)
      · skip
        try simp at hc3
        have ha : a < j.n := by have := hsq.len; omega
        have wa : IntKind.i64.wrap ((a : Int) + 1) = (a : Int) + 1 := wrap_in (by omega) (by simp only [Jn.n] at ha; omega)
        have ga := hsq.row (a := (a : Int)) (by omega) (by omega)
        simp only [Int.toNat_natCast] at ga
        refine awp_skip ?_
        simp only [thenA, inBlockA, reduceIte, Nat.reduceEqDiff, eq_self]
        refine hK6 _ _ ?_
        refine awp_prune [1, 36, 37, 38] ?_
        simp only [prune, List.map_cons, List.map_nil, Go.AM.look, Nat.reduceEqDiff, reduceIte]
        refine awp_seq_k fun K7 hK7 => ?_
        refine awp_block ?_
        refine awp_sr rfl fun K hK => ?_
        simp -dsimp [ga.1]
        refine hK _ _ ?_; clear hK K
        refine awp_sr rfl fun K hK => ?_
        simp -dsimp
        refine hK _ _ ?_; clear hK K
        refine awp_block ?_
        refine awp_prune [1, 5, 36, 37, 38, 43, 44, 45] ?_
        simp only [prune, List.map_cons, List.map_nil, Go.AM.look, Nat.reduceEqDiff, reduceIte]
        refine awp_loop_l [1, 5, 36, 37, 38, 43, 44] (α := Nat) (fun b => [(45, I b)]) (fun _ => [some (.els 6 [j.cells])]) (fun b => b ≤ j.n ∧ ∀ b', b' < b → cellB j a b' = true) (fun b => j.n - b) 0 ?_ ?_ ?_
        · exact ⟨Nat.zero_le _, fun b' h => by omega⟩
        · exact sub_same (by simp)
        rintro b ⟨b1, b2⟩
        simp only [List.cons_append, List.nil_append, prune, List.map_cons, List.map_nil, Go.AM.look, Nat.reduceEqDiff, reduceIte]
        refine awp_sr rfl fun K hK => ?_
        simp -dsimp
        refine hK _ _ ?_; clear hK K
        refine awp_seq_k fun K8 hK8 => ?_
        refine awp_cond rfl (fun hc4 => ?_) (fun hc4 => ?_)
        · skip
          try simp at hc4
          have hb : b < j.n := by rw [ga.2] at hc4; exact hc4
          have wb : IntKind.i64.wrap ((b : Int) + 1) = (b : Int) + 1 := wrap_in (by omega) (by simp only [Jn.n] at hb; omega)
          have gb := hsq.get (a := (a : Int)) (b := (b : Int)) (by omega) (by omega) (by omega) (by omega)
          have gb' := hsq.row (a := (b : Int)) (by omega) (by omega)
          have gc := hsq.get (a := (b : Int)) (b := (a : Int)) (by omega) (by omega) (by omega) (by omega)
          simp only [Int.toNat_natCast] at gb gb' gc
          have wm1 : IntKind.i64.wrap (-1) = -1 := wrap_in (by omega) (by omega)
          refine awp_skip ?_
          simp only [thenA, inBlockA, reduceIte, Nat.reduceEqDiff, eq_self]
          refine hK8 _ _ ?_
          refine awp_prune [1, 5, 36, 37, 38, 43, 44, 45] ?_
          simp only [prune, List.map_cons, List.map_nil, Go.AM.look, Nat.reduceEqDiff, reduceIte]
          refine awp_seq_k fun K9 hK9 => ?_
          refine awp_block ?_
          refine awp_sr rfl fun K hK => ?_
          simp -dsimp [gb]
          refine hK _ _ ?_; clear hK K
          refine awp_sr rfl fun K hK => ?_
          simp -dsimp [gb'.1, gc, wm1]
          refine callK_intro _ (c_within _ _ _) (by simp) ?_
          simp -dsimp [gb'.1, gc, wm1]
          refine idxK_intro (rCell (rowAt j.Clears b)) (fun _ => by simp [gb'.1]) ?_
          simp -dsimp [gb'.1, gc, wm1]
          refine idxK_intro (nCell (clr j b a)) (fun _ => by simp [gc]) ?_
          simp -dsimp [gb'.1, gc, wm1]
          refine ⟨fun w => ne_guard _ _ _ _ _ w und_bool, _, fun w => ne_bool _ _ _ w kt_bool, ?_⟩
          simp -dsimp
          refine hK _ _ ?_; clear hK K
          refine awp_cond rfl (fun hc5 => ?_) (fun hc5 => ?_)
          · skip
            have hcell : cellB j a b = !(!inr (clr j ↑a ↑b) (-1) 60 || (a : Int) == (b : Int) && clr j ↑a ↑b != -1 || (clr j ↑a ↑b == -1) != (clr j ↑b ↑a == -1)) := by
              simp only [cellB]
              have hab : decide ((a : Int) = (b : Int)) = decide (a = b) := decide_eq_decide.2 (by omega)
              simp only [beq_d, bne, ne_eq, decide_not, hab]
              cases inr (clr j a b) (-1) 60 <;> cases decide (a = b) <;> cases decide (clr j a b = -1) <;> cases decide (clr j b a = -1) <;> rfl
            refine awp_sr rfl fun K hK => ?_
            simp -dsimp
            refine hK _ _ ?_; clear hK K
            exact awp_ret (by simp [clears_bad hsq ha hb (by rw [hcell, hc5]; rfl)])
          · skip
            have hcell : cellB j a b = !(!inr (clr j ↑a ↑b) (-1) 60 || (a : Int) == (b : Int) && clr j ↑a ↑b != -1 || (clr j ↑a ↑b == -1) != (clr j ↑b ↑a == -1)) := by
              simp only [cellB]
              have hab : decide ((a : Int) = (b : Int)) = decide (a = b) := decide_eq_decide.2 (by omega)
              simp only [beq_d, bne, ne_eq, decide_not, hab]
              cases inr (clr j a b) (-1) 60 <;> cases decide (a = b) <;> cases decide (clr j a b = -1) <;> cases decide (clr j b a = -1) <;> rfl
            refine awp_skip ?_
            simp only [thenA, inBlockA, reduceIte, Nat.reduceEqDiff, eq_self]
            refine hK9 _ _ ?_
            refine awp_prune [1, 5, 36, 37, 38, 43, 44, 45] ?_
            simp only [prune, List.map_cons, List.map_nil, Go.AM.look, Nat.reduceEqDiff, reduceIte]
            refine awp_r rfl fun K hK => ?_
            simp -dsimp [wb]
            refine hK _ _ ?_; clear hK K
            simp only [thenA, inBlockA, reduceIte, Nat.reduceEqDiff, eq_self]
            exact ⟨b + 1, ⟨by omega, fun b' h => by rcases Nat.lt_succ_iff_lt_or_eq.1 h with h | rfl; exact b2 b' h; rw [hcell, hc5]; rfl⟩, by omega, sub_rb [some 0] rfl (by simp) (by simp)⟩
        · skip
          try simp at hc4
          refine awp_exit ?_
          simp only [thenA, inBlockA, reduceIte, Nat.reduceEqDiff, eq_self]
          refine hK7 _ _ ?_
          refine awp_prune [1, 36, 37, 38] ?_
          simp only [prune, List.map_cons, List.map_nil, Go.AM.look, Nat.reduceEqDiff, reduceIte]
          refine awp_r rfl fun K hK => ?_
          simp -dsimp [wa]
          refine hK _ _ ?_; clear hK K
          simp only [thenA, inBlockA, reduceIte, Nat.reduceEqDiff, eq_self]
          exact ⟨a + 1, ⟨by omega, fun a' h b hb => by rcases Nat.lt_succ_iff_lt_or_eq.1 h with h | rfl; exact a2 a' h b hb; exact b2 b (by omega)⟩, by omega, sub_rb [some 0] rfl (by simp) (by simp)⟩
      · skip
        try simp at hc3
        refine awp_exit ?_
        simp only [thenA, inBlockA, reduceIte, Nat.reduceEqDiff, eq_self]
        refine hK5 _ _ ?_
        refine awp_prune [] ?_
        simp only [prune, List.map_cons, List.map_nil, Go.AM.look, Nat.reduceEqDiff, reduceIte]
        refine awp_sr rfl fun K hK => ?_
        simp -dsimp
        refine hK _ _ ?_; clear hK K
        have hfin : clearsB j = true := by
          have hall' : (List.range j.n).all (fun a => (List.range j.n).all fun b => cellB j a b) = true := by
            simp only [List.all_eq_true, List.mem_range]
            exact fun a ha b hb => a2 a (by have := hsq.len; omega) b hb
          simp only [clearsB, decide_eq_true hsq.len, hall, hall', Bool.true_and]
        exact awp_ret (by simp [hfin])
end Go.Street
