/- Walks: what the laws of signals share. -/
import Derived.Test.YtmenlmioccciiaaZW
import Derived.Test.YtmenlmioccciiaaZT
namespace Go.Street
open Go.AM Go.Proofs Go.Tram
set_option maxRecDepth 100000
set_option maxHeartbeats 8000000
set_option linter.unusedVariables false
set_option linter.unusedSimpArgs false

/-- What a signal is told. -/
structure Td where
  Dm : List Int
  Pr : List Int
  deriving Inhabited
@[simp] def Td.cells (t : Td) : List AV := [iL t.Dm, iL t.Pr]
abbrev tL (l : List Td) : AV := .lst 2 (l.map Td.cells)
theorem flat_Td.cells (l : List Td) : (l.map Td.cells).all (fun e => e.all flatC) = true := by simp [flatC]
@[simp high] theorem flat_Td.cells_ren (l : List Td) (g : List (Option Nat)) (n : Nat) : (l.map Td.cells).map (fun e => e.map (renAV g n)) = l.map Td.cells := map_flatC (fun x h => flatC_ren h g n) (flat_Td.cells l)
@[simp high] theorem flat_Td.cells_renF (l : List Td) (H : Nat → Option ARow) (g : List (Option Nat)) (n : Nat) : (l.map Td.cells).map (fun e => e.map (renF H g n)) = l.map Td.cells := map_flatC (fun x h => flatC_renF h H g n) (flat_Td.cells l)
@[simp high] theorem flat_Td.cells_frzP (l : List Td) (H : Hp) (n : Nat) : (l.map Td.cells).map (fun e => e.map (frzP H n)) = l.map Td.cells := map_flatC (fun x h => flatC_frzP h H n) (flat_Td.cells l)
@[simp high] theorem flat_Td.cells_frz (l : List Td) (H : Nat → Option ARow) (n : Nat) : (l.map Td.cells).map (fun e => e.map (frz H n)) = l.map Td.cells := map_flatC (fun x h => flatC_frz h H n) (flat_Td.cells l)
@[simp high] theorem flat_Td.cells_plain (l : List Td) : plainEls (l.map Td.cells) = true := plain_flat (flat_Td.cells l)
def TdIn (t : Td) : Prop := t.Dm.length ≤ maxLen ∧ t.Pr.length ≤ maxLen
theorem sh_tolds {n : Nat} {avs : List AV} (h : Shaped Try.prog (n + 5) 44 avs) : ∃ l : List Td, avs = [tL l] ∧ l.length ≤ maxLen ∧ ∀ t ∈ l, TdIn t := by
  obtain ⟨els, hl, hb, he⟩ := shaped_slice (by kernel_rfl) td44 h
  obtain ⟨l, rfl, hR⟩ := list_of (c := Td.cells) (R := TdIn) (fun el hel => by
    obtain ⟨h1, h2⟩ := shaped_agg (by kernel_rfl) td52 (he el hel)
    obtain ⟨a, b, rfl⟩ := list2 h1
    obtain ⟨x, hx, bx, _⟩ := sh_ints (h2 (0, 1, 24) (by simp))
    obtain ⟨y, hy, by', _⟩ := sh_ints (h2 (1, 1, 24) (by simp))
    simp at hx hy
    subst hx hy
    exact ⟨⟨x, y⟩, rfl, bx, by'⟩)
  simp at hl hb
  exact ⟨l, hl, hb, hR⟩

def tdB (t : Td) : Bool := decide (t.Dm.length ≤ 25) && decide (t.Pr.length ≤ 25)
theorem c_few (l : List Td) (hn : l.length ≤ maxLen) : PureCall Try.prog 23 [tL l] (Bo (l.all tdB && decide (l.length ≤ 300))) := by
  have hml : l.length ≤ 9223372036854775807 := hn
  refine PureCall.of_body Try.func23 rfl (by decide) (by simp [Try.ntmps23]) ?_
  simp only [Try.ntmps23, Try.results23]
  refine awp_sr rfl fun K hK => ?_
  simp -dsimp
  refine hK _ _ ?_; clear hK K
  refine awp_seq_k fun K1 hK1 => ?_
  refine awp_sr rfl fun K hK => ?_
  simp -dsimp
  refine hK _ _ ?_; clear hK K
  refine awp_block ?_
  refine awp_prune [0, 3] ?_
  simp only [prune, List.map_cons, List.map_nil, Go.AM.look, Nat.reduceEqDiff, reduceIte]
  refine awp_loop_l [0] (α := Nat) (fun k => [(3, I k)]) (fun _ => []) (fun k => k ≤ l.length ∧ (l.take k).all tdB = true) (fun k => l.length - k) 0 ?_ ?_ ?_
  · exact ⟨Nat.zero_le _, rfl⟩
  · exact sub_same (by simp)
  rintro k ⟨k1, k2⟩
  simp only [List.cons_append, List.nil_append, prune, List.map_cons, List.map_nil, Go.AM.look, Nat.reduceEqDiff, reduceIte]
  refine awp_seq_k fun K2 hK2 => ?_
  refine awp_sr rfl fun K hK => ?_
  simp -dsimp
  refine hK _ _ ?_; clear hK K
  refine awp_cond rfl (fun hc0 => ?_) (fun hc0 => ?_)
  · skip
    try simp at hc0
    obtain ⟨t, ht⟩ : ∃ x, l[k]? = some x := ⟨_, List.getElem?_eq_getElem hc0⟩
    have wk : IntKind.i64.wrap ((k : Int) + 1) = (k : Int) + 1 := wrap_in (by omega) (by omega)
    refine awp_skip ?_
    simp only [thenA, inBlockA, reduceIte, Nat.reduceEqDiff, eq_self]
    refine hK2 _ _ ?_
    refine awp_prune [0, 3] ?_
    simp only [prune, List.map_cons, List.map_nil, Go.AM.look, Nat.reduceEqDiff, reduceIte]
    refine awp_seq_k fun K3 hK3 => ?_
    refine awp_block ?_
    refine awp_sr rfl fun K hK => ?_
    simp -dsimp [ht]
    refine idxK_intro (t.cells) (fun _ => by simp [ht]) ?_
    simp -dsimp [ht]
    refine hK _ _ ?_; clear hK K
    refine awp_cond rfl (fun hc1 => ?_) (fun hc1 => ?_)
    · skip
      try simp at hc1
      refine awp_sr rfl fun K hK => ?_
      simp -dsimp
      refine hK _ _ ?_; clear hK K
      have hb : tdB t = false := by cases hq : tdB t with | false => rfl | true => simp only [tdB, Bool.and_eq_true, decide_eq_true_eq] at hq; omega
      have hff : l.all tdB = false := all_ff ht hb
      exact awp_ret (by simp [hff])
    · skip
      try simp at hc1
      refine awp_skip ?_
      simp only [thenA, inBlockA, reduceIte, Nat.reduceEqDiff, eq_self]
      refine hK3 _ _ ?_
      refine awp_prune [0, 3] ?_
      simp only [prune, List.map_cons, List.map_nil, Go.AM.look, Nat.reduceEqDiff, reduceIte]
      refine awp_r rfl fun K hK => ?_
      simp -dsimp [wk]
      refine hK _ _ ?_; clear hK K
      simp only [thenA, inBlockA, reduceIte, Nat.reduceEqDiff, eq_self]
      have hb : tdB t = true := by simp only [tdB, Bool.and_eq_true, decide_eq_true_eq]; omega
      exact ⟨k + 1, ⟨by omega, by rw [take_all' ht, k2, hb]; rfl⟩, by omega, sub_rb [] rfl (by simp) (by simp)⟩
  · skip
    try simp at hc0
    have hall := all_of_take (by omega) k2
    refine awp_exit ?_
    simp only [thenA, inBlockA, reduceIte, Nat.reduceEqDiff, eq_self]
    refine hK1 _ _ ?_
    refine awp_prune [0] ?_
    simp only [prune, List.map_cons, List.map_nil, Go.AM.look, Nat.reduceEqDiff, reduceIte]
    refine awp_sr rfl fun K hK => ?_
    simp -dsimp
    refine hK _ _ ?_; clear hK K
    have e : decide ((l.length : Int) ≤ 300) = decide (l.length ≤ 300) := decide_eq_decide.2 (by omega)
    exact awp_ret (by simp [hall, e])

/-- The state behind what it was told. -/
def stepS (j : Jn) (s : Sg) (t : Td) : Sg := if okT j t.Dm t.Pr then tickS j t.Dm t.Pr s else s
def runS (j : Jn) (l : List Td) : Sg := l.foldl (stepS j) (openS j)
theorem runS_snoc {j : Jn} {l : List Td} {k : Nat} {t : Td} (h : l[k]? = some t) : runS j (l.take (k + 1)) = stepS j (runS j (l.take k)) t := by
  unfold runS
  rw [List.take_add_one, h]; simp
/-- Its numbers and lights are as they must be. -/
def StIn (j : Jn) (k : Nat) (s : Sg) : Prop := (∃ N : Int, -1 ≤ N ∧ N ≤ (k : Int) - 1 ∧ SgIn j N s) ∧ Safe j s
theorem stIn_open {j : Jn} (ho : JOk j) : StIn j 0 (openS j) := ⟨⟨-1, by omega, by omega, open_in ho⟩, open_safe ho⟩
theorem stIn_step {j : Jn} (ho : JOk j) {k : Nat} {s : Sg} (h : StIn j k s) (t : Td) : StIn j (k + 1) (stepS j s t) := by
  obtain ⟨⟨N, n1, n2, h1⟩, h2⟩ := h
  unfold stepS
  split
  · exact ⟨⟨N + 1, by omega, by omega, tick_in ho n1 h1⟩, (tick_keeps ho h2).1⟩
  · exact ⟨⟨N, n1, by omega, h1⟩, h2⟩
theorem StIn.ok {j : Jn} {k : Nat} {s : Sg} (h : StIn j k s) (hk : k ≤ 1000) : SgOk j s := by
  obtain ⟨⟨N, n1, n2, h1⟩, h2⟩ := h
  exact h1.ok n1 (by omega)

abbrev sgAt (j : Jn) (s : Sg) (a b nR nK : Nat) : Option ARow := some (.els 15 [sC j (Bo true) (I s.se) (I s.ph) (Bo s.on) (I s.si) (.row a 0 nR) (.row b 0 nK) .any .any])

theorem stepS_tick {j : Jn} {s : Sg} {t : Td} (hf : Fit j) (ho : JOk j) {k : Nat} (h : StIn j k s) (hk : k ≤ 1000) (hd : t.Dm.length ≤ 1000) (hp : t.Pr.length ≤ 1000) :
    MutCall Try.prog 28 [.ptr 0 0 0, iL t.Dm, iL t.Pr] [sgRow j s j.n j.Phases.length .any .any] [rRow s.ls, kRow s.sk] (I (if okT j t.Dm t.Pr then 0 else 2)) [sgRow j (stepS j s t) j.n j.Phases.length .any .any] [rRow (stepS j s t).ls, kRow (stepS j s t).sk] := by
  have hok := h.ok hk
  cases hq : okT j t.Dm t.Pr with
  | true =>
    have := m_Tick j t.Dm t.Pr s hf ho hok hd hp hq
    rw [hok.l, hok.k] at this
    have e : stepS j s t = tickS j t.Dm t.Pr s := by unfold stepS; rw [if_pos hq]
    rw [e]; exact this
  | false =>
    have := m_Tick_f j t.Dm t.Pr s hf ho hok hd hp hq
    rw [hok.l, hok.k] at this
    have e : stepS j s t = s := by unfold stepS; rw [if_neg (by simp [hq])]
    rw [e]; exact this
theorem lights_in {j : Jn} {s : Sg} (ho : JOk j) {k : Nat} (h : StIn j k s) (hk : k ≤ 1000) :
    MutCall Try.prog 32 [.ptr 0 0 0] [sgRow j s j.n j.Phases.length .any .any] [rRow s.ls, kRow s.sk] (.row 3 0 j.n) [sgRow j s j.n j.Phases.length .any .any] [rRow s.ls, kRow s.sk, rRow s.ls] := by
  have hok := h.ok hk
  have := m_Lights j s hok (by have := ho.n2; omega)
  rwa [hok.l, hok.k] at this

end Go.Street
