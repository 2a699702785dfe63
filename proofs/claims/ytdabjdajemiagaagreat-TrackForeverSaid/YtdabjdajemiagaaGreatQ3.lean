/- Walks: what can be reached, turns and is endless, in the document. -/
import Derived.Test.YtdabjdajemiagaaGreatQ2
import Derived.Test.YtdabjdajemiagaaGreatR7
import Derived.Test.YtdabjdajemiagaaGreatP6
namespace Go.Tram
open Go.AM Go.Proofs
set_option maxRecDepth 10000
set_option maxHeartbeats 4000000
set_option linter.unusedVariables false
set_option linter.unusedSimpArgs false

theorem m_rNext (p : Plan) (m : Move) (hv : validB p = true) (hm : movB p m = true) : MutCall Tryz.prog 19 [p.av, m.av] [] [] (.row 0 0 (nextL p m).length) [] [some (.els 2 ((nextL p m).map Move.cells))] := by
  have hR := (valid_parts hv).2.1
  have w2 : IntKind.i64.wrap (2 * (p.Rails.length : Int)) = 2 * (p.Rails.length : Int) := wrap_in (by omega) (by omega)
  have hfo := fun k => c_rFollows p m k hv hm
  have hsu := rNx_succ p m
  rw [next_eq hv hm]
  show MutCall _ _ _ _ _ (.row 0 0 (rNx p m (2 * p.Rails.length)).length) _ [some (.els 2 ((rNx p m (2 * p.Rails.length)).map Move.cells))]
  refine MutCall.of_bodyG [] Tryz.func19 rfl (by decide) (by simp [Tryz.ntmps19]) rfl rfl ?_
  intro J hJ
  simp only [Tryz.ntmps19, Tryz.results19]
  refine gwp_sr rfl (by decide) rfl rfl fun K hK => ?_
  simp -dsimp
  refine hK _ _ ?_; clear hK K
  refine gwp_sr rfl (by decide) rfl rfl fun K hK => ?_
  simp -dsimp
  refine hK _ _ ?_; clear hK K
  refine gwp_seq_k fun K1 hK1 => ?_
  refine gwp_sr rfl (by decide) rfl rfl fun K hK => ?_
  simp -dsimp
  refine hK _ _ ?_; clear hK K
  refine gwp_block ?_
  refine gwp_prune [2, 3, 5, 6] (Or.inr (by simp)) ?_
  simp only [prune, List.map_cons, List.map_nil, Go.AM.look, Nat.reduceEqDiff, reduceIte]
  refine gwp_loop_l [2, 3] (α := Nat) (fun j => [(6, I j), (5, .row 2 0 (rNx p m j).length)]) (fun j => [some (.els 2 [p.cells]), some (.els 2 [m.cells]), some (.els 2 ((rNx p m j).map Move.cells))]) (fun j => j ≤ 2 * p.Rails.length) (fun j => 2 * p.Rails.length - j) 0 ?_ ?_ ?_
  · simp
  · exact gsub ((sub_nil 5 2 (by simp)).trans (sub_rb [some 0, some 1, some 2] rfl (by simp) (by simp))) (by simp)
  rintro j j1
  have hsj := hsu j
  have hlj := rNx_len p m j
  have hfj := hfo (moveM j)
  generalize hA : rNx p m j = A at hsj hlj ⊢
  have f1 : Fits (A.length + 1) 17 := fits_of (by omega) (by omega)
  have wj : IntKind.i64.wrap ((j : Int) + 1) = (j : Int) + 1 := wrap_in (by omega) (by omega)
  simp only [List.cons_append, List.nil_append, prune, List.map_cons, List.map_nil, Go.AM.look, Nat.reduceEqDiff, reduceIte]
  refine gwp_seq_k fun K2 hK2 => ?_
  refine gwp_sr rfl (by decide) rfl rfl fun K hK => ?_
  simp -dsimp [w2]
  refine hK _ _ ?_; clear hK K
  refine gwp_cond rfl (fun hc0 => ?_) (fun hc0 => ?_)
  · skip
    try simp at hc0
    refine gwp_skip ?_
    simp only [thenA, inBlockA, reduceIte, Nat.reduceEqDiff, eq_self]
    refine hK2 _ _ ?_
    refine gwp_prune [2, 3, 5, 6] (Or.inr (by simp)) ?_
    simp only [prune, List.map_cons, List.map_nil, Go.AM.look, Nat.reduceEqDiff, reduceIte]
    refine gwp_seq_k fun K3 hK3 => ?_
    refine gwp_block ?_
    refine gwp_sd mixed rfl (by decide) rfl rfl fun K hK => ?_
    simp -dsimp
    refine callK_intro _ (c_rOf j (by omega) (by omega)) (by simp) ?_
    simp -dsimp
    refine callK_intro _ (hfj) (by simp) ?_
    simp -dsimp
    refine hK _ _ _ (by decide +kernel) ?_; clear hK K
    refine gwp_cond rfl (fun hc1 => ?_) (fun hc1 => ?_)
    · skip
      try simp at hc1
      rw [hc1, if_pos rfl] at hsj
      refine gwp_r rfl (by decide) rfl rfl fun K hK => ?_
      simp -dsimp [f1]
      refine callK_intro _ (c_rOf j (by omega) (by omega)) (by simp) ?_
      simp -dsimp [f1]
      refine hK _ _ ?_; clear hK K
      simp only [thenA, inBlockA, reduceIte, Nat.reduceEqDiff, eq_self]
      refine hK3 _ _ ?_
      refine gwp_prune [2, 3, 5, 6] (Or.inr (by simp)) ?_
      simp only [prune, List.map_cons, List.map_nil, Go.AM.look, Nat.reduceEqDiff, reduceIte]
      refine gwp_r rfl (by decide) rfl rfl fun K hK => ?_
      simp -dsimp [wj]
      refine hK _ _ ?_; clear hK K
      simp only [thenA, inBlockA, reduceIte, Nat.reduceEqDiff, eq_self]
      exact ⟨j + 1, by omega, by omega, gsub (sub_rb [some 0, some 1, some 3] rfl (by simp [hsj]) (by simp [hsj])) (by simp)⟩
    · skip
      try simp at hc1
      rw [hc1, if_neg (by simp)] at hsj
      refine gwp_skip ?_
      simp only [thenA, inBlockA, reduceIte, Nat.reduceEqDiff, eq_self]
      refine hK3 _ _ ?_
      refine gwp_prune [2, 3, 5, 6] (Or.inr (by simp)) ?_
      simp only [prune, List.map_cons, List.map_nil, Go.AM.look, Nat.reduceEqDiff, reduceIte]
      refine gwp_r rfl (by decide) rfl rfl fun K hK => ?_
      simp -dsimp [wj]
      refine hK _ _ ?_; clear hK K
      simp only [thenA, inBlockA, reduceIte, Nat.reduceEqDiff, eq_self]
      exact ⟨j + 1, by omega, by omega, gsub (sub_rb [some 0, some 1, some 2] rfl (by simp [hsj]) (by simp [hsj])) (by simp)⟩
  · skip
    try simp at hc0
    have hje : j = 2 * p.Rails.length := by omega
    subst hje
    refine gwp_exit ?_
    simp only [thenA, inBlockA, reduceIte, Nat.reduceEqDiff, eq_self]
    refine hK1 _ _ ?_
    refine gwp_prune [5] (Or.inr (by simp)) ?_
    simp only [prune, List.map_cons, List.map_nil, Go.AM.look, Nat.reduceEqDiff, reduceIte]
    refine gwp_sr rfl (by decide) rfl rfl fun K hK => ?_
    simp -dsimp
    refine hK _ _ ?_; clear hK K
    exact gwp_ret ⟨[some 2], rfl, by simp, by simp [hA], by simp, by simp [resP, tupOf, hA]⟩

def mvL (l : List Int) : List Move := l.map moveM
@[simp] theorem mvL_len (l : List Int) : (mvL l).length = l.length := by simp [mvL]
@[simp] theorem mvL_get (l : List Int) (i : Nat) : (mvL l)[i]? = (l[i]?).map moveM := by simp [mvL]
theorem mvL_app (a b : List Int) : mvL (a ++ b) = mvL a ++ mvL b := by simp [mvL]
theorem mvL_nxI (p : Plan) (k : Int) : mvL (nxI p k) = nextL p (moveM k) := rfl
abbrev mrow (l : List Int) : Option ARow := some (.els 2 ((mvL l).map Move.cells))
theorem m_rNextK (p : Plan) (k : Int) (hv : validB p = true) (h0 : 0 ≤ k) (h1 : k < 2 * p.Rails.length) : MutCall Tryz.prog 19 [p.av, (moveM k).av] [] [] (.row 0 0 (nxI p k).length) [] [mrow (nxI p k)] := by
  have := m_rNext p (moveM k) hv (mov_of h0 h1)
  rw [nxI_len]
  exact this

theorem c_rReached (p : Plan) (m : Move) (hv : validB p = true) (hm : movB p m = true) : PureCall Tryz.prog 83 [p.av, m.av] (.lst 1 ((reachL p (numM m)).map bCell)) := by
  have hR := (valid_parts hv).2.1
  have hm' := movB_iff.1 hm
  have w2 : IntKind.i64.wrap (2 * (p.Rails.length : Int)) = 2 * (p.Rails.length : Int) := wrap_in (by omega) (by omega)
  have wt : (2 * (p.Rails.length : Int)).toNat = 2 * p.Rails.length := by omega
  have f1 : Fits (2 * p.Rails.length) 2 := fits_of (by omega) (by omega)
  have w0 : 0 ≤ 2 * (p.Rails.length : Int) := by omega
  have hb0 : 0 ≤ numM m ∧ numM m < 2 * p.Rails.length := by unfold numM; split <;> omega
  have hmm := moveM_numM hm'.1
  have hn0 := m_rNextK p (numM m) hv hb0.1 hb0.2
  rw [hmm] at hn0
  generalize numM m = f at hb0 hn0 ⊢
  refine PureCall.of_bodyG Tryz.func83 rfl (by decide) (by simp [Tryz.ntmps83]) ?_
  intro J hJ
  simp only [Tryz.ntmps83, Tryz.results83]
  refine gwp_sr rfl (by decide) rfl rfl fun K hK => ?_
  simp -dsimp
  refine hK _ _ ?_; clear hK K
  refine gwp_sr rfl (by decide) rfl rfl fun K hK => ?_
  simp -dsimp [w2, wt, f1, w0]
  refine hK _ _ ?_; clear hK K
  refine gwp_sr rfl (by decide) rfl rfl fun K hK => ?_
  simp -dsimp
  refine callK_mut [] [] [none, none, none, some 0] (hn0) (by decide) rfl (by simp) (by simp) rfl (by simp) ?_
  simp -dsimp
  refine hK _ _ ?_; clear hK K
  refine gwp_seq_k fun K1 hK1 => ?_
  refine gwp_block ?_
  refine gwp_prune [2, 5, 6] (Or.inr (by simp)) ?_
  simp only [prune, List.map_cons, List.map_nil, Go.AM.look, Nat.reduceEqDiff, reduceIte]
  refine gwp_loop_l [2, 5] (α := List Bool × List Int × Nat × List Int) (fun s => [(6, .row 3 s.2.2.1 s.2.2.2.length)]) (fun s => [some (.els 2 [p.cells]), none, brow s.1, mrow s.2.1]) (fun s => RInv p f s.1 s.2.2.2 ∧ (s.2.1.drop s.2.2.1).take s.2.2.2.length = s.2.2.2 ∧ s.2.2.1 + s.2.2.2.length ≤ s.2.1.length) (fun s => s.2.2.2.length + 4 * unm s.1) (List.replicate (2 * p.Rails.length) false, nxI p f, 0, nxI p f) ?_ ?_ ?_
  · exact ⟨rinv_init hv hb0.1 hb0.2, by simp, by simp⟩
  · exact gsub (sub_rb [some 0, none, some 2, some 3] rfl (by simp) (by simp)) (by simp)
  rintro ⟨out, L, o, q⟩ ⟨i1, i2, i3⟩
  simp only at i1 i2 i3 ⊢
  simp only [List.cons_append, List.nil_append, prune, List.map_cons, List.map_nil, Go.AM.look, Nat.reduceEqDiff, reduceIte]
  refine gwp_seq_k fun K2 hK2 => ?_
  refine gwp_sr rfl (by decide) rfl rfl fun K hK => ?_
  simp -dsimp
  refine hK _ _ ?_; clear hK K
  refine gwp_cond rfl (fun hc0 => ?_) (fun hc0 => ?_)
  · skip
    try simp at hc0
    obtain ⟨x, q', rfl⟩ : ∃ x q', q = x :: q' := by rcases q with _ | ⟨x, q'⟩; simp at hc0; exact ⟨x, q', rfl⟩
    have hxr := i1.qi x (by simp)
    obtain ⟨hx0, hx1⟩ := reach_bd hv hb0.1 hb0.2 hxr
    have hLx : L[o]? = some x := by have := congrArg (fun l => l[0]?) i2; simpa [List.getElem?_take, List.getElem?_drop] using this
    have hi2 : (L.drop (o + 1)).take q'.length = q' := by have := congrArg (List.drop 1) i2; simpa [List.drop_take, List.drop_drop] using this
    have hi3 : o + 1 + q'.length ≤ L.length := by simp only [List.length_cons] at i3; omega
    have hi3b : o + (q'.length + 1) ≤ L.length := by omega
    have hsz := i1.sz
    have hnum := c_rNumber (moveM x) (by simp only [moveM]; omega) (by simp only [moveM]; omega)
    rw [numM_moveM hx0] at hnum
    have hxt : x.toNat < 2 * p.Rails.length := by omega
    have hgx : out[x.toNat]? = some (gd out x.toNat) := getD_at (by rw [i1.len]; exact hxt)
    have hnx := m_rNextK p x hv hx0 hx1
    have hnl := nextL_len p _ hv (mov_of hx0 hx1)
    rw [← nxI_len] at hnl
    have f2 : Fits (q'.length + (nxI p x).length) 17 := fits_of (by simp only [List.length_cons] at hsz; omega) (by omega)
    have hq' : (List.drop (o + 1) ((mvL L).map Move.cells)).take q'.length = (mvL q').map Move.cells := by unfold mvL; rw [← List.map_drop, ← List.map_drop, ← List.map_take, ← List.map_take, hi2]
    have hnt : List.take (nxI p x).length ((mvL (nxI p x)).map Move.cells) = (mvL (nxI p x)).map Move.cells := List.take_of_length_le (by simp)
    have happ := mvL_app q' (nxI p x)
    refine gwp_skip ?_
    simp only [thenA, inBlockA, reduceIte, Nat.reduceEqDiff, eq_self]
    refine hK2 _ _ ?_
    refine gwp_prune [2, 5, 6] (Or.inr (by simp)) ?_
    simp only [prune, List.map_cons, List.map_nil, Go.AM.look, Nat.reduceEqDiff, reduceIte]
    refine gwp_block ?_
    refine gwp_sr rfl (by decide) rfl rfl fun K hK => ?_
    simp -dsimp [hLx]
    refine hK _ _ ?_; clear hK K
    refine gwp_sr rfl (by decide) rfl rfl fun K hK => ?_
    simp -dsimp [hi3b]
    refine hK _ _ ?_; clear hK K
    refine gwp_seq_k fun K3 hK3 => ?_
    refine gwp_sr rfl (by decide) rfl rfl fun K hK => ?_
    simp -dsimp [hgx, hx0, hxt]
    refine callK_intro _ (hnum) (by simp) ?_
    simp -dsimp [hgx, hx0, hxt]
    refine hK _ _ ?_; clear hK K
    refine gwp_cond rfl (fun hc1 => ?_) (fun hc1 => ?_)
    · skip
      skip
      have hg : gd out x.toNat = true := by simpa using hc1
      refine gwp_exit ?_
      simp only [thenA, inBlockA, reduceIte, Nat.reduceEqDiff, eq_self]
      exact ⟨(out, L, o + 1, q'), ⟨rinv_skip i1 hg, hi2, hi3⟩, by simp, gsub (sub_rb [some 0, none, some 2, some 3] rfl (by simp) (by simp)) (by simp)⟩
    · skip
      skip
      have hg : gd out x.toNat = false := by simpa using hc1
      have hmk := rinv_mark hv hb0.1 hb0.2 i1 hg
      refine gwp_skip ?_
      simp only [thenA, inBlockA, reduceIte, Nat.reduceEqDiff, eq_self]
      refine hK3 _ _ ?_
      refine gwp_prune [2, 5, 6, 7] (Or.inr (by simp)) ?_
      simp only [prune, List.map_cons, List.map_nil, Go.AM.look, Nat.reduceEqDiff, reduceIte]
      refine gwp_sr rfl (by decide) rfl rfl fun K hK => ?_
      simp -dsimp [hgx, hx0, hxt]
      refine callK_intro _ (hnum) (by simp) ?_
      simp -dsimp [hgx, hx0, hxt]
      refine hK _ _ ?_; clear hK K
      refine gwp_r rfl (by decide) rfl rfl fun K hK => ?_
      simp -dsimp [f2, hq', hi3, hnt]
      refine callK_mut [] [] [none, none, none, none, none, some 0] (hnx) (by decide) rfl (by simp) (by simp) rfl (by simp) ?_
      simp -dsimp [f2, hq', hi3, hnt]
      refine hK _ _ ?_; clear hK K
      simp only [thenA, inBlockA, reduceIte, Nat.reduceEqDiff, eq_self]
      exact ⟨(out.set x.toNat true, q' ++ nxI p x, 0, q' ++ nxI p x), ⟨hmk.1, by simp only [List.drop_zero, List.take_length], by simp⟩, by have := hmk.2; simp only [List.length_cons] at this ⊢; omega, gsub (sub_rb [some 0, none, some 2, some 6] rfl (by simp) (by simp [happ])) (by simp)⟩
  · skip
    try simp at hc0
    have hq : q = [] := by simpa using hc0
    subst hq
    have hend := rinv_end hv hb0.1 hb0.2 i1
    subst hend
    refine gwp_exit ?_
    simp only [thenA, inBlockA, reduceIte, Nat.reduceEqDiff, eq_self]
    refine hK1 _ _ ?_
    refine gwp_prune [5] (Or.inr (by simp)) ?_
    simp only [prune, List.map_cons, List.map_nil, Go.AM.look, Nat.reduceEqDiff, reduceIte]
    refine gwp_sr rfl (by decide) rfl rfl fun K hK => ?_
    simp -dsimp
    refine hK _ _ ?_; clear hK K
    have g1 : List.take (2 * p.Rails.length) ((reachL p f).map bCell) = (reachL p f).map bCell := List.take_of_length_le (by simp [reachL_len])
    exact gwp_ret (by simp [g1, reachL_len])

theorem c_rReachedK (p : Plan) (k : Int) (hv : validB p = true) (h0 : 0 ≤ k) (h1 : k < 2 * p.Rails.length) : PureCall Tryz.prog 83 [p.av, (moveM k).av] (.lst 1 ((reachL p k).map bCell)) := by
  have := c_rReached p (moveM k) hv (mov_of h0 h1)
  rwa [numM_moveM h0] at this

theorem c_rTurns (p : Plan) (r : Int) (hv : validB p = true) (h : inr r 0 (p.Rails.length - 1) = true) : PureCall Tryz.prog 43 [p.av, I r] (Bo (turnB p r)) := by
  have hR := (valid_parts hv).2.1
  have hr := inr_iff.1 h
  have hA := c_rReached p ⟨r, false⟩ hv h
  have hB := c_rReached p ⟨r, true⟩ hv h
  rw [show numM ⟨r, false⟩ = 2 * r by simp [numM]] at hA
  rw [show numM ⟨r, true⟩ = 2 * r + 1 by simp [numM]] at hB
  have hoA := c_rOpp ⟨r, false⟩
  rw [show oppM ⟨r, false⟩ = ⟨r, true⟩ from rfl] at hoA
  have hnA := c_rNumber ⟨r, true⟩ (by show _ ≤ r; omega) (by show r ≤ _; omega)
  have hnB := c_rNumber ⟨r, false⟩ (by show _ ≤ r; omega) (by show r ≤ _; omega)
  rw [show numM ⟨r, true⟩ = 2 * r + 1 by simp [numM]] at hnA
  rw [show numM ⟨r, false⟩ = 2 * r by simp [numM]] at hnB
  have gA := reachL_at (p := p) (f := 2 * r) (k := 2 * r + 1) (by omega) (by omega)
  have gB := reachL_at (p := p) (f := 2 * r + 1) (k := 2 * r) (by omega) (by omega)
  have n1 : 0 ≤ 2 * r := by omega
  have n2 : 0 ≤ 2 * r + 1 := by omega
  refine PureCall.of_body Tryz.func43 rfl (by decide) (by simp [Tryz.ntmps43]) ?_
  simp only [Tryz.ntmps43, Tryz.results43]
  refine awp_sr rfl fun K hK => ?_
  simp -dsimp
  refine hK _ _ ?_; clear hK K
  refine awp_sr rfl fun K hK => ?_
  simp -dsimp
  refine hK _ _ ?_; clear hK K
  refine awp_sd mixed rfl fun K hK => ?_
  simp -dsimp [gA, n1, n2]
  refine callK_intro _ (hA) (by simp) ?_
  simp -dsimp [gA, n1, n2]
  refine callK_intro _ (hoA) (by simp) ?_
  simp -dsimp [gA, n1, n2]
  refine callK_intro _ (hnA) (by simp) ?_
  simp -dsimp [gA, n1, n2]
  refine callK_may _ (fun hm => hoA) (by simp) ?_
  simp -dsimp [gA, n1, n2]
  refine callK_may _ (fun hm => hB) (by simp) ?_
  simp -dsimp [gA, n1, n2]
  refine callK_may _ (fun hm => hnB) (by simp) ?_
  simp -dsimp [gA, n1, n2]
  refine idxK_intro [Bo (rB p (2 * r + 1) (2 * r))] (fun hm => by rw [List.getElem?_map, gB]; rfl) ?_
  simp -dsimp [gA, n1, n2]
  refine hK _ _ _ (by decide +kernel) ?_; clear hK K
  exact awp_ret (by simp [turnB])

noncomputable def agR (p : Plan) (n k : Nat) : List Bool := ((List.range k).map fun (i : Nat) => rB p i i) ++ List.replicate (n - k) false
theorem agR_len {p : Plan} {n k : Nat} (h : k ≤ n) : (agR p n k).length = n := by simp [agR]; omega
theorem agR_set {p : Plan} {n k : Nat} (h : k < n) : (agR p n k).set k (rB p k k) = agR p n (k + 1) := by
  obtain ⟨m, hm⟩ : ∃ m, n - k = m + 1 := ⟨n - k - 1, by omega⟩
  unfold agR
  rw [hm, show n - (k + 1) = m by omega, List.range_succ, List.map_append, List.append_assoc, List.set_append_right _ _ (by simp)]
  simp [List.replicate_succ]
theorem agR_get {p : Plan} {n k : Nat} (h : k < n) : (agR p n n)[k]? = some (rB p k k) := by
  unfold agR; simp [h]

theorem c_rEndless (p : Plan) (hv : validB p = true) : PureCall Tryz.prog 42 [p.av] (.lst 1 ((endL p).map bCell)) := by
  have hR := (valid_parts hv).2.1
  have hre := fun k => c_rReachedK p k hv
  have w2 : IntKind.i64.wrap (2 * (p.Rails.length : Int)) = 2 * (p.Rails.length : Int) := wrap_in (by omega) (by omega)
  have wt : (2 * (p.Rails.length : Int)).toNat = 2 * p.Rails.length := by omega
  have f2 : Fits (2 * p.Rails.length) 2 := fits_of (by omega) (by omega)
  have w0 : 0 ≤ 2 * (p.Rails.length : Int) := by omega
  obtain ⟨n, hn⟩ : ∃ n, n = 2 * p.Rails.length := ⟨_, rfl⟩
  have hn' : 2 * (p.Rails.length : Int) = (n : Int) := by omega
  rw [← enR_end]
  rw [← hn] at wt f2 ⊢
  rw [hn'] at w2 wt w0
  refine PureCall.of_body Tryz.func42 rfl (by decide) (by simp [Tryz.ntmps42]) ?_
  simp only [Tryz.ntmps42, Tryz.results42]
  refine awp_sr rfl fun K hK => ?_
  simp -dsimp
  refine hK _ _ ?_; clear hK K
  refine awp_sr rfl fun K hK => ?_
  simp -dsimp [hn', w2]
  refine hK _ _ ?_; clear hK K
  refine awp_sr rfl fun K hK => ?_
  simp -dsimp [w2, wt, f2, w0]
  refine hK _ _ ?_; clear hK K
  refine awp_seq_k fun K1 hK1 => ?_
  refine awp_sr rfl fun K hK => ?_
  simp -dsimp
  refine hK _ _ ?_; clear hK K
  refine awp_block ?_
  refine awp_prune [1, 3, 4, 5] ?_
  simp only [prune, List.map_cons, List.map_nil, Go.AM.look, Nat.reduceEqDiff, reduceIte]
  refine awp_loop_l [1, 3, 4] (α := Nat) (fun k => [(5, I k)]) (fun k => [some (.els 2 [p.cells]), brow (agR p n k)]) (fun k => k ≤ n) (fun k => n - k) 0 ?_ ?_ ?_
  · simp
  · exact sub_rb [some 0, some 1] rfl (by simp) (by simp [agR])
  rintro k k1
  simp only [List.cons_append, List.nil_append, prune, List.map_cons, List.map_nil, Go.AM.look, Nat.reduceEqDiff, reduceIte]
  refine awp_seq_k fun K2 hK2 => ?_
  refine awp_sr rfl fun K hK => ?_
  simp -dsimp
  refine hK _ _ ?_; clear hK K
  refine awp_cond rfl (fun hc0 => ?_) (fun hc0 => ?_)
  · skip
    try simp at hc0
    have hk : k < n := by simpa using hc0
    have wk : IntKind.i64.wrap ((k : Int) + 1) = (k : Int) + 1 := wrap_in (by omega) (by omega)
    have hal := agR_len (p := p) (n := n) (k := k) (by omega)
    have hcur : (agR p n k)[k]? = some false := by unfold agR; rw [List.getElem?_append_right (by simp)]; simp [List.getElem?_replicate]; omega
    have hset : ((agR p n k).map bCell).set k [Bo (rB p k k)] = (agR p n (k + 1)).map bCell := by rw [← agR_set hk, List.map_set]
    have hrk := reachL_get (p := p) (f := k) (k := k) (by omega)
    refine awp_skip ?_
    simp only [thenA, inBlockA, reduceIte, Nat.reduceEqDiff, eq_self]
    refine hK2 _ _ ?_
    refine awp_prune [1, 3, 4, 5] ?_
    simp only [prune, List.map_cons, List.map_nil, Go.AM.look, Nat.reduceEqDiff, reduceIte]
    refine awp_seq_k fun K3 hK3 => ?_
    refine awp_block ?_
    refine awp_draw mixed rfl fun K hK => ?_
    simp -dsimp [hk, hcur, hrk]
    refine callK_intro _ (c_rOf k (by omega) (by omega)) (by simp) ?_
    simp -dsimp [hk, hcur, hrk]
    refine callK_intro _ (hre k (by omega) (by omega)) (by simp) ?_
    simp -dsimp [hk, hcur, hrk]
    refine hK _ _ _ (by decide +kernel) ?_; clear hK K
    simp only [thenA, inBlockA, reduceIte, Nat.reduceEqDiff, eq_self]
    refine hK3 _ _ ?_
    refine awp_prune [1, 3, 4, 5] ?_
    simp only [prune, List.map_cons, List.map_nil, Go.AM.look, Nat.reduceEqDiff, reduceIte]
    refine awp_r rfl fun K hK => ?_
    simp -dsimp [wk]
    refine hK _ _ ?_; clear hK K
    simp only [thenA, inBlockA, reduceIte, Nat.reduceEqDiff, eq_self]
    exact ⟨k + 1, by omega, by omega, sub_rb [some 0, some 1] rfl (by simp) (by simp [hset])⟩
  · skip
    try simp at hc0
    have hke : k = n := by omega
    subst hke
    refine awp_exit ?_
    simp only [thenA, inBlockA, reduceIte, Nat.reduceEqDiff, eq_self]
    refine hK1 _ _ ?_
    refine awp_prune [1, 3, 4] ?_
    simp only [prune, List.map_cons, List.map_nil, Go.AM.look, Nat.reduceEqDiff, reduceIte]
    refine awp_sr rfl fun K hK => ?_
    simp -dsimp [w2, wt, f2, w0]
    refine hK _ _ ?_; clear hK K
    refine awp_seq_k fun K4 hK4 => ?_
    refine awp_sr rfl fun K hK => ?_
    simp -dsimp
    refine hK _ _ ?_; clear hK K
    refine awp_block ?_
    refine awp_prune [1, 3, 4, 6, 7] ?_
    simp only [prune, List.map_cons, List.map_nil, Go.AM.look, Nat.reduceEqDiff, reduceIte]
    refine awp_loop_l [1, 3, 4, 6] (α := Nat) (fun i => [(7, I i)]) (fun i => [some (.els 2 [p.cells]), brow (agR p k k), brow (enR p k i)]) (fun i => i ≤ k) (fun i => k - i) 0 ?_ ?_ ?_
    · simp
    · exact sub_rb [some 0, some 1, some 2] rfl (by simp) (by simp [enR])
    rintro i j1
    simp only [List.cons_append, List.nil_append, prune, List.map_cons, List.map_nil, Go.AM.look, Nat.reduceEqDiff, reduceIte]
    refine awp_seq_k fun K5 hK5 => ?_
    refine awp_sr rfl fun K hK => ?_
    simp -dsimp
    refine hK _ _ ?_; clear hK K
    refine awp_cond rfl (fun hc1 => ?_) (fun hc1 => ?_)
    · skip
      try simp at hc1
      have hi : i < k := by simpa using hc1
      have wi : IntKind.i64.wrap ((i : Int) + 1) = (i : Int) + 1 := wrap_in (by omega) (by omega)
      have hgi := agR_get (p := p) hi
      have hel := enR_len (p := p) (n := k) (k := i) (by omega)
      have her : (enR p k i)[i]? = some false := by unfold enR; rw [List.getElem?_append_right (by simp)]; simp [List.getElem?_replicate]; omega
      have hrl := reachL_len p i
      have hs0 : ((enR p k i).map bCell).set i [Bo (rB p i i)] = (enS p k i 0).map bCell := by rw [← List.map_set (f := bCell)]; unfold enS endTo; simp
      refine awp_skip ?_
      simp only [thenA, inBlockA, reduceIte, Nat.reduceEqDiff, eq_self]
      refine hK5 _ _ ?_
      refine awp_prune [1, 3, 4, 6, 7] ?_
      simp only [prune, List.map_cons, List.map_nil, Go.AM.look, Nat.reduceEqDiff, reduceIte]
      refine awp_seq_k fun K6 hK6 => ?_
      refine awp_block ?_
      refine awp_sr rfl fun K hK => ?_
      simp -dsimp [hi, hgi, her]
      refine hK _ _ ?_; clear hK K
      refine awp_sd mixed rfl fun K hK => ?_
      simp -dsimp
      refine callK_intro _ (c_rOf i (by omega) (by omega)) (by simp) ?_
      simp -dsimp
      refine callK_intro _ (hre i (by omega) (by omega)) (by simp) ?_
      simp -dsimp
      refine hK _ _ _ (by decide +kernel) ?_; clear hK K
      refine awp_sr rfl fun K hK => ?_
      simp -dsimp
      refine hK _ _ ?_; clear hK K
      refine awp_block ?_
      refine awp_prune [1, 3, 4, 6, 7, 8, 9] ?_
      simp only [prune, List.map_cons, List.map_nil, Go.AM.look, Nat.reduceEqDiff, reduceIte]
      refine awp_loop_l [1, 3, 4, 6, 7, 8] (α := Nat) (fun j => [(9, I j)]) (fun j => [some (.els 2 [p.cells]), brow (agR p k k), brow (enS p k i j)]) (fun j => j ≤ k) (fun j => k - j) 0 ?_ ?_ ?_
      · simp
      · exact sub_rb [some 0, some 1, some 2] rfl (by simp) (by simp [hs0])
      rintro j j2
      simp only [List.cons_append, List.nil_append, prune, List.map_cons, List.map_nil, Go.AM.look, Nat.reduceEqDiff, reduceIte]
      refine awp_seq_k fun K7 hK7 => ?_
      refine awp_sr rfl fun K hK => ?_
      simp -dsimp
      refine hK _ _ ?_; clear hK K
      refine awp_cond rfl (fun hc2 => ?_) (fun hc2 => ?_)
      · skip
        try simp at hc2
        have hj : j < k := by simpa using hc2
        have wj : IntKind.i64.wrap ((j : Int) + 1) = (j : Int) + 1 := wrap_in (by omega) (by omega)
        have hgj := agR_get (p := p) hj
        have hrj := reachL_get (p := p) (f := i) (k := j) (by omega)
        have hsc := enS_cur (p := p) (j := j) hi
        have hss := enS_set (p := p) (n := k) (k := i) (j := j)
        rw [endTo_succ] at hss
        have hsm : ((enS p k i j).map bCell).set i [Bo (endTo p i j || (rB p i j && rB p j j))] = (enS p k i (j + 1)).map bCell := by rw [← hss, List.map_set]
        refine awp_skip ?_
        simp only [thenA, inBlockA, reduceIte, Nat.reduceEqDiff, eq_self]
        refine hK7 _ _ ?_
        refine awp_prune [1, 3, 4, 6, 7, 8, 9] ?_
        simp only [prune, List.map_cons, List.map_nil, Go.AM.look, Nat.reduceEqDiff, reduceIte]
        refine awp_seq_k fun K8 hK8 => ?_
        refine awp_block ?_
        refine awp_r rfl fun K hK => ?_
        simp -dsimp [hi, hj, hsc, hgj]
        refine idxK_intro [Bo (rB p i j)] (fun hm => by rw [List.getElem?_map, hrj]; rfl) ?_
        simp -dsimp [hi, hj, hsc, hgj]
        refine hK _ _ ?_; clear hK K
        simp only [thenA, inBlockA, reduceIte, Nat.reduceEqDiff, eq_self]
        refine hK8 _ _ ?_
        refine awp_prune [1, 3, 4, 6, 7, 8, 9] ?_
        simp only [prune, List.map_cons, List.map_nil, Go.AM.look, Nat.reduceEqDiff, reduceIte]
        refine awp_r rfl fun K hK => ?_
        simp -dsimp [wj]
        refine hK _ _ ?_; clear hK K
        simp only [thenA, inBlockA, reduceIte, Nat.reduceEqDiff, eq_self]
        exact ⟨j + 1, by omega, by omega, sub_rb [some 0, some 1, some 2] rfl (by simp) (by simp [hsm])⟩
      · skip
        try simp at hc2
        have hje : j = k := by omega
        subst hje
        refine awp_exit ?_
        simp only [thenA, inBlockA, reduceIte, Nat.reduceEqDiff, eq_self]
        refine hK6 _ _ ?_
        refine awp_prune [1, 3, 4, 6, 7] ?_
        simp only [prune, List.map_cons, List.map_nil, Go.AM.look, Nat.reduceEqDiff, reduceIte]
        refine awp_r rfl fun K hK => ?_
        simp -dsimp [wi]
        refine hK _ _ ?_; clear hK K
        simp only [thenA, inBlockA, reduceIte, Nat.reduceEqDiff, eq_self]
        exact ⟨i + 1, by omega, by omega, sub_rb [some 0, some 1, some 2] rfl (by simp) (by simp [enS_end hi])⟩
    · skip
      try simp at hc1
      have hie : i = k := by omega
      subst hie
      refine awp_exit ?_
      simp only [thenA, inBlockA, reduceIte, Nat.reduceEqDiff, eq_self]
      refine hK4 _ _ ?_
      refine awp_prune [6] ?_
      simp only [prune, List.map_cons, List.map_nil, Go.AM.look, Nat.reduceEqDiff, reduceIte]
      refine awp_sr rfl fun K hK => ?_
      simp -dsimp
      refine hK _ _ ?_; clear hK K
      have hel := enR_len (p := p) (n := i) (k := i) (by omega)
      have g1 : List.take i ((enR p i i).map bCell) = (enR p i i).map bCell := List.take_of_length_le (by simp [hel])
      exact awp_ret (by simp [hel, g1])
end Go.Tram
