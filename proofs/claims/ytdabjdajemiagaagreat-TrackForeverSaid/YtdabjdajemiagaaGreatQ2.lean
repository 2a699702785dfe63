/- Walks: what turns, and what is endless, in the program. -/
import Derived.Test.YtdabjdajemiagaaGreatQ1
namespace Go.Tram
open Go.AM Go.Proofs
set_option maxRecDepth 10000
set_option maxHeartbeats 4000000
set_option linter.unusedVariables false
set_option linter.unusedSimpArgs false

noncomputable def turnB (p : Plan) (r : Int) : Bool := rB p (2 * r) (2 * r + 1) || rB p (2 * r + 1) (2 * r)
theorem reachL_at {p : Plan} {f k : Int} (h0 : 0 ≤ k) (h1 : k < 2 * p.Rails.length) : (reachL p f)[k.toNat]? = some (rB p f k) := by
  have := reachL_get (p := p) (f := f) (k := k.toNat) (by omega)
  rwa [show ((k.toNat : Nat) : Int) = k by omega] at this

theorem c_tTurns_v (p : Plan) (r : Int) (h : validB p = false) : PureCall Tryz.prog 38 [p.av, I r] (.tup [Bo false, I 2]) := by
  refine PureCall.of_body Tryz.func38 rfl (by decide) (by simp [Tryz.ntmps38]) ?_
  simp only [Tryz.ntmps38, Tryz.results38]
  refine awp_sr rfl fun K hK => ?_
  simp -dsimp
  refine hK _ _ ?_; clear hK K
  refine awp_sr rfl fun K hK => ?_
  simp -dsimp
  refine callK_intro _ (c_open_f p h) (by simp) ?_
  simp -dsimp
  refine hK _ _ ?_; clear hK K
  refine awp_seq_k fun K1 hK1 => ?_
  refine awp_sr rfl fun K hK => ?_
  simp -dsimp
  refine callK_may (Bo true) (fun hm => by simp at hm) (by simp) ?_
  simp -dsimp
  refine hK _ _ ?_; clear hK K
  refine awp_cond rfl (fun hc0 => ?_) (fun hc0 => ?_)
  · skip
    skip
    refine awp_sr rfl fun K hK => ?_
    simp -dsimp
    refine hK _ _ ?_; clear hK K
    exact awp_ret (by simp)
  · skip
    skip
    simp at hc0
theorem c_tTurns_m (p : Plan) (r : Int) (hv : validB p = true) (h : inr r 0 (p.Rails.length - 1) = false) : PureCall Tryz.prog 38 [p.av, I r] (.tup [Bo false, I 2]) := by
  have hop := c_open_t p hv
  have hh := c_nhas p r false hv
  rw [h] at hh
  generalize net p = sh at hop hh
  refine PureCall.of_body Tryz.func38 rfl (by decide) (by simp [Tryz.ntmps38]) ?_
  simp only [Tryz.ntmps38, Tryz.results38]
  refine awp_sr rfl fun K hK => ?_
  simp -dsimp
  refine hK _ _ ?_; clear hK K
  refine awp_sr rfl fun K hK => ?_
  simp -dsimp
  refine callK_intro _ (hop) (by simp) ?_
  simp -dsimp
  refine hK _ _ ?_; clear hK K
  refine awp_seq_k fun K1 hK1 => ?_
  refine awp_sr rfl fun K hK => ?_
  simp -dsimp
  refine callK_may _ (fun hm => hh) (by simp) ?_
  simp -dsimp
  refine hK _ _ ?_; clear hK K
  refine awp_cond rfl (fun hc0 => ?_) (fun hc0 => ?_)
  · skip
    skip
    refine awp_sr rfl fun K hK => ?_
    simp -dsimp
    refine hK _ _ ?_; clear hK K
    exact awp_ret (by simp)
  · skip
    skip
    simp at hc0
theorem c_tTurns_t (p : Plan) (r : Int) (hv : validB p = true) (h : inr r 0 (p.Rails.length - 1) = true) : PureCall Tryz.prog 38 [p.av, I r] (.tup [Bo (turnB p r), I 0]) := by
  have hR := (valid_parts hv).2.1
  have hr := inr_iff.1 h
  have hop := c_open_t p hv
  have hh := c_nhas p r false hv
  rw [h] at hh
  have hA := c_reached p (2 * r) hv (by omega) (by omega)
  have hB := c_reached p (2 * r + 1) hv (by omega) (by omega)
  have gA := reachL_at (p := p) (f := 2 * r) (k := 2 * r + 1) (by omega) (by omega)
  have gB := reachL_at (p := p) (f := 2 * r + 1) (k := 2 * r) (by omega) (by omega)
  have w1 : IntKind.i64.wrap (2 * r) = 2 * r := wrap_in (by omega) (by omega)
  have w2 : IntKind.i64.wrap (2 * r + 1) = 2 * r + 1 := wrap_in (by omega) (by omega)
  have n1 : 0 ≤ 2 * r := by omega
  have n2 : 0 ≤ 2 * r + 1 := by omega
  generalize net p = sh at hop hh hA hB
  refine PureCall.of_body Tryz.func38 rfl (by decide) (by simp [Tryz.ntmps38]) ?_
  simp only [Tryz.ntmps38, Tryz.results38]
  refine awp_sr rfl fun K hK => ?_
  simp -dsimp
  refine hK _ _ ?_; clear hK K
  refine awp_sr rfl fun K hK => ?_
  simp -dsimp
  refine callK_intro _ (hop) (by simp) ?_
  simp -dsimp
  refine hK _ _ ?_; clear hK K
  refine awp_seq_k fun K1 hK1 => ?_
  refine awp_sr rfl fun K hK => ?_
  simp -dsimp
  refine callK_may _ (fun hm => hh) (by simp) ?_
  simp -dsimp
  refine hK _ _ ?_; clear hK K
  refine awp_cond rfl (fun hc0 => ?_) (fun hc0 => ?_)
  · skip
    skip
    simp at hc0
  · skip
    skip
    refine awp_skip ?_
    simp only [thenA, inBlockA, reduceIte, Nat.reduceEqDiff, eq_self]
    refine hK1 _ _ ?_
    refine awp_prune [1, 6] ?_
    simp only [prune, List.map_cons, List.map_nil, Go.AM.look, Nat.reduceEqDiff, reduceIte]
    refine awp_sr rfl fun K hK => ?_
    simp -dsimp [w1, w2, n2, gA]
    refine callK_intro _ (hA) (by simp) ?_
    simp -dsimp [w1, w2, n2, gA]
    refine hK _ _ ?_; clear hK K
    refine awp_sr rfl fun K hK => ?_
    simp -dsimp [w1, w2, n1]
    refine callK_may _ (fun hm => hB) (by simp) ?_
    simp -dsimp [w1, w2, n1]
    refine idxK_intro [Bo (rB p (2 * r + 1) (2 * r))] (fun hm => by rw [List.getElem?_map, gB]; rfl) ?_
    simp -dsimp [w1, w2, n1]
    refine hK _ _ ?_; clear hK K
    exact awp_ret (by simp [turnB])

theorem c_tEndless_v (p : Plan) (h : validB p = false) : PureCall Tryz.prog 41 [p.av] (.tup [nilS, I 2]) := by
  refine PureCall.of_body Tryz.func41 rfl (by decide) (by simp [Tryz.ntmps41]) ?_
  simp only [Tryz.ntmps41, Tryz.results41]
  refine awp_sr rfl fun K hK => ?_
  simp -dsimp
  refine hK _ _ ?_; clear hK K
  refine awp_sr rfl fun K hK => ?_
  simp -dsimp
  refine callK_intro _ (c_open_f p h) (by simp) ?_
  simp -dsimp
  refine hK _ _ ?_; clear hK K
  refine awp_seq_k fun K1 hK1 => ?_
  refine awp_sr rfl fun K hK => ?_
  simp -dsimp
  refine hK _ _ ?_; clear hK K
  refine awp_cond rfl (fun hc0 => ?_) (fun hc0 => ?_)
  · skip
    skip
    refine awp_sr rfl fun K hK => ?_
    simp -dsimp
    refine hK _ _ ?_; clear hK K
    exact awp_ret (by simp)
  · skip
    skip
    simp at hc0

/-- For each move what can be reached from it. -/
noncomputable def reA (p : Plan) (n k : Nat) : List (List AV) := ((List.range k).map fun (i : Nat) => [.lst 1 ((reachL p i).map bCell)]) ++ List.replicate (n - k) [nilS]
@[simp high] theorem reA_ren (p : Plan) (n k : Nat) (g : List (Option Nat)) (m : Nat) : (reA p n k).map (fun e => e.map (renAV g m)) = reA p n k := by cases m <;> simp [reA]
theorem reA_len {p : Plan} {n k : Nat} (h : k ≤ n) : (reA p n k).length = n := by simp [reA]; omega
theorem reA_set {p : Plan} {n k : Nat} (h : k < n) : (reA p n k).set k [.lst 1 ((reachL p k).map bCell)] = reA p n (k + 1) := by
  obtain ⟨m, hm⟩ : ∃ m, n - k = m + 1 := ⟨n - k - 1, by omega⟩
  unfold reA
  rw [hm, show n - (k + 1) = m by omega, List.range_succ, List.map_append, List.append_assoc, List.set_append_right _ _ (by simp)]
  simp [List.replicate_succ]
theorem reA_cur {p : Plan} {n k : Nat} (h : k < n) : (reA p n k)[k]? = some [nilS] := by
  unfold reA
  rw [List.getElem?_append_right (by simp)]
  simp [List.getElem?_replicate]; omega
theorem reA_get {p : Plan} {n k : Nat} (h : k < n) : (reA p n n)[k]? = some [.lst 1 ((reachL p k).map bCell)] := by
  unfold reA
  simp [h]

noncomputable def enR (p : Plan) (n k : Nat) : List Bool := ((List.range k).map fun (i : Nat) => endTo p i n) ++ List.replicate (n - k) false
noncomputable def enS (p : Plan) (n k j : Nat) : List Bool := (enR p n k).set k (endTo p k j)
theorem enR_len {p : Plan} {n k : Nat} (h : k ≤ n) : (enR p n k).length = n := by simp [enR]; omega
theorem enS_len {p : Plan} {n k j : Nat} (h : k ≤ n) : (enS p n k j).length = n := by simp [enS, enR_len h]
theorem enS_end {p : Plan} {n k : Nat} (h : k < n) : enS p n k n = enR p n (k + 1) := by
  obtain ⟨m, hm⟩ : ∃ m, n - k = m + 1 := ⟨n - k - 1, by omega⟩
  unfold enS enR
  rw [hm, show n - (k + 1) = m by omega, List.range_succ, List.map_append, List.append_assoc, List.set_append_right _ _ (by simp)]
  simp [List.replicate_succ]
theorem enS_cur {p : Plan} {n k j : Nat} (h : k < n) : (enS p n k j)[k]? = some (endTo p k j) := by
  have := enR_len (p := p) (n := n) (k := k) (by omega)
  unfold enS
  rw [List.getElem?_set_self (by omega)]
theorem enS_set {p : Plan} {n k j : Nat} : (enS p n k j).set k (endTo p k (j + 1)) = enS p n k (j + 1) := by
  unfold enS; rw [List.set_set]
theorem enR_end {p : Plan} : enR p (2 * p.Rails.length) (2 * p.Rails.length) = endL p := by simp [enR, endL]

theorem c_tEndless_t (p : Plan) (hv : validB p = true) : PureCall Tryz.prog 41 [p.av] (.tup [.lst 1 ((endL p).map bCell), I 0]) := by
  have hR := (valid_parts hv).2.1
  have hop := c_open_t p hv
  have hre := fun k => c_reached p k hv
  have w2 : IntKind.i64.wrap (2 * (p.Rails.length : Int)) = 2 * (p.Rails.length : Int) := wrap_in (by omega) (by omega)
  have wt : (2 * (p.Rails.length : Int)).toNat = 2 * p.Rails.length := by omega
  have f1 : Fits (2 * p.Rails.length) 25 := fits_of (by omega) (by omega)
  have f2 : Fits (2 * p.Rails.length) 2 := fits_of (by omega) (by omega)
  have w0 : 0 ≤ 2 * (p.Rails.length : Int) := by omega
  generalize net p = sh at hop hre
  obtain ⟨n, hn⟩ : ∃ n, n = 2 * p.Rails.length := ⟨_, rfl⟩
  have hn' : 2 * (p.Rails.length : Int) = (n : Int) := by omega
  rw [← enR_end]
  rw [← hn] at wt f1 f2 ⊢
  rw [hn'] at w2 wt w0
  refine PureCall.of_body Tryz.func41 rfl (by decide) (by simp [Tryz.ntmps41]) ?_
  simp only [Tryz.ntmps41, Tryz.results41]
  refine awp_sr rfl fun K hK => ?_
  simp -dsimp
  refine hK _ _ ?_; clear hK K
  refine awp_sr rfl fun K hK => ?_
  simp -dsimp
  refine callK_intro _ (hop) (by simp) ?_
  simp -dsimp
  refine hK _ _ ?_; clear hK K
  refine awp_seq_k fun K1 hK1 => ?_
  refine awp_sr rfl fun K hK => ?_
  simp -dsimp
  refine hK _ _ ?_; clear hK K
  refine awp_cond rfl (fun hc0 => ?_) (fun hc0 => ?_)
  · skip
    skip
    simp at hc0
  · skip
    skip
    refine awp_skip ?_
    simp only [thenA, inBlockA, reduceIte, Nat.reduceEqDiff, eq_self]
    refine hK1 _ _ ?_
    refine awp_prune [1, 4] ?_
    simp only [prune, List.map_cons, List.map_nil, Go.AM.look, Nat.reduceEqDiff, reduceIte]
    refine awp_sr rfl fun K hK => ?_
    simp -dsimp [hn', w2, wt, f1, w0]
    refine hK _ _ ?_; clear hK K
    refine awp_seq_k fun K2 hK2 => ?_
    refine awp_sr rfl fun K hK => ?_
    simp -dsimp
    refine hK _ _ ?_; clear hK K
    refine awp_block ?_
    refine awp_prune [4, 6, 25, 26] ?_
    simp only [prune, List.map_cons, List.map_nil, Go.AM.look, Nat.reduceEqDiff, reduceIte]
    refine awp_loop_l [4, 6, 25] (α := Nat) (fun k => [(26, I k)]) (fun k => [some (.els 2 [p.cells]), some (.els 1 (reA p n k))]) (fun k => k ≤ n) (fun k => n - k) 0 ?_ ?_ ?_
    · simp
    · exact sub_rb [some 0, some 1] rfl (by simp) (by simp [reA])
    rintro k k1
    simp only [List.cons_append, List.nil_append, prune, List.map_cons, List.map_nil, Go.AM.look, Nat.reduceEqDiff, reduceIte]
    refine awp_sr rfl fun K hK => ?_
    simp -dsimp
    refine hK _ _ ?_; clear hK K
    refine awp_seq_k fun K3 hK3 => ?_
    refine awp_cond rfl (fun hc1 => ?_) (fun hc1 => ?_)
    · skip
      try simp at hc1
      have hk : k < n := by simpa using hc1
      have wk : IntKind.i64.wrap ((k : Int) + 1) = (k : Int) + 1 := wrap_in (by omega) (by omega)
      have hcur := reA_cur (p := p) hk
      have hset := reA_set (p := p) hk
      refine awp_skip ?_
      simp only [thenA, inBlockA, reduceIte, Nat.reduceEqDiff, eq_self]
      refine hK3 _ _ ?_
      refine awp_prune [4, 6, 25, 26] ?_
      simp only [prune, List.map_cons, List.map_nil, Go.AM.look, Nat.reduceEqDiff, reduceIte]
      refine awp_seq_k fun K4 hK4 => ?_
      refine awp_block ?_
      refine awp_sr rfl fun K hK => ?_
      simp -dsimp
      refine hK _ _ ?_; clear hK K
      refine awp_r rfl fun K hK => ?_
      simp -dsimp [hk, hcur]
      refine callK_intro _ (hre k (by omega) (by omega)) (by simp) ?_
      simp -dsimp [hk, hcur]
      refine hK _ _ ?_; clear hK K
      simp only [thenA, inBlockA, reduceIte, Nat.reduceEqDiff, eq_self]
      refine hK4 _ _ ?_
      refine awp_prune [4, 6, 25, 26] ?_
      simp only [prune, List.map_cons, List.map_nil, Go.AM.look, Nat.reduceEqDiff, reduceIte]
      refine awp_r rfl fun K hK => ?_
      simp -dsimp [wk]
      refine hK _ _ ?_; clear hK K
      simp only [thenA, inBlockA, reduceIte, Nat.reduceEqDiff, eq_self]
      exact ⟨k + 1, by omega, by omega, sub_rb [some 0, some 1] rfl (by simp) (by simp [hset])⟩
    · skip
      try simp at hc1
      have hke : k = n := by omega
      subst hke
      refine awp_exit ?_
      simp only [thenA, inBlockA, reduceIte, Nat.reduceEqDiff, eq_self]
      refine hK2 _ _ ?_
      refine awp_prune [6] ?_
      simp only [prune, List.map_cons, List.map_nil, Go.AM.look, Nat.reduceEqDiff, reduceIte]
      refine awp_sr rfl fun K hK => ?_
      simp -dsimp [w2, wt, f2, w0]
      refine hK _ _ ?_; clear hK K
      refine awp_seq_k fun K5 hK5 => ?_
      refine awp_sr rfl fun K hK => ?_
      simp -dsimp
      refine hK _ _ ?_; clear hK K
      refine awp_block ?_
      refine awp_prune [6, 8, 40, 41] ?_
      simp only [prune, List.map_cons, List.map_nil, Go.AM.look, Nat.reduceEqDiff, reduceIte]
      refine awp_loop_l [6, 8, 40] (α := Nat) (fun i => [(41, I i)]) (fun i => [some (.els 2 [p.cells]), some (.els 1 (reA p k k)), brow (enR p k i)]) (fun i => i ≤ k) (fun i => k - i) 0 ?_ ?_ ?_
      · simp
      · exact sub_rb [some 0, some 1, some 2] rfl (by simp) (by simp [enR])
      rintro i j1
      simp only [List.cons_append, List.nil_append, prune, List.map_cons, List.map_nil, Go.AM.look, Nat.reduceEqDiff, reduceIte]
      refine awp_sr rfl fun K hK => ?_
      simp -dsimp
      refine hK _ _ ?_; clear hK K
      refine awp_seq_k fun K6 hK6 => ?_
      refine awp_cond rfl (fun hc2 => ?_) (fun hc2 => ?_)
      · skip
        try simp at hc2
        have hi : i < k := by simpa using hc2
        have wi : IntKind.i64.wrap ((i : Int) + 1) = (i : Int) + 1 := wrap_in (by omega) (by omega)
        have hgi := reA_get (p := p) hi
        have hel := enR_len (p := p) (n := k) (k := i) (by omega)
        have her : (enR p k i)[i]? = some false := by unfold enR; rw [List.getElem?_append_right (by simp)]; simp [List.getElem?_replicate]; omega
        have hrl := reachL_len p i
        have hri := reachL_get (p := p) (f := i) (k := i) (by omega)
        have hs0 : ((enR p k i).map bCell).set i [Bo (rB p i i)] = (enS p k i 0).map bCell := by rw [← List.map_set (f := bCell)]; unfold enS endTo; simp
        refine awp_skip ?_
        simp only [thenA, inBlockA, reduceIte, Nat.reduceEqDiff, eq_self]
        refine hK6 _ _ ?_
        refine awp_prune [6, 8, 40, 41] ?_
        simp only [prune, List.map_cons, List.map_nil, Go.AM.look, Nat.reduceEqDiff, reduceIte]
        refine awp_seq_k fun K7 hK7 => ?_
        refine awp_block ?_
        refine awp_sr rfl fun K hK => ?_
        simp -dsimp
        refine hK _ _ ?_; clear hK K
        refine awp_sr rfl fun K hK => ?_
        simp -dsimp [hi, hgi, her, hri]
        refine hK _ _ ?_; clear hK K
        refine awp_sr rfl fun K hK => ?_
        simp -dsimp [hi, hgi]
        refine hK _ _ ?_; clear hK K
        refine awp_block ?_
        refine awp_prune [6, 8, 9, 40, 41, 57, 58, 59] ?_
        simp only [prune, List.map_cons, List.map_nil, Go.AM.look, Nat.reduceEqDiff, reduceIte]
        refine awp_loop_l [6, 8, 9, 40, 41, 57, 58] (α := Nat) (fun j => [(59, I j)]) (fun j => [some (.els 2 [p.cells]), some (.els 1 (reA p k k)), brow (enS p k i j)]) (fun j => j ≤ k) (fun j => k - j) 0 ?_ ?_ ?_
        · simp
        · exact sub_rb [some 0, some 1, some 2] rfl (by simp [hrl]) (by simp [hs0])
        rintro j j2
        simp only [List.cons_append, List.nil_append, prune, List.map_cons, List.map_nil, Go.AM.look, Nat.reduceEqDiff, reduceIte]
        refine awp_sr rfl fun K hK => ?_
        simp -dsimp
        refine hK _ _ ?_; clear hK K
        refine awp_seq_k fun K8 hK8 => ?_
        refine awp_cond rfl (fun hc3 => ?_) (fun hc3 => ?_)
        · skip
          try simp at hc3
          have hj : j < k := by simp [hrl] at hc3; omega
          have wj : IntKind.i64.wrap ((j : Int) + 1) = (j : Int) + 1 := wrap_in (by omega) (by omega)
          have hgj := reA_get (p := p) hj
          have hrj := reachL_get (p := p) (f := i) (k := j) (by omega)
          have hjj := reachL_get (p := p) (f := j) (k := j) (by omega)
          have hsc := enS_cur (p := p) (j := j) hi
          have hss := enS_set (p := p) (n := k) (k := i) (j := j)
          rw [endTo_succ] at hss
          have hsm : ((enS p k i j).map bCell).set i [Bo (endTo p i j || (rB p i j && rB p j j))] = (enS p k i (j + 1)).map bCell := by rw [← hss, List.map_set]
          refine awp_skip ?_
          simp only [thenA, inBlockA, reduceIte, Nat.reduceEqDiff, eq_self]
          refine hK8 _ _ ?_
          refine awp_prune [6, 8, 9, 40, 41, 57, 58, 59] ?_
          simp only [prune, List.map_cons, List.map_nil, Go.AM.look, Nat.reduceEqDiff, reduceIte]
          refine awp_seq_k fun K9 hK9 => ?_
          refine awp_block ?_
          refine awp_sr rfl fun K hK => ?_
          simp -dsimp [hrj]
          refine hK _ _ ?_; clear hK K
          refine awp_r rfl fun K hK => ?_
          simp -dsimp [hi, hj, hsc, hgj]
          refine idxK_intro [Bo (rB p j j)] (fun hm => by rw [List.getElem?_map, hjj]; rfl) ?_
          simp -dsimp [hi, hj, hsc, hgj]
          refine hK _ _ ?_; clear hK K
          simp only [thenA, inBlockA, reduceIte, Nat.reduceEqDiff, eq_self]
          refine hK9 _ _ ?_
          refine awp_prune [6, 8, 9, 40, 41, 57, 58, 59] ?_
          simp only [prune, List.map_cons, List.map_nil, Go.AM.look, Nat.reduceEqDiff, reduceIte]
          refine awp_r rfl fun K hK => ?_
          simp -dsimp [wj]
          refine hK _ _ ?_; clear hK K
          simp only [thenA, inBlockA, reduceIte, Nat.reduceEqDiff, eq_self]
          exact ⟨j + 1, by omega, by omega, sub_rb [some 0, some 1, some 2] rfl (by simp) (by simp [hsm])⟩
        · skip
          try simp at hc3
          have hje : j = k := by simp [hrl] at hc3; omega
          subst hje
          refine awp_exit ?_
          simp only [thenA, inBlockA, reduceIte, Nat.reduceEqDiff, eq_self]
          refine hK7 _ _ ?_
          refine awp_prune [6, 8, 40, 41] ?_
          simp only [prune, List.map_cons, List.map_nil, Go.AM.look, Nat.reduceEqDiff, reduceIte]
          refine awp_r rfl fun K hK => ?_
          simp -dsimp [wi]
          refine hK _ _ ?_; clear hK K
          simp only [thenA, inBlockA, reduceIte, Nat.reduceEqDiff, eq_self]
          exact ⟨i + 1, by omega, by omega, sub_rb [some 0, some 1, some 2] rfl (by simp) (by simp [enS_end hi])⟩
      · skip
        try simp at hc2
        have hie : i = k := by omega
        subst hie
        refine awp_exit ?_
        simp only [thenA, inBlockA, reduceIte, Nat.reduceEqDiff, eq_self]
        refine hK5 _ _ ?_
        refine awp_prune [8] ?_
        simp only [prune, List.map_cons, List.map_nil, Go.AM.look, Nat.reduceEqDiff, reduceIte]
        refine awp_sr rfl fun K hK => ?_
        simp -dsimp
        refine hK _ _ ?_; clear hK K
        have hel := enR_len (p := p) (n := i) (k := i) (by omega)
        have g1 : List.take i ((enR p i i).map bCell) = (enR p i i).map bCell := List.take_of_length_le (by simp [hel])
        exact awp_ret (by simp [hel, g1])
end Go.Tram
