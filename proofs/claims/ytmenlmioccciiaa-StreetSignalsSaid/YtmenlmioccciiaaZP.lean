/- Walks: the specification's signal, its lookups and candidates. -/
import Derived.Test.YtmenlmioccciiaaZM
import Derived.Test.YtmenlmioccciiaaZK
namespace Go.Street
open Go.AM Go.Proofs
set_option maxRecDepth 10000
set_option maxHeartbeats 8000000
set_option linter.unusedVariables false
set_option linter.unusedSimpArgs false

/-- The cells of the specification's signal. -/
@[simp] def rC (j : Jn) (se ph on si L S : AV) : List AV := j.cells ++ [se, ph, on, si, L, S]
@[simp] theorem ptr_rsg : ptrB Try.prog 49 = true := by kernel_rfl

section
variable (j : Jn) (se ph on si L S : AV)
theorem c_beyond (q p : Int) (d : List Int) (hf : Fit j) (q0 : 0 ≤ q) (q1 : q < j.Phases.length) (h0 : 0 ≤ p) (h1 : p < j.Phases.length) (hd : d.length ≤ 1000) :
    PureCall Try.prog 89 [.iptr (rC j se ph on si L S), I q, I p, iL d] (Bo (someB j q p d)) := by
  have g := rowAt_get q0 q1
  have gp := rowAt_get h0 h1
  have hl := hf.ps _ (List.mem_of_getElem? g)
  have hl2 := hf.ps _ (List.mem_of_getElem? gp)
  have hfx : ∀ x, (decide (x ∈ d) && !hasB j p x) = (decide (x ∈ d) && !decide (x ∈ rowAt j.Phases p)) := fun x => rfl
  unfold someB
  generalize rowAt j.Phases q = Q at g hl ⊢
  refine PureCall.of_body Try.func89 rfl (by decide) (by simp [Try.ntmps89]) ?_
  simp only [Try.ntmps89, Try.results89]
  refine awp_sr rfl fun K hK => ?_
  simp -dsimp
  refine hK _ _ ?_; clear hK K
  refine awp_seq_k fun K1 hK1 => ?_
  refine awp_sr rfl fun K hK => ?_
  simp -dsimp
  refine hK _ _ ?_; clear hK K
  refine awp_block ?_
  refine awp_prune [0, 1, 2, 3, 9] ?_
  simp only [prune, List.map_cons, List.map_nil, Go.AM.look, Nat.reduceEqDiff, reduceIte]
  refine awp_loop_l [0, 1, 2, 3] (α := Nat) (fun k => [(9, I k)]) (fun _ => []) (fun k => k ≤ Q.length ∧ (Q.take k).any (fun x => decide (x ∈ d) && !hasB j p x) = false) (fun k => Q.length - k) 0 ?_ ?_ ?_
  · exact ⟨Nat.zero_le _, rfl⟩
  · exact sub_same (by simp)
  rintro k ⟨k1, k2⟩
  simp only [List.cons_append, List.nil_append, prune, List.map_cons, List.map_nil, Go.AM.look, Nat.reduceEqDiff, reduceIte]
  refine awp_seq_k fun K2 hK2 => ?_
  refine awp_sr rfl fun K hK => ?_
  simp -dsimp [g, q0]
  refine hK _ _ ?_; clear hK K
  refine awp_cond rfl (fun hc0 => ?_) (fun hc0 => ?_)
  · skip
    try simp at hc0
    obtain ⟨x, hx⟩ : ∃ x, Q[k]? = some x := ⟨_, List.getElem?_eq_getElem hc0⟩
    have wk : IntKind.i64.wrap ((k : Int) + 1) = (k : Int) + 1 := wrap_in (by omega) (by omega)
    refine awp_skip ?_
    simp only [thenA, inBlockA, reduceIte, Nat.reduceEqDiff, eq_self]
    refine hK2 _ _ ?_
    refine awp_prune [0, 1, 2, 3, 9] ?_
    simp only [prune, List.map_cons, List.map_nil, Go.AM.look, Nat.reduceEqDiff, reduceIte]
    refine awp_seq_k fun K3 hK3 => ?_
    refine awp_block ?_
    refine awp_sr rfl fun K hK => ?_
    simp -dsimp [g, q0, hx]
    refine hK _ _ ?_; clear hK K
    refine awp_sr rfl fun K hK => ?_
    simp -dsimp [gp, h0]
    refine callK_intro _ (c_rHas d x (by omega)) (by simp) ?_
    simp -dsimp [gp, h0]
    refine idxK_intro (rCell (rowAt j.Phases p)) (fun _ => by simp [gp]) ?_
    simp -dsimp [gp, h0]
    refine callK_may _ (fun hm => c_rHas (rowAt j.Phases p) x (by omega)) (by simp) ?_
    simp -dsimp [gp, h0]
    refine hK _ _ ?_; clear hK K
    refine awp_cond rfl (fun hc1 => ?_) (fun hc1 => ?_)
    · skip
      have hx1 : (decide (x ∈ d) && !hasB j p x) = (decide (x ∈ d) && !decide (x ∈ rowAt j.Phases p)) := rfl
      have hany : Q.any (fun x => decide (x ∈ d) && !hasB j p x) = true := by rw [List.any_eq_true]; exact ⟨x, List.mem_of_getElem? hx, by rw [hx1]; simpa using hc1⟩
      refine awp_sr rfl fun K hK => ?_
      simp -dsimp
      refine hK _ _ ?_; clear hK K
      exact awp_ret (by simp [hany])
    · skip
      have hx1 : (decide (x ∈ d) && !hasB j p x) = (decide (x ∈ d) && !decide (x ∈ rowAt j.Phases p)) := rfl
      refine awp_skip ?_
      simp only [thenA, inBlockA, reduceIte, Nat.reduceEqDiff, eq_self]
      refine hK3 _ _ ?_
      refine awp_prune [0, 1, 2, 3, 9] ?_
      simp only [prune, List.map_cons, List.map_nil, Go.AM.look, Nat.reduceEqDiff, reduceIte]
      refine awp_r rfl fun K hK => ?_
      simp -dsimp [wk]
      refine hK _ _ ?_; clear hK K
      simp only [thenA, inBlockA, reduceIte, Nat.reduceEqDiff, eq_self]
      exact ⟨k + 1, ⟨by omega, by rw [any_take hx, k2, hx1]; simpa using hc1⟩, by omega, sub_rb [] rfl (by simp) (by simp)⟩
  · skip
    try simp at hc0
    have hany := any_of_take (by omega) k2
    refine awp_exit ?_
    simp only [thenA, inBlockA, reduceIte, Nat.reduceEqDiff, eq_self]
    refine hK1 _ _ ?_
    refine awp_prune [] ?_
    simp only [prune, List.map_cons, List.map_nil, Go.AM.look, Nat.reduceEqDiff, reduceIte]
    refine awp_sr rfl fun K hK => ?_
    simp -dsimp
    refine hK _ _ ?_; clear hK K
    exact awp_ret (by simp [hany])

theorem c_rsome (p : Int) (d : List Int) (hf : Fit j) (h0 : 0 ≤ p) (h1 : p < j.Phases.length) (hd : d.length ≤ 1000) :
    PureCall Try.prog 88 [.iptr (rC j se ph on si L S), I p, iL d] (Bo ((rowAt j.Phases p).any fun x => decide (x ∈ d))) := by
  have g := rowAt_get h0 h1
  have hl := hf.ps _ (List.mem_of_getElem? g)
  generalize rowAt j.Phases p = Q at g hl ⊢
  refine PureCall.of_body Try.func88 rfl (by decide) (by simp [Try.ntmps88]) ?_
  simp only [Try.ntmps88, Try.results88]
  refine awp_sr rfl fun K hK => ?_
  simp -dsimp
  refine hK _ _ ?_; clear hK K
  refine awp_seq_k fun K1 hK1 => ?_
  refine awp_sr rfl fun K hK => ?_
  simp -dsimp
  refine hK _ _ ?_; clear hK K
  refine awp_block ?_
  refine awp_prune [0, 1, 2, 7] ?_
  simp only [prune, List.map_cons, List.map_nil, Go.AM.look, Nat.reduceEqDiff, reduceIte]
  refine awp_loop_l [0, 1, 2] (α := Nat) (fun k => [(7, I k)]) (fun _ => []) (fun k => k ≤ Q.length ∧ (Q.take k).any (fun x => decide (x ∈ d)) = false) (fun k => Q.length - k) 0 ?_ ?_ ?_
  · exact ⟨Nat.zero_le _, rfl⟩
  · exact sub_same (by simp)
  rintro k ⟨k1, k2⟩
  simp only [List.cons_append, List.nil_append, prune, List.map_cons, List.map_nil, Go.AM.look, Nat.reduceEqDiff, reduceIte]
  refine awp_seq_k fun K2 hK2 => ?_
  refine awp_sr rfl fun K hK => ?_
  simp -dsimp [g, h0]
  refine hK _ _ ?_; clear hK K
  refine awp_cond rfl (fun hc0 => ?_) (fun hc0 => ?_)
  · skip
    try simp at hc0
    obtain ⟨x, hx⟩ : ∃ x, Q[k]? = some x := ⟨_, List.getElem?_eq_getElem hc0⟩
    have wk : IntKind.i64.wrap ((k : Int) + 1) = (k : Int) + 1 := wrap_in (by omega) (by omega)
    refine awp_skip ?_
    simp only [thenA, inBlockA, reduceIte, Nat.reduceEqDiff, eq_self]
    refine hK2 _ _ ?_
    refine awp_prune [0, 1, 2, 7] ?_
    simp only [prune, List.map_cons, List.map_nil, Go.AM.look, Nat.reduceEqDiff, reduceIte]
    refine awp_seq_k fun K3 hK3 => ?_
    refine awp_block ?_
    refine awp_sr rfl fun K hK => ?_
    simp -dsimp [g, h0, hx]
    refine callK_intro _ (c_rHas d x (by omega)) (by simp) ?_
    simp -dsimp [g, h0, hx]
    refine hK _ _ ?_; clear hK K
    refine awp_cond rfl (fun hc1 => ?_) (fun hc1 => ?_)
    · skip
      try simp at hc1
      have hany : Q.any (fun x => decide (x ∈ d)) = true := by rw [List.any_eq_true]; exact ⟨x, List.mem_of_getElem? hx, by simpa using hc1⟩
      refine awp_sr rfl fun K hK => ?_
      simp -dsimp
      refine hK _ _ ?_; clear hK K
      exact awp_ret (by simp [hany])
    · skip
      try simp at hc1
      refine awp_skip ?_
      simp only [thenA, inBlockA, reduceIte, Nat.reduceEqDiff, eq_self]
      refine hK3 _ _ ?_
      refine awp_prune [0, 1, 2, 7] ?_
      simp only [prune, List.map_cons, List.map_nil, Go.AM.look, Nat.reduceEqDiff, reduceIte]
      refine awp_r rfl fun K hK => ?_
      simp -dsimp [wk]
      refine hK _ _ ?_; clear hK K
      simp only [thenA, inBlockA, reduceIte, Nat.reduceEqDiff, eq_self]
      exact ⟨k + 1, ⟨by omega, by rw [any_take hx, k2]; simpa using hc1⟩, by omega, sub_rb [] rfl (by simp) (by simp)⟩
  · skip
    try simp at hc0
    have hany := any_of_take (by omega) k2
    refine awp_exit ?_
    simp only [thenA, inBlockA, reduceIte, Nat.reduceEqDiff, eq_self]
    refine hK1 _ _ ?_
    refine awp_prune [] ?_
    simp only [prune, List.map_cons, List.map_nil, Go.AM.look, Nat.reduceEqDiff, reduceIte]
    refine awp_sr rfl fun K hK => ?_
    simp -dsimp
    refine hK _ _ ?_; clear hK K
    exact awp_ret (by simp [hany])

theorem c_rcand (p : Int) (d : List Int) (hf : Fit j) (h0 : 0 ≤ p) (h1 : p < j.Phases.length) (hd : d.length ≤ 1000) :
    PureCall Try.prog 87 [.iptr (rC j se (I p) on si L S), iL d] (iL (candL j p d)) := by
  have hP := hf.p
  have hn0 : ¬ j.Phases = [] := by intro h; rw [h] at h1; simp at h1; omega
  have hc0' : candTo j p d 0 = [] := rfl
  have w1 : IntKind.i64.wrap 1 = 1 := wrap_in (by omega) (by omega)
  refine PureCall.of_body Try.func87 rfl (by decide) (by simp [Try.ntmps87]) ?_
  simp only [Try.ntmps87, Try.results87]
  refine awp_sr rfl fun K hK => ?_
  simp -dsimp
  refine hK _ _ ?_; clear hK K
  refine awp_sr rfl fun K hK => ?_
  simp -dsimp
  refine hK _ _ ?_; clear hK K
  refine awp_sr rfl fun K hK => ?_
  simp -dsimp
  refine hK _ _ ?_; clear hK K
  refine awp_seq_k fun K1 hK1 => ?_
  refine awp_sr rfl fun K hK => ?_
  simp -dsimp
  refine hK _ _ ?_; clear hK K
  refine awp_block ?_
  refine awp_prune [0, 1, 5, 6, 7] ?_
  simp only [prune, List.map_cons, List.map_nil, Go.AM.look, Nat.reduceEqDiff, reduceIte]
  refine awp_loop_l [0, 1, 6] (α := Nat) (fun k => [(5, .row 0 0 (candTo j p d k).length), (7, I ((k : Int) + 1))]) (fun k => [some (.els 1 ((candTo j p d k).map nCell))]) (fun k => k ≤ j.Phases.length - 1) (fun k => j.Phases.length - 1 - k) 0 ?_ ?_ ?_
  · exact Nat.zero_le _
  · exact (sub_nil 5 1 (by simp)).trans (sub_same (by simp [hc0']))
  rintro k k1
  have hlen := candTo_len j p d k
  simp only [List.cons_append, List.nil_append, prune, List.map_cons, List.map_nil, Go.AM.look, Nat.reduceEqDiff, reduceIte]
  refine awp_seq_k fun K2 hK2 => ?_
  refine awp_sr rfl fun K hK => ?_
  simp -dsimp
  refine hK _ _ ?_; clear hK K
  refine awp_cond rfl (fun hc0 => ?_) (fun hc0 => ?_)
  · skip
    try simp at hc0
    have hq := candQ_bd (j := j) (ph := p) (k := k + 1) (by omega)
    have wk : IntKind.i64.wrap (p + ((k : Int) + 1)) = p + ((k : Int) + 1) := wrap_in (by omega) (by omega)
    have wk2 : IntKind.i64.wrap ((k : Int) + 1 + 1) = (k : Int) + 1 + 1 := wrap_in (by omega) (by omega)
    have hm : (p + ((k : Int) + 1)).tmod (j.Phases.length : Int) = candQ j p (k + 1) := by rw [Int.tmod_eq_emod_of_nonneg (by omega)]; rfl
    have f1 : Fits ((candTo j p d k).length + 1) 9 := fits_of (by omega) (by omega)
    refine awp_skip ?_
    simp only [thenA, inBlockA, reduceIte, Nat.reduceEqDiff, eq_self]
    refine hK2 _ _ ?_
    refine awp_prune [0, 1, 5, 6, 7] ?_
    simp only [prune, List.map_cons, List.map_nil, Go.AM.look, Nat.reduceEqDiff, reduceIte]
    refine awp_seq_k fun K3 hK3 => ?_
    refine awp_block ?_
    refine awp_sr rfl fun K hK => ?_
    simp -dsimp [wk, hm, hn0]
    refine hK _ _ ?_; clear hK K
    refine awp_sr rfl fun K hK => ?_
    simp -dsimp
    refine callK_intro _ (c_beyond j se (I p) on si L S (candQ j p (k + 1)) p d hf hq.1 hq.2 h0 h1 hd) (by simp) ?_
    simp -dsimp
    refine hK _ _ ?_; clear hK K
    refine awp_cond rfl (fun hc1 => ?_) (fun hc1 => ?_)
    · skip
      skip
      refine awp_r rfl fun K hK => ?_
      simp -dsimp [f1]
      refine hK _ _ ?_; clear hK K
      simp only [thenA, inBlockA, reduceIte, Nat.reduceEqDiff, eq_self]
      refine hK3 _ _ ?_
      refine awp_prune [0, 1, 5, 6, 7] ?_
      simp only [prune, List.map_cons, List.map_nil, Go.AM.look, Nat.reduceEqDiff, reduceIte]
      refine awp_r rfl fun K hK => ?_
      simp -dsimp [wk2]
      refine hK _ _ ?_; clear hK K
      simp only [thenA, inBlockA, reduceIte, Nat.reduceEqDiff, eq_self]
      have hsu : candTo j p d (k + 1) = candTo j p d k ++ [candQ j p (k + 1)] := by rw [candTo, if_pos hc1]
      exact ⟨k + 1, by omega, by omega, sub_rb [some 1] rfl (by simp [hsu]) (by simp [hsu])⟩
    · skip
      skip
      refine awp_skip ?_
      simp only [thenA, inBlockA, reduceIte, Nat.reduceEqDiff, eq_self]
      refine hK3 _ _ ?_
      refine awp_prune [0, 1, 5, 6, 7] ?_
      simp only [prune, List.map_cons, List.map_nil, Go.AM.look, Nat.reduceEqDiff, reduceIte]
      refine awp_r rfl fun K hK => ?_
      simp -dsimp [wk2]
      refine hK _ _ ?_; clear hK K
      simp only [thenA, inBlockA, reduceIte, Nat.reduceEqDiff, eq_self]
      have hsu : candTo j p d (k + 1) = candTo j p d k := by rw [candTo, if_neg (by simp [hc1]), List.append_nil]
      exact ⟨k + 1, by omega, by omega, sub_rb [some 0] rfl (by simp [hsu]) (by simp [hsu])⟩
  · skip
    try simp at hc0
    have hke : k = j.Phases.length - 1 := by omega
    subst hke
    refine awp_exit ?_
    simp only [thenA, inBlockA, reduceIte, Nat.reduceEqDiff, eq_self]
    refine hK1 _ _ ?_
    refine awp_prune [5] ?_
    simp only [prune, List.map_cons, List.map_nil, Go.AM.look, Nat.reduceEqDiff, reduceIte]
    refine awp_sr rfl fun K hK => ?_
    simp -dsimp
    refine hK _ _ ?_; clear hK K
    exact awp_ret (by simp [candL])

theorem c_rends (sn p sl : Int) (ls : List Lt) (d pr : List Int) (hf : Fit j) (ho : JOk j) (hl : ls.length = j.n) (hse : smallT sn) (hsi : smallT sl) (hlt : ∀ l ∈ ls, smallT l.Since) (p0 : 0 ≤ p) (p1 : p < j.Phases.length) (hd : d.length ≤ 1000) (hpd : pr.length ≤ 1000)
    (hG : ∀ x ∈ rowAt j.Phases p, (ltAt ls x).Green = true) :
    PureCall Try.prog 60 [.iptr (rC j (I sn) (I p) on (I sl) (lL ls) S), iL d, iL pr] (Bo (endsB j sn p sl ls d pr)) := by
  have hph := ho.phase p0 p1
  have hpl := hf.ps _ (List.mem_of_getElem? hph.1)
  have gL := at0_get (l := j.Longest) (i := p) p0 (by have := ho.ll; omega)
  have hcd := c_rcand j (I sn) on (I sl) (lL ls) S p d hf p0 p1 hd
  have hs1 := c_rsome j (I sn) (I p) on (I sl) (lL ls) S p d hf p0 p1 hd
  have hs2 := c_rsome j (I sn) (I p) on (I sl) (lL ls) S p pr hf p0 p1 hpd
  unfold smallT at hse hsi hlt
  have wd : IntKind.i64.wrap (sn - sl) = sn - sl := wrap_in (by omega) (by omega)
  refine PureCall.of_body Try.func60 rfl (by decide) (by simp [Try.ntmps60]) ?_
  simp only [Try.ntmps60, Try.results60]
  refine awp_sr rfl fun K hK => ?_
  simp -dsimp
  refine hK _ _ ?_; clear hK K
  refine awp_sd mixed rfl fun K hK => ?_
  simp -dsimp [hph.1, p0]
  refine hK _ _ _ (by decide +kernel) ?_; clear hK K
  refine awp_seq_k fun K1 hK1 => ?_
  refine awp_sr rfl fun K hK => ?_
  simp -dsimp
  refine hK _ _ ?_; clear hK K
  refine awp_block ?_
  refine awp_prune [0, 1, 2, 7, 8] ?_
  simp only [prune, List.map_cons, List.map_nil, Go.AM.look, Nat.reduceEqDiff, reduceIte]
  refine awp_loop_l [0, 1, 2, 7] (α := Nat) (fun k => [(8, I k)]) (fun _ => []) (fun k => k ≤ (rowAt j.Phases p).length ∧ ((rowAt j.Phases p).take k).any (young j sn ls) = false) (fun k => (rowAt j.Phases p).length - k) 0 ?_ ?_ ?_
  · exact ⟨Nat.zero_le _, rfl⟩
  · exact sub_same (by simp)
  rintro k ⟨k1, k2⟩
  simp only [List.cons_append, List.nil_append, prune, List.map_cons, List.map_nil, Go.AM.look, Nat.reduceEqDiff, reduceIte]
  refine awp_seq_k fun K2 hK2 => ?_
  refine awp_sr rfl fun K hK => ?_
  simp -dsimp
  refine hK _ _ ?_; clear hK K
  refine awp_cond rfl (fun hc0 => ?_) (fun hc0 => ?_)
  · skip
    try simp at hc0
    have gx := at0_nat hc0
    have hxb := hph.2.2.1 _ (List.mem_of_getElem? gx)
    have hgx := hG _ (List.mem_of_getElem? gx)
    have wk : IntKind.i64.wrap ((k : Int) + 1) = (k : Int) + 1 := wrap_in (by omega) (by omega)
    generalize at0 (rowAt j.Phases p) k = x at gx hxb hgx
    have gl := ltAt_get (l := ls) (i := x) hxb.1 (by omega)
    have gst := strm_get hxb.1 hxb.2
    have hla := hlt _ (List.mem_of_getElem? gl)
    have hyo : young j sn ls x = decide (sn - (ltAt ls x).Since < (strm j x).Least) := by unfold young; rw [hgx, Bool.true_and]
    generalize ltAt ls x = l at gl hla hyo
    have wl : IntKind.i64.wrap (sn - l.Since) = sn - l.Since := wrap_in (by omega) (by omega)
    refine awp_skip ?_
    simp only [thenA, inBlockA, reduceIte, Nat.reduceEqDiff, eq_self]
    refine hK2 _ _ ?_
    refine awp_prune [0, 1, 2, 7, 8] ?_
    simp only [prune, List.map_cons, List.map_nil, Go.AM.look, Nat.reduceEqDiff, reduceIte]
    refine awp_seq_k fun K3 hK3 => ?_
    refine awp_block ?_
    refine awp_sd mixed rfl fun K hK => ?_
    simp -dsimp [gx, gl, hxb.1, gst, wl]
    refine hK _ _ _ (by decide +kernel) ?_; clear hK K
    refine awp_cond rfl (fun hc1 => ?_) (fun hc1 => ?_)
    · skip
      skip
      refine awp_sr rfl fun K hK => ?_
      simp -dsimp
      refine hK _ _ ?_; clear hK K
      have hyy : (rowAt j.Phases p).any (young j sn ls) = true := by
        rw [List.any_eq_true]
        exact ⟨x, List.mem_of_getElem? gx, by rw [hyo]; exact hc1⟩
      exact awp_ret (by simp [endsB, hyy])
    · skip
      skip
      refine awp_skip ?_
      simp only [thenA, inBlockA, reduceIte, Nat.reduceEqDiff, eq_self]
      refine hK3 _ _ ?_
      refine awp_prune [0, 1, 2, 7, 8] ?_
      simp only [prune, List.map_cons, List.map_nil, Go.AM.look, Nat.reduceEqDiff, reduceIte]
      refine awp_r rfl fun K hK => ?_
      simp -dsimp [wk]
      refine hK _ _ ?_; clear hK K
      simp only [thenA, inBlockA, reduceIte, Nat.reduceEqDiff, eq_self]
      exact ⟨k + 1, ⟨by omega, by rw [any_take gx, k2, hyo, hc1]; rfl⟩, by omega, sub_rb [] rfl (by simp) (by simp)⟩
  · skip
    try simp at hc0
    have hny := any_of_take (by omega) k2
    refine awp_exit ?_
    simp only [thenA, inBlockA, reduceIte, Nat.reduceEqDiff, eq_self]
    refine hK1 _ _ ?_
    refine awp_prune [0, 1, 2, 7] ?_
    simp only [prune, List.map_cons, List.map_nil, Go.AM.look, Nat.reduceEqDiff, reduceIte]
    refine awp_seq_k fun K4 hK4 => ?_
    refine awp_sr rfl fun K hK => ?_
    simp -dsimp
    refine callK_intro _ (hcd) (by simp) ?_
    simp -dsimp
    refine hK _ _ ?_; clear hK K
    refine awp_cond rfl (fun hc2 => ?_) (fun hc2 => ?_)
    · skip
      try simp at hc2
      refine awp_sr rfl fun K hK => ?_
      simp -dsimp
      refine hK _ _ ?_; clear hK K
      exact awp_ret (by simp [endsB, hc2])
    · skip
      try simp at hc2
      refine awp_skip ?_
      simp only [thenA, inBlockA, reduceIte, Nat.reduceEqDiff, eq_self]
      refine hK4 _ _ ?_
      refine awp_prune [0, 1, 2, 7] ?_
      simp only [prune, List.map_cons, List.map_nil, Go.AM.look, Nat.reduceEqDiff, reduceIte]
      refine awp_sr rfl fun K hK => ?_
      simp -dsimp
      refine hK _ _ ?_; clear hK K
      refine awp_seq_k fun K5 hK5 => ?_
      refine awp_sr rfl fun K hK => ?_
      simp -dsimp
      refine hK _ _ ?_; clear hK K
      refine awp_block ?_
      refine awp_prune [0, 1, 2, 7, 9, 10] ?_
      simp only [prune, List.map_cons, List.map_nil, Go.AM.look, Nat.reduceEqDiff, reduceIte]
      refine awp_loop_l [0, 1, 2, 7] (α := Nat) (fun k => [(9, Bo ((pr.take k).any fun x => !hasB j p x)), (10, I k)]) (fun _ => []) (fun k => k ≤ pr.length) (fun k => pr.length - k) 0 ?_ ?_ ?_
      · exact Nat.zero_le _
      · exact sub_same (by simp)
      rintro k k1
      simp only [List.cons_append, List.nil_append, prune, List.map_cons, List.map_nil, Go.AM.look, Nat.reduceEqDiff, reduceIte]
      refine awp_seq_k fun K6 hK6 => ?_
      refine awp_sr rfl fun K hK => ?_
      simp -dsimp
      refine hK _ _ ?_; clear hK K
      refine awp_cond rfl (fun hc3 => ?_) (fun hc3 => ?_)
      · skip
        try simp at hc3
        obtain ⟨x, hx⟩ : ∃ x, pr[k]? = some x := ⟨_, List.getElem?_eq_getElem hc3⟩
        have wk : IntKind.i64.wrap ((k : Int) + 1) = (k : Int) + 1 := wrap_in (by omega) (by omega)
        refine awp_skip ?_
        simp only [thenA, inBlockA, reduceIte, Nat.reduceEqDiff, eq_self]
        refine hK6 _ _ ?_
        refine awp_prune [0, 1, 2, 7, 9, 10] ?_
        simp only [prune, List.map_cons, List.map_nil, Go.AM.look, Nat.reduceEqDiff, reduceIte]
        refine awp_seq_k fun K7 hK7 => ?_
        refine awp_block ?_
        refine awp_r rfl fun K hK => ?_
        simp -dsimp [hx]
        refine idxK_intro (nCell x) (fun _ => by simp [hx]) ?_
        simp -dsimp [hx]
        refine callK_may _ (fun hm => c_rHas (rowAt j.Phases p) x (by omega)) (by simp) ?_
        simp -dsimp [hx]
        refine hK _ _ ?_; clear hK K
        simp only [thenA, inBlockA, reduceIte, Nat.reduceEqDiff, eq_self]
        refine hK7 _ _ ?_
        refine awp_prune [0, 1, 2, 7, 9, 10] ?_
        simp only [prune, List.map_cons, List.map_nil, Go.AM.look, Nat.reduceEqDiff, reduceIte]
        refine awp_r rfl fun K hK => ?_
        simp -dsimp [wk]
        refine hK _ _ ?_; clear hK K
        simp only [thenA, inBlockA, reduceIte, Nat.reduceEqDiff, eq_self]
        have e := any_take (q := fun x => !hasB j p x) hx
        have e2 : hasB j p x = decide (x ∈ rowAt j.Phases p) := rfl
        exact ⟨k + 1, by omega, by omega, sub_rb [] rfl (by simp [e, e2]) (by simp)⟩
      · skip
        try simp at hc3
        have htk : pr.take k = pr := List.take_of_length_le (by omega)
        refine awp_exit ?_
        simp only [thenA, inBlockA, reduceIte, Nat.reduceEqDiff, eq_self]
        refine hK5 _ _ ?_
        refine awp_prune [0, 1, 2, 9] ?_
        simp only [prune, List.map_cons, List.map_nil, Go.AM.look, Nat.reduceEqDiff, reduceIte]
        refine awp_sd mixed rfl fun K hK => ?_
        simp -dsimp [htk, wd, p0]
        refine callK_intro _ (hs1) (by simp) ?_
        simp -dsimp [htk, wd, p0]
        refine idxK_intro (nCell (at0 j.Longest p)) (fun _ => by simp [gL]) ?_
        simp -dsimp [htk, wd, p0]
        refine callK_may _ (fun hm => hs2) (by simp) ?_
        simp -dsimp [htk, wd, p0]
        refine hK _ _ _ (by decide +kernel) ?_; clear hK K
        have hne : (candL j p d).isEmpty = false := by cases h : candL j p d with | nil => exact absurd h hc2 | cons => rfl
        refine awp_ret ?_
        simp [endsB, hne, hny]
end
end Go.Street
