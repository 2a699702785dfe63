/- Walks: what a signal looks up, and its candidates. -/
import Derived.Test.YtmenlmioccciiaaZ4
namespace Go.Street
open Go.AM Go.Proofs
set_option maxRecDepth 10000
set_option maxHeartbeats 4000000
set_option linter.unusedVariables false
set_option linter.unusedSimpArgs false

theorem c_IndexN (l : List Int) (x : Int) (hn : l.length ≤ 100000) : PureCall Try.prog 79 [iL l, I x] (I (firstI l fun y => decide (x = y))) := by
  refine PureCall.of_body Try.func79 rfl (by decide) (by simp [Try.ntmps79]) ?_
  simp only [Try.ntmps79, Try.results79]
  refine awp_sr rfl fun K hK => ?_
  simp -dsimp
  refine hK _ _ ?_; clear hK K
  refine awp_seq_k fun K1 hK1 => ?_
  refine awp_sr rfl fun K hK => ?_
  simp -dsimp
  refine hK _ _ ?_; clear hK K
  refine awp_block ?_
  refine awp_prune [0, 1, 7, 8] ?_
  simp only [prune, List.map_cons, List.map_nil, Go.AM.look, Nat.reduceEqDiff, reduceIte]
  refine awp_loop_l [0, 1, 7] (α := Nat) (fun k => [(8, I k)]) (fun _ => []) (fun k => k ≤ l.length ∧ (l.take k).any (fun y => decide (x = y)) = false) (fun k => l.length - k) 0 ?_ ?_ ?_
  · simp
  · exact sub_same (by simp)
  rintro k ⟨k1, k2⟩
  simp only [List.cons_append, List.nil_append, prune, List.map_cons, List.map_nil, Go.AM.look, Nat.reduceEqDiff, reduceIte]
  refine awp_sr rfl fun K hK => ?_
  simp -dsimp
  refine hK _ _ ?_; clear hK K
  refine awp_seq_k fun K2 hK2 => ?_
  refine awp_cond rfl (fun hc0 => ?_) (fun hc0 => ?_)
  · skip
    try simp at hc0
    obtain ⟨y, hx⟩ : ∃ y, l[k]? = some y := ⟨_, List.getElem?_eq_getElem hc0⟩
    have wk : IntKind.i64.wrap ((k : Int) + 1) = (k : Int) + 1 := wrap_in (by omega) (by omega)
    refine awp_skip ?_
    simp only [thenA, inBlockA, reduceIte, Nat.reduceEqDiff, eq_self]
    refine hK2 _ _ ?_
    refine awp_prune [0, 1, 7, 8] ?_
    simp only [prune, List.map_cons, List.map_nil, Go.AM.look, Nat.reduceEqDiff, reduceIte]
    refine awp_seq_k fun K3 hK3 => ?_
    refine awp_block ?_
    refine awp_sr rfl fun K hK => ?_
    simp -dsimp
    refine hK _ _ ?_; clear hK K
    refine awp_sr rfl fun K hK => ?_
    simp -dsimp [hx]
    refine hK _ _ ?_; clear hK K
    refine awp_cond rfl (fun hc1 => ?_) (fun hc1 => ?_)
    · skip
      simp only [beq_d] at hc1
      refine awp_sr rfl fun K hK => ?_
      simp -dsimp
      refine hK _ _ ?_; clear hK K
      exact awp_ret (by simp [firstI_hit hx hc1 k2])
    · skip
      simp only [beq_d] at hc1
      refine awp_skip ?_
      simp only [thenA, inBlockA, reduceIte, Nat.reduceEqDiff, eq_self]
      refine hK3 _ _ ?_
      refine awp_prune [0, 1, 7, 8] ?_
      simp only [prune, List.map_cons, List.map_nil, Go.AM.look, Nat.reduceEqDiff, reduceIte]
      refine awp_r rfl fun K hK => ?_
      simp -dsimp [wk]
      refine hK _ _ ?_; clear hK K
      simp only [thenA, inBlockA, reduceIte, Nat.reduceEqDiff, eq_self]
      exact ⟨k + 1, ⟨by omega, by rw [any_take hx, k2, hc1]; rfl⟩, by omega, sub_same (by simp)⟩
  · skip
    try simp at hc0
    have hall := any_of_take (by omega) k2
    refine awp_exit ?_
    simp only [thenA, inBlockA, reduceIte, Nat.reduceEqDiff, eq_self]
    refine hK1 _ _ ?_
    refine awp_prune [] ?_
    simp only [prune, List.map_cons, List.map_nil, Go.AM.look, Nat.reduceEqDiff, reduceIte]
    refine awp_sr rfl fun K hK => ?_
    simp -dsimp
    refine hK _ _ ?_; clear hK K
    exact awp_ret (by simp [firstI_none hall])
theorem any_eq (l : List Int) (x : Int) : l.any (fun y => decide (x = y)) = decide (x ∈ l) := by
  rw [Bool.eq_iff_iff]; simp
theorem c_Contains (l : List Int) (x : Int) (hn : l.length ≤ 100000) : PureCall Try.prog 50 [iL l, I x] (Bo (decide (x ∈ l))) := by
  refine PureCall.of_body Try.func50 rfl (by decide) (by simp [Try.ntmps50]) ?_
  simp only [Try.ntmps50, Try.results50]
  refine awp_sr rfl fun K hK => ?_
  simp -dsimp
  refine hK _ _ ?_; clear hK K
  refine awp_sr rfl fun K hK => ?_
  simp -dsimp
  refine callK_intro _ (c_IndexN l x hn) (by simp) ?_
  simp -dsimp
  refine hK _ _ ?_; clear hK K
  exact awp_ret (by simp [firstI_nn, any_eq])

/-- A signal's cells, by content: its junction and the rest. -/
@[simp] def sC (j : Jn) (op se ph on si R Sk Dm Pr : AV) : List AV := j.cells ++ [op, se, ph, on, si, R, Sk, Dm, Pr]
@[simp] def mp (l : List Int) : AV := .mpc false [.i .i64] (metK l)
@[simp] theorem ptr_sg : ptrB Try.prog 46 = true := by kernel_rfl

section
variable (j : Jn) (op se ph on si R Sk Dm Pr : AV)
theorem c_ready (b : Bool) : PureCall Try.prog 62 [.iptr (sC j (Bo b) se ph on si R Sk Dm Pr)] (Bo b) := by
  refine PureCall.of_body Try.func62 rfl (by decide) (by simp [Try.ntmps62]) ?_
  simp only [Try.ntmps62, Try.results62]
  refine awp_sr rfl fun K hK => ?_
  simp -dsimp
  refine hK _ _ ?_; clear hK K
  refine awp_sr rfl fun K hK => ?_
  simp -dsimp
  refine hK _ _ ?_; clear hK K
  exact awp_ret (by simp)
def hasB (j : Jn) (p x : Int) : Bool := decide (x ∈ rowAt j.Phases p)
theorem c_has (p x : Int) (hf : Fit j) (h0 : 0 ≤ p) (h1 : p < j.Phases.length) : PureCall Try.prog 93 [.iptr (sC j op se ph on si R Sk Dm Pr), I p, I x] (Bo (hasB j p x)) := by
  have g := rowAt_get h0 h1
  have hl := hf.ps _ (List.mem_of_getElem? g)
  refine PureCall.of_body Try.func93 rfl (by decide) (by simp [Try.ntmps93]) ?_
  simp only [Try.ntmps93, Try.results93]
  refine awp_sr rfl fun K hK => ?_
  simp -dsimp
  refine hK _ _ ?_; clear hK K
  refine awp_sr rfl fun K hK => ?_
  simp -dsimp [g, h0]
  refine callK_intro _ (c_Contains _ x (by omega)) (by simp) ?_
  simp -dsimp [g, h0]
  refine hK _ _ ?_; clear hK K
  exact awp_ret (by simp [hasB])

def someB (j : Jn) (q p : Int) (d : List Int) : Bool := (rowAt j.Phases q).any fun x => decide (x ∈ d) && !hasB j p x
theorem c_some1 (d : List Int) (p x : Int) (hf : Fit j) (h0 : 0 ≤ p) (h1 : p < j.Phases.length) :
    PureCall Try.prog 122 (I x :: ipts [[mp d], [.iptr (sC j op se ph on si R Sk Dm Pr)], [I p]]) (Bo (decide (x ∈ d) && !hasB j p x)) := by
  show PureCall Try.prog 122 [I x, .iptr [mp d], .iptr [.iptr (sC j op se ph on si R Sk Dm Pr)], .iptr [I p]] (Bo (decide (x ∈ d) && !hasB j p x))
  refine PureCall.of_body Try.func122 rfl (by decide) (by simp [Try.ntmps122]) ?_
  simp only [Try.ntmps122, Try.results122]
  refine awp_sr rfl fun K hK => ?_
  simp -dsimp
  refine hK _ _ ?_; clear hK K
  refine awp_sr rfl fun K hK => ?_
  simp -dsimp [metK_look]
  refine valK_intro (_) (fun hm => rfl) ?_
  simp -dsimp [metK_look]
  refine callK_may _ (fun hm => c_has j op se ph on si R Sk Dm Pr p x hf h0 h1) (by simp) ?_
  simp -dsimp [metK_look]
  refine hK _ _ ?_; clear hK K
  exact awp_ret (by simp)
theorem c_some (q p : Int) (d : List Int) (hf : Fit j) (q0 : 0 ≤ q) (q1 : q < j.Phases.length) (h0 : 0 ≤ p) (h1 : p < j.Phases.length) :
    PureCall Try.prog 116 [.iptr (sC j op se ph on si R Sk Dm Pr), I q, I p, mp d] (Bo (someB j q p d)) := by
  have g := rowAt_get q0 q1
  have hl := hf.ps _ (List.mem_of_getElem? g)
  have hc := c_Cont_i (rowAt j.Phases q) 122 [[mp d], [.iptr (sC j op se ph on si R Sk Dm Pr)], [I p]] (fun x => decide (x ∈ d) && !hasB j p x) (fun x _ => c_some1 j op se ph on si R Sk Dm Pr d p x hf h0 h1) (by omega)
  refine PureCall.of_body Try.func116 rfl (by decide) (by simp [Try.ntmps116]) ?_
  simp only [Try.ntmps116, Try.results116]
  refine awp_sr rfl fun K hK => ?_
  simp -dsimp
  refine hK _ _ ?_; clear hK K
  refine awp_sr rfl fun K hK => ?_
  simp -dsimp [g, q0]
  refine callK_intro _ (hc) (by simp) ?_
  simp -dsimp [g, q0]
  refine hK _ _ ?_; clear hK K
  exact awp_ret (by simp [someB])
theorem c_wants (q p : Int) (d : List Int) (hf : Fit j) (q0 : 0 ≤ q) (q1 : q < j.Phases.length) (h0 : 0 ≤ p) (h1 : p < j.Phases.length) :
    PureCall Try.prog 103 [.iptr (sC j op se ph on si R Sk (mp d) Pr), I q, I p] (Bo (someB j q p d)) := by
  refine PureCall.of_body Try.func103 rfl (by decide) (by simp [Try.ntmps103]) ?_
  simp only [Try.ntmps103, Try.results103]
  refine awp_sr rfl fun K hK => ?_
  simp -dsimp
  refine hK _ _ ?_; clear hK K
  refine awp_sr rfl fun K hK => ?_
  simp -dsimp
  refine callK_intro _ (c_some j op se ph on si R Sk (mp d) Pr q p d hf q0 q1 h0 h1) (by simp) ?_
  simp -dsimp
  refine hK _ _ ?_; clear hK K
  exact awp_ret (by simp)
theorem c_urges (q p : Int) (d : List Int) (hf : Fit j) (q0 : 0 ≤ q) (q1 : q < j.Phases.length) (h0 : 0 ≤ p) (h1 : p < j.Phases.length) :
    PureCall Try.prog 104 [.iptr (sC j op se ph on si R Sk Dm (mp d)), I q, I p] (Bo (someB j q p d)) := by
  refine PureCall.of_body Try.func104 rfl (by decide) (by simp [Try.ntmps104]) ?_
  simp only [Try.ntmps104, Try.results104]
  refine awp_sr rfl fun K hK => ?_
  simp -dsimp
  refine hK _ _ ?_; clear hK K
  refine awp_sr rfl fun K hK => ?_
  simp -dsimp
  refine callK_intro _ (c_some j op se ph on si R Sk Dm (mp d) q p d hf q0 q1 h0 h1) (by simp) ?_
  simp -dsimp
  refine hK _ _ ?_; clear hK K
  exact awp_ret (by simp)

def candQ (j : Jn) (ph : Int) (k : Nat) : Int := (ph + k) % (j.Phases.length : Int)
def candTo (j : Jn) (ph : Int) (d : List Int) : Nat → List Int
  | 0 => []
  | k + 1 => candTo j ph d k ++ if someB j (candQ j ph (k + 1)) ph d then [candQ j ph (k + 1)] else []
def candL (j : Jn) (ph : Int) (d : List Int) : List Int := candTo j ph d (j.Phases.length - 1)
theorem candTo_prefix (j : Jn) (ph : Int) (d : List Int) (k : Nat) : ∀ m, ∃ r, candTo j ph d (k + m) = candTo j ph d k ++ r
  | 0 => ⟨[], by simp⟩
  | m + 1 => by
    obtain ⟨r, hr⟩ := candTo_prefix j ph d k m
    exact ⟨r ++ _, by rw [← Nat.add_assoc, candTo, hr, List.append_assoc]⟩
theorem candTo_len (j : Jn) (ph : Int) (d : List Int) : ∀ k, (candTo j ph d k).length ≤ k
  | 0 => by simp [candTo]
  | k + 1 => by
    have := candTo_len j ph d k
    simp only [candTo, List.length_append]
    split <;> simp <;> omega
theorem cand_at {j : Jn} {ph : Int} {d : List Int} {k : Nat} (hk : k + 1 ≤ j.Phases.length - 1) (h : someB j (candQ j ph (k + 1)) ph d = true) : (candL j ph d)[(candTo j ph d k).length]? = some (candQ j ph (k + 1)) := by
  obtain ⟨r, hr⟩ := candTo_prefix j ph d (k + 1) (j.Phases.length - 1 - (k + 1))
  rw [show k + 1 + (j.Phases.length - 1 - (k + 1)) = j.Phases.length - 1 by omega] at hr
  unfold candL
  rw [hr, candTo, if_pos h, List.append_assoc, List.getElem?_append_right (Nat.le_refl _), Nat.sub_self]
  rfl
theorem candQ_bd {j : Jn} {ph : Int} {k : Nat} (hp : 1 ≤ j.Phases.length) : 0 ≤ candQ j ph k ∧ candQ j ph k < j.Phases.length :=
  ⟨Int.emod_nonneg _ (by omega), Int.emod_lt_of_pos _ (by omega)⟩

theorem c_candidates (p : Int) : PureCall Try.prog 92 [.iptr (sC j op se ph on si R Sk Dm Pr), I p] (.clo 102 [.iptr [.iptr (sC j op se ph on si R Sk Dm Pr)], .iptr [I p]]) := by
  refine PureCall.of_body Try.func92 rfl (by decide) (by simp [Try.ntmps92]) ?_
  simp only [Try.ntmps92, Try.results92]
  refine awp_sr rfl fun K hK => ?_
  simp -dsimp
  refine hK _ _ ?_; clear hK K
  refine awp_sr rfl fun K hK => ?_
  simp -dsimp
  refine hK _ _ ?_; clear hK K
  exact awp_ret (by simp)

def qAV (q : Int) : List AV := [I q]
theorem qAV_len (l : List Int) : ∀ z ∈ l.map qAV, z.length = 1 := by
  intro z hz
  obtain ⟨q, _, rfl⟩ := List.mem_map.1 hz
  rfl

theorem c_cand1 (p : Int) (d : List Int) (hf : Fit j) (h0 : 0 ≤ p) (h1 : p < j.Phases.length) :
    IterCall Try.prog 102 [.iptr [.iptr (sC j op se ph on si R Sk (mp d) Pr)], .iptr [I p]] ((candL j p d).map qAV) := by
  have hP := hf.p
  have hn0 : ¬ j.Phases = [] := by intro h; rw [h] at h1; simp at h1; omega
  have hc0' : candTo j p d 0 = [] := rfl
  have w1 : IntKind.i64.wrap 1 = 1 := wrap_in (by omega) (by omega)
  refine IterCall.of_body Try.func102 rfl (by decide) (by simp [Try.ntmps102]) (by simp [Try.ntmps102]) (by simp [Try.results102]) ?_
  intro J l hmk hY
  simp only [Try.ntmps102, Try.results102]
  refine gwp_sr rfl (by decide) rfl rfl fun K hK => ?_
  simp -dsimp
  refine hK _ _ ?_; clear hK K
  refine gwp_sr rfl (by decide) rfl rfl fun K hK => ?_
  simp -dsimp
  refine hK _ _ ?_; clear hK K
  refine gwp_block ?_
  refine gwp_prune [0, 1, 2, 4, 5, 999999] (Or.inl (by decide)) ?_
  simp only [prune, List.map_cons, List.map_nil, Go.AM.look, Nat.reduceEqDiff, reduceIte]
  refine gwp_loop_l [0, 1, 2, 4] (α := Nat) (fun k => [(5, I ((k : Int) + 1)), (999999, cntV (candTo j p d k).length)]) (fun k => []) (fun k => k ≤ j.Phases.length - 1) (fun k => j.Phases.length - 1 - k) 0 ?_ ?_ ?_
  · exact Nat.zero_le _
  · exact gsub (sub_same (by simp [hc0'])) (by simp [hc0'])
  rintro k k1
  have hlen := candTo_len j p d k
  simp only [List.cons_append, List.nil_append, prune, List.map_cons, List.map_nil, Go.AM.look, Nat.reduceEqDiff, reduceIte]
  refine gwp_seq_k fun K1 hK1 => ?_
  refine gwp_sr rfl (by decide) rfl rfl fun K hK => ?_
  simp -dsimp
  refine hK _ _ ?_; clear hK K
  refine gwp_cond rfl (fun hc0 => ?_) (fun hc0 => ?_)
  · skip
    try simp at hc0
    have hq := candQ_bd (j := j) (ph := p) (k := k + 1) (by omega)
    have wk : IntKind.i64.wrap (p + ((k : Int) + 1)) = p + ((k : Int) + 1) := wrap_in (by omega) (by omega)
    have wk2 : IntKind.i64.wrap ((k : Int) + 1 + 1) = (k : Int) + 1 + 1 := wrap_in (by omega) (by omega)
    have hm : (p + ((k : Int) + 1)).tmod (j.Phases.length : Int) = candQ j p (k + 1) := by rw [Int.tmod_eq_emod_of_nonneg (by omega)]; rfl
    have hw := c_wants j op se ph on si R Sk Pr (candQ j p (k + 1)) p d hf hq.1 hq.2 h0 h1
    refine gwp_skip ?_
    simp only [thenA, inBlockA, reduceIte, Nat.reduceEqDiff, eq_self]
    refine hK1 _ _ ?_
    refine gwp_prune [0, 1, 2, 4, 5, 999999] (Or.inl (by decide)) ?_
    simp only [prune, List.map_cons, List.map_nil, Go.AM.look, Nat.reduceEqDiff, reduceIte]
    refine gwp_seq_k fun K2 hK2 => ?_
    refine gwp_block ?_
    refine gwp_sr rfl (by decide) rfl rfl fun K hK => ?_
    simp -dsimp [wk, hm, hn0]
    refine hK _ _ ?_; clear hK K
    rcases Bool.eq_false_or_eq_true (someB j (candQ j p (k + 1)) p d) with hs | hs <;> rw [hs] at hw
    · skip
      refine gwp_sy hmk hY rfl (by decide) rfl rfl fun K hK => ?_
      simp -dsimp
      refine callK_intro _ (hw) (by simp) ?_
      simp -dsimp
      refine yK_intro (by rw [List.getElem?_map, cand_at (by omega) hs]; rfl) ?_ ?_
      · refine hK _ _ ?_; clear hK K
        refine gwp_cond rfl (fun hc1 => ?_) (fun hc1 => ?_)
        · skip
          skip
          simp at hc1
        · skip
          skip
          refine gwp_skip ?_
          simp only [thenA, inBlockA, reduceIte, Nat.reduceEqDiff, eq_self]
          refine hK2 _ _ ?_
          refine gwp_prune [0, 1, 2, 4, 5, 999999] (Or.inl (by decide)) ?_
          simp only [prune, List.map_cons, List.map_nil, Go.AM.look, Nat.reduceEqDiff, reduceIte]
          refine gwp_r rfl (by decide) rfl rfl fun K hK => ?_
          simp -dsimp [wk2]
          refine hK _ _ ?_; clear hK K
          simp only [thenA, inBlockA, reduceIte, Nat.reduceEqDiff, eq_self]
          have hsu : candTo j p d (k + 1) = candTo j p d k ++ [candQ j p (k + 1)] := by rw [candTo, if_pos hs]
          exact ⟨k + 1, by omega, by omega, gsub (sub_rb [] rfl (by simp [hsu]) (by simp)) (by simp [hsu])⟩
      · refine hK _ _ ?_; clear hK K
        refine gwp_cond rfl (fun hc1 => ?_) (fun hc1 => ?_)
        · skip
          skip
          exact gwp_ret (by simp)
        · skip
          skip
          simp at hc1
    · skip
      refine gwp_sy hmk hY rfl (by decide) rfl rfl fun K hK => ?_
      simp -dsimp
      refine callK_intro _ (hw) (by simp) ?_
      simp -dsimp
      refine hK _ _ ?_; clear hK K
      refine gwp_cond rfl (fun hc1 => ?_) (fun hc1 => ?_)
      · skip
        skip
        simp at hc1
      · skip
        skip
        refine gwp_skip ?_
        simp only [thenA, inBlockA, reduceIte, Nat.reduceEqDiff, eq_self]
        refine hK2 _ _ ?_
        refine gwp_prune [0, 1, 2, 4, 5, 999999] (Or.inl (by decide)) ?_
        simp only [prune, List.map_cons, List.map_nil, Go.AM.look, Nat.reduceEqDiff, reduceIte]
        refine gwp_r rfl (by decide) rfl rfl fun K hK => ?_
        simp -dsimp [wk2]
        refine hK _ _ ?_; clear hK K
        simp only [thenA, inBlockA, reduceIte, Nat.reduceEqDiff, eq_self]
        have hsu : candTo j p d (k + 1) = candTo j p d k := by rw [candTo, if_neg (by simp [hs]), List.append_nil]
        exact ⟨k + 1, by omega, by omega, gsub (sub_rb [] rfl (by simp [hsu]) (by simp)) (by simp [hsu])⟩
  · skip
    try simp at hc0
    have hke : k = j.Phases.length - 1 := by omega
    subst hke
    refine gwp_exit ?_
    try simp only [thenA, inBlockA, reduceIte, Nat.reduceEqDiff, eq_self]
    simp [candL]
end
end Go.Street
