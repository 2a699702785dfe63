/- Walks: whether a stream can become green, and whether a phase ends. -/
import Derived.Test.YtmenlmioccciiaaZ5
namespace Go.Street
open Go.AM Go.Proofs
set_option maxRecDepth 10000
set_option maxHeartbeats 4000000
set_option linter.unusedVariables false
set_option linter.unusedSimpArgs false

def ltAt (l : List Lt) (i : Int) : Lt := (l[i.toNat]?).getD ⟨false, 0⟩
theorem ltAt_get {l : List Lt} {i : Int} (h0 : 0 ≤ i) (h : i < l.length) : l[i.toNat]? = some (ltAt l i) := by
  unfold ltAt
  rw [List.getElem?_eq_getElem (by omega)]; rfl
theorem ltAt_nat {l : List Lt} {k : Nat} (h : k < l.length) : l[k]? = some (ltAt l k) := by
  have := ltAt_get (l := l) (i := k) (by omega) (by omega)
  simpa using this
theorem ltAt_of {l : List Lt} {k : Nat} {x : Lt} (h : l[k]? = some x) : ltAt l k = x := by simp [ltAt, h]
abbrev lL (l : List Lt) : AV := .lst 2 (l.map Lt.cells)

/-- What a signal's numbers are like. -/
def smallT (n : Int) : Prop := -1 ≤ n ∧ n ≤ 1000000

def hinders (j : Jn) (se : Int) (ls : List Lt) (x : Int) (a : Nat) : Bool := conf j a x && ((ltAt ls a).Green || decide (se - (ltAt ls a).Since < clr j a x))
def clearB (j : Jn) (se : Int) (ls : List Lt) (x : Int) : Bool := !(List.range ls.length).any (hinders j se ls x)

section
variable (j : Jn) (op ph on si R Sk Dm Pr : AV)
theorem c_clear (se : Int) (ls : List Lt) (x : Int) (hs : Sqr j) (hn : j.n ≤ 22) (hl : ls.length = j.n) (hse : smallT se) (hlt : ∀ l ∈ ls, smallT l.Since) (x0 : 0 ≤ x) (x1 : x < j.n) :
    PureCall Try.prog 91 [.iptr (sC j op (I se) ph on si (lL ls) Sk Dm Pr), I x] (Bo (clearB j se ls x)) := by
  unfold smallT at hse hlt
  refine PureCall.of_body Try.func91 rfl (by decide) (by simp [Try.ntmps91]) ?_
  simp only [Try.ntmps91, Try.results91]
  refine awp_sr rfl fun K hK => ?_
  simp -dsimp
  refine hK _ _ ?_; clear hK K
  refine awp_seq_k fun K1 hK1 => ?_
  refine awp_sr rfl fun K hK => ?_
  simp -dsimp
  refine hK _ _ ?_; clear hK K
  refine awp_block ?_
  refine awp_prune [0, 1, 10, 11, 12] ?_
  simp only [prune, List.map_cons, List.map_nil, Go.AM.look, Nat.reduceEqDiff, reduceIte]
  refine awp_loop_l [0, 1, 10, 11] (α := Nat) (fun a => [(12, I a)]) (fun _ => []) (fun a => a ≤ ls.length ∧ ∀ a', a' < a → hinders j se ls x a' = false) (fun a => ls.length - a) 0 ?_ ?_ ?_
  · exact ⟨Nat.zero_le _, fun a' h => by omega⟩
  · exact sub_same (by simp)
  rintro a ⟨a1, a2⟩
  simp only [List.cons_append, List.nil_append, prune, List.map_cons, List.map_nil, Go.AM.look, Nat.reduceEqDiff, reduceIte]
  refine awp_sr rfl fun K hK => ?_
  simp -dsimp
  refine hK _ _ ?_; clear hK K
  refine awp_seq_k fun K2 hK2 => ?_
  refine awp_cond rfl (fun hc0 => ?_) (fun hc0 => ?_)
  · skip
    try simp at hc0
    have g := ltAt_nat hc0
    have hla := hlt _ (List.mem_of_getElem? g)
    have wa : IntKind.i64.wrap ((a : Int) + 1) = (a : Int) + 1 := wrap_in (by omega) (by omega)
    have gr := hs.row (a := (a : Int)) (by omega) (by omega)
    have gc := hs.get (a := (a : Int)) (b := x) (by omega) (by omega) x0 x1
    have hcf := c_conflict j a x hs (by omega) (by omega) x0 x1
    simp only [Int.toNat_natCast] at gr
    have hhi : hinders j se ls x a = (conf j a x && ((ltAt ls a).Green || decide (se - (ltAt ls a).Since < clr j a x))) := rfl
    generalize ltAt ls a = l at g hla hhi
    have wd : IntKind.i64.wrap (se - l.Since) = se - l.Since := wrap_in (by omega) (by omega)
    refine awp_skip ?_
    simp only [thenA, inBlockA, reduceIte, Nat.reduceEqDiff, eq_self]
    refine hK2 _ _ ?_
    refine awp_prune [0, 1, 10, 11, 12] ?_
    simp only [prune, List.map_cons, List.map_nil, Go.AM.look, Nat.reduceEqDiff, reduceIte]
    refine awp_seq_k fun K3 hK3 => ?_
    refine awp_block ?_
    refine awp_sr rfl fun K hK => ?_
    simp -dsimp [g]
    refine hK _ _ ?_; clear hK K
    refine awp_sd mixed rfl fun K hK => ?_
    simp -dsimp [wd]
    refine callK_intro _ (hcf) (by simp) ?_
    simp -dsimp [wd]
    refine idxK_intro (rCell (rowAt j.Clears a)) (fun _ => by simp [gr.1]) ?_
    simp -dsimp [wd]
    refine ⟨by intros; omega, idxK_intro (nCell (clr j a x)) (fun _ => by simp [gc]) ?_⟩
    simp -dsimp [wd]
    refine hK _ _ _ (by decide +kernel) ?_; clear hK K
    refine awp_cond rfl (fun hc1 => ?_) (fun hc1 => ?_)
    · skip
      skip
      have hb : clearB j se ls x = false := by
        unfold clearB
        have : (List.range ls.length).any (hinders j se ls x) = true := by
          rw [List.any_eq_true]
          exact ⟨a, List.mem_range.2 hc0, by rw [hhi]; exact hc1⟩
        rw [this]; rfl
      refine awp_sr rfl fun K hK => ?_
      simp -dsimp
      refine hK _ _ ?_; clear hK K
      exact awp_ret (by simp [hb])
    · skip
      skip
      refine awp_skip ?_
      simp only [thenA, inBlockA, reduceIte, Nat.reduceEqDiff, eq_self]
      refine hK3 _ _ ?_
      refine awp_prune [0, 1, 10, 11, 12] ?_
      simp only [prune, List.map_cons, List.map_nil, Go.AM.look, Nat.reduceEqDiff, reduceIte]
      refine awp_r rfl fun K hK => ?_
      simp -dsimp [wa]
      refine hK _ _ ?_; clear hK K
      simp only [thenA, inBlockA, reduceIte, Nat.reduceEqDiff, eq_self]
      refine ⟨a + 1, ⟨by omega, fun a' h => ?_⟩, by omega, sub_rb [] rfl (by simp) (by simp)⟩
      rcases Nat.lt_succ_iff_lt_or_eq.1 h with h | rfl
      · exact a2 a' h
      · rw [hhi]; exact hc1
  · skip
    try simp at hc0
    refine awp_exit ?_
    simp only [thenA, inBlockA, reduceIte, Nat.reduceEqDiff, eq_self]
    refine hK1 _ _ ?_
    refine awp_prune [] ?_
    simp only [prune, List.map_cons, List.map_nil, Go.AM.look, Nat.reduceEqDiff, reduceIte]
    refine awp_sr rfl fun K hK => ?_
    simp -dsimp
    refine hK _ _ ?_; clear hK K
    have hb : clearB j se ls x = true := by
      unfold clearB
      have : (List.range ls.length).any (hinders j se ls x) = false := by
        rw [List.any_eq_false]
        intro a' ha'
        rw [a2 a' (by have := List.mem_range.1 ha'; omega)]; simp
      rw [this]; rfl
    exact awp_ret (by simp [hb])
end

def young (j : Jn) (se : Int) (ls : List Lt) (x : Int) : Bool := (ltAt ls x).Green && decide (se - (ltAt ls x).Since < (strm j x).Least)
def endsB (j : Jn) (se ph si : Int) (ls : List Lt) (d p : List Int) : Bool :=
  !(candL j ph d).isEmpty && (!(rowAt j.Phases ph).any (young j se ls) &&
    (!((rowAt j.Phases ph).any fun x => decide (x ∈ d)) || decide (at0 j.Longest ph ≤ se - si) || (p.any fun x => !hasB j ph x) && !(rowAt j.Phases ph).any fun x => decide (x ∈ p)))
def kvOf (x : Int) : List KC × Value := ([.i .i64 x], .bool true)
theorem metK_kv (l : List Int) : metK l = (dd l).map kvOf := rfl
theorem any_dd (l : List Int) (f : Int → Bool) : (dd l).any f = l.any f := by
  rw [Bool.eq_iff_iff]; simp only [List.any_eq_true, dd_mem]
theorem any_erase {l : List Int} {i : Nat} {x : Int} (h : l[i]? = some x) (f : Int → Bool) : l.any f = (f x || (l.eraseIdx i).any f) := by
  induction l generalizing i with
  | nil => simp at h
  | cons y l ih =>
    cases i with
    | zero => simp at h; subst h; simp
    | succ i =>
      simp only [List.getElem?_cons_succ] at h
      simp only [List.any_cons, List.eraseIdx_cons_succ, ih h]
      cases f x <;> cases f y <;> rfl

section
variable (j : Jn) (op on R Sk Dm Pr : AV)
theorem c_ends (se ph si : Int) (ls : List Lt) (d p : List Int) (hf : Fit j) (ho : JOk j) (hl : ls.length = j.n) (hse : smallT se) (hsi : smallT si) (hlt : ∀ l ∈ ls, smallT l.Since) (p0 : 0 ≤ ph) (p1 : ph < j.Phases.length) :
    PureCall Try.prog 67 [.iptr (sC j op (I se) (I ph) on (I si) (lL ls) Sk (mp d) (mp p))] (Bo (endsB j se ph si ls d p)) := by
  have hcd := c_candidates j op (I se) (I ph) on (I si) (lL ls) Sk (mp d) (mp p) ph
  have hci := c_cand1 j op (I se) (I ph) on (I si) (lL ls) Sk (mp p) ph d hf p0 p1
  have hph := ho.phase p0 p1
  have hpl := hf.ps _ (List.mem_of_getElem? hph.1)
  have gL := at0_get (l := j.Longest) (i := ph) p0 (by have := ho.ll; omega)
  unfold smallT at hse hsi hlt
  have wd : IntKind.i64.wrap (se - si) = se - si := wrap_in (by omega) (by omega)
  refine PureCall.of_bodyG Try.func67 rfl (by decide) (by simp [Try.ntmps67]) ?_
  intro J hJ
  simp only [Try.ntmps67, Try.results67]
  refine gwp_sr rfl (by decide) rfl rfl fun K hK => ?_
  simp -dsimp
  refine hK _ _ ?_; clear hK K
  refine gwp_sr rfl (by decide) rfl rfl fun K hK => ?_
  simp -dsimp
  refine hK _ _ ?_; clear hK K
  refine gwp_seq_k fun K1 hK1 => ?_
  refine gwp_sr rfl (by decide) rfl rfl fun K hK => ?_
  simp -dsimp
  refine callK_intro _ (hcd) (by simp) ?_
  simp -dsimp
  refine hK _ _ ?_; clear hK K
  refine gwp_block ?_
  refine gwp_prune [0, 3, 16] (Or.inr (by simp)) ?_
  simp only [prune, List.map_cons, List.map_nil, Go.AM.look, Nat.reduceEqDiff, reduceIte]
  refine gwp_range_s hJ [0, 3, 16] (fun n => [some (.els 1 [[Bo false]])]) (fun n => n = 0) rfl (hci) rfl (by simp) (by decide) (by decide) (by decide) (qAV_len _) ?_ ?_ ?_ ?_
  · trivial
  · exact sub_same (by simp)
  · intro n xv hxn hi l1 J1 hJ1
    obtain rfl : n = 0 := hi
    obtain ⟨q, hq, rfl⟩ : ∃ q, (candL j ph d)[0]? = some q ∧ [I q] = xv := by simpa [qAV] using hxn
    have hne : (candL j ph d).isEmpty = false := by
      cases hcl : candL j ph d with
      | nil => rw [hcl] at hq; simp at hq
      | cons => rfl
    simp only [List.zip_cons_cons, List.zip_nil_left, List.zip_nil_right, List.cons_append, List.nil_append]
    refine gwp_skip ?_
    simp only [onlyN]
    intro J2 hJ2
    refine gwp_prune [0, 3, 16] (Or.inr (by simp)) ?_
    simp only [prune, List.map_cons, List.map_nil, Go.AM.look, Nat.reduceEqDiff, reduceIte]
    refine gwp_block ?_
    refine gwp_sr rfl (by decide) rfl rfl fun K hK => ?_
    simp -dsimp
    refine hK _ _ ?_; clear hK K
    refine gwp_exit ?_
    simp only [thenA, inBlockA, roundQ, reduceIte, Nat.reduceEqDiff, eq_self]
    refine ⟨[some (.els 1 [[Bo true]])], sub_rb [some 0] rfl (by simp) (by simp), ?_⟩
    try simp only [thenA, inBlockA, reduceIte, Nat.reduceEqDiff, eq_self]
    refine hK1 _ _ ?_
    refine gwp_prune [0, 3] (Or.inr (by simp)) ?_
    simp only [prune, List.map_cons, List.map_nil, Go.AM.look, Nat.reduceEqDiff, reduceIte]
    refine gwp_seq_k fun K2 hK2 => ?_
    refine gwp_sr rfl (by decide) rfl rfl fun K hK => ?_
    simp -dsimp
    refine hK _ _ ?_; clear hK K
    refine gwp_cond rfl (fun hc0 => ?_) (fun hc0 => ?_)
    · skip
      skip
      simp at hc0
    · skip
      skip
      refine gwp_skip ?_
      simp only [thenA, inBlockA, reduceIte, Nat.reduceEqDiff, eq_self]
      refine hK2 _ _ ?_
      refine gwp_prune [0] (Or.inr (by simp)) ?_
      simp only [prune, List.map_cons, List.map_nil, Go.AM.look, Nat.reduceEqDiff, reduceIte]
      refine gwp_sr rfl (by decide) rfl rfl fun K hK => ?_
      simp -dsimp
      refine hK _ _ ?_; clear hK K
      refine gwp_seq_k fun K3 hK3 => ?_
      refine gwp_sd mixed rfl (by decide) rfl rfl fun K hK => ?_
      simp -dsimp [hph.1, p0]
      refine hK _ _ _ (by decide +kernel) ?_; clear hK K
      refine gwp_block ?_
      refine gwp_prune [0, 4, 5, 6, 31, 32, 33] (Or.inr (by simp)) ?_
      simp only [prune, List.map_cons, List.map_nil, Go.AM.look, Nat.reduceEqDiff, reduceIte]
      refine gwp_loop_l [0, 6, 31, 32] (α := Nat) (fun k => [(4, Bo (((rowAt j.Phases ph).take k).any fun x => decide (x ∈ d))), (5, Bo (((rowAt j.Phases ph).take k).any fun x => decide (x ∈ p))), (33, I k)]) (fun k => [some (.els 1 [[Bo true]])]) (fun k => k ≤ (rowAt j.Phases ph).length ∧ ((rowAt j.Phases ph).take k).any (young j se ls) = false) (fun k => (rowAt j.Phases ph).length - k) 0 ?_ ?_ ?_
      · exact ⟨Nat.zero_le _, rfl⟩
      · exact gsub (sub_same (by simp)) (by simp)
      rintro k ⟨k1, k2⟩
      simp only [List.cons_append, List.nil_append, prune, List.map_cons, List.map_nil, Go.AM.look, Nat.reduceEqDiff, reduceIte]
      refine gwp_sr rfl (by decide) rfl rfl fun K hK => ?_
      simp -dsimp
      refine hK _ _ ?_; clear hK K
      refine gwp_seq_k fun K4 hK4 => ?_
      refine gwp_cond rfl (fun hc1 => ?_) (fun hc1 => ?_)
      · skip
        try simp at hc1
        have gx := at0_nat hc1
        have hxb := hph.2.2.1 _ (List.mem_of_getElem? gx)
        have wk : IntKind.i64.wrap ((k : Int) + 1) = (k : Int) + 1 := wrap_in (by omega) (by omega)
        generalize at0 (rowAt j.Phases ph) k = x at gx hxb
        have gl := ltAt_get (l := ls) (i := x) hxb.1 (by omega)
        have gst := strm_get hxb.1 hxb.2
        have hla := hlt _ (List.mem_of_getElem? gl)
        have hyo : young j se ls x = ((ltAt ls x).Green && decide (se - (ltAt ls x).Since < (strm j x).Least)) := rfl
        generalize ltAt ls x = l at gl hla hyo
        have wl : IntKind.i64.wrap (se - l.Since) = se - l.Since := wrap_in (by omega) (by omega)
        refine gwp_skip ?_
        simp only [thenA, inBlockA, reduceIte, Nat.reduceEqDiff, eq_self]
        refine hK4 _ _ ?_
        refine gwp_prune [0, 4, 5, 6, 31, 32, 33] (Or.inr (by simp)) ?_
        simp only [prune, List.map_cons, List.map_nil, Go.AM.look, Nat.reduceEqDiff, reduceIte]
        refine gwp_seq_k fun K5 hK5 => ?_
        refine gwp_block ?_
        refine gwp_sr rfl (by decide) rfl rfl fun K hK => ?_
        simp -dsimp [gx]
        refine hK _ _ ?_; clear hK K
        refine gwp_seq_k fun K6 hK6 => ?_
        refine gwp_sr rfl (by decide) rfl rfl fun K hK => ?_
        simp -dsimp [gl, hxb.1]
        refine hK _ _ ?_; clear hK K
        refine gwp_sd mixed rfl (by decide) rfl rfl fun K hK => ?_
        simp -dsimp [wl]
        refine ⟨fun _ => hxb.1, idxK_intro (strm j x).cells (fun _ => by simp [gst]) ?_⟩
        simp -dsimp [wl]
        refine hK _ _ _ (by decide +kernel) ?_; clear hK K
        refine gwp_cond rfl (fun hc2 => ?_) (fun hc2 => ?_)
        · skip
          skip
          refine gwp_sr rfl (by decide) rfl rfl fun K hK => ?_
          simp -dsimp
          refine hK _ _ ?_; clear hK K
          have hyy : (rowAt j.Phases ph).any (young j se ls) = true := by
            rw [List.any_eq_true]
            exact ⟨x, List.mem_of_getElem? gx, by rw [hyo]; exact hc2⟩
          exact gwp_ret (by simp [endsB, hyy])
        · skip
          skip
          refine gwp_skip ?_
          simp only [thenA, inBlockA, reduceIte, Nat.reduceEqDiff, eq_self]
          refine hK6 _ _ ?_
          refine gwp_prune [0, 4, 5, 6, 8, 31, 32, 33] (Or.inr (by simp)) ?_
          simp only [prune, List.map_cons, List.map_nil, Go.AM.look, Nat.reduceEqDiff, reduceIte]
          refine gwp_sr rfl (by decide) rfl rfl fun K hK => ?_
          simp -dsimp [metK_look]
          refine valK_intro (_) (fun hm => rfl) ?_
          simp -dsimp [metK_look]
          refine hK _ _ ?_; clear hK K
          refine gwp_r rfl (by decide) rfl rfl fun K hK => ?_
          simp -dsimp [metK_look]
          refine valK_intro (_) (fun hm => rfl) ?_
          simp -dsimp [metK_look]
          refine hK _ _ ?_; clear hK K
          simp only [thenA, inBlockA, reduceIte, Nat.reduceEqDiff, eq_self]
          refine hK5 _ _ ?_
          refine gwp_prune [0, 4, 5, 6, 31, 32, 33] (Or.inr (by simp)) ?_
          simp only [prune, List.map_cons, List.map_nil, Go.AM.look, Nat.reduceEqDiff, reduceIte]
          refine gwp_r rfl (by decide) rfl rfl fun K hK => ?_
          simp -dsimp [wk]
          refine hK _ _ ?_; clear hK K
          simp only [thenA, inBlockA, reduceIte, Nat.reduceEqDiff, eq_self]
          have e1 := any_take (q := fun x => decide (x ∈ d)) gx
          have e2 := any_take (q := fun x => decide (x ∈ p)) gx
          exact ⟨k + 1, ⟨by omega, by rw [any_take gx, k2, hyo, hc2]; rfl⟩, by omega, gsub (sub_rb [some 0] rfl (by simp [e1, e2]) (by simp)) (by simp)⟩
      · skip
        try simp at hc1
        have hny := any_of_take (by omega) k2
        have htk : (rowAt j.Phases ph).take k = rowAt j.Phases ph := List.take_of_length_le (by omega)
        refine gwp_exit ?_
        simp only [thenA, inBlockA, reduceIte, Nat.reduceEqDiff, eq_self]
        refine hK3 _ _ ?_
        refine gwp_prune [0, 4, 5, 6] (Or.inr (by simp)) ?_
        simp only [prune, List.map_cons, List.map_nil, Go.AM.look, Nat.reduceEqDiff, reduceIte]
        refine gwp_seq_k fun K7 hK7 => ?_
        refine gwp_sr rfl (by decide) rfl rfl fun K hK => ?_
        simp -dsimp [htk, metK_kv]
        refine hK _ _ ?_; clear hK K
        refine gwp_block ?_
        refine gwp_prune [0, 4, 5, 6, 91] (Or.inr (by simp)) ?_
        simp only [prune, List.map_cons, List.map_nil, Go.AM.look, Nat.reduceEqDiff, reduceIte]
        refine gwp_loop_l [0, 4, 5, 91] (α := List Int × Option Int × Bool) (fun x => [(6, Bo x.2.2)]) (fun x => [some (.els 1 [[Bo true]]), some (.itr false [.i .i64] (x.1.map kvOf) (x.2.1.map kvOf))]) (fun x => (x.2.2 || x.1.any fun y => !hasB j ph y) = p.any fun y => !hasB j ph y) (fun x => x.1.length) (dd p, none, false) ?_ ?_ ?_
        · simp only [Bool.false_or, any_dd]
        · exact gsub (sub_same (by simp)) (by simp)
        rintro ⟨left, cur, asb⟩ ix
        simp only at ix ⊢
        simp only [List.cons_append, List.nil_append, prune, List.map_cons, List.map_nil, Go.AM.look, Nat.reduceEqDiff, reduceIte]
        refine gwp_sn (.tmp 91) 1 rfl (by decide) rfl rfl rfl rfl (by simp) (by simp) rfl (fun hl0 K hK => ?_) (fun i e hie K hK => ?_)
        · skip
          obtain rfl : left = [] := by simpa using hl0
          simp -dsimp
          refine hK _ _ ?_; clear hK K
          refine gwp_seq_k fun K8 hK8 => ?_
          refine gwp_cond rfl (fun hc3 => ?_) (fun hc3 => ?_)
          · skip
            skip
            simp at hc3
          · skip
            skip
            refine gwp_exit ?_
            simp only [thenA, inBlockA, reduceIte, Nat.reduceEqDiff, eq_self]
            refine hK7 _ _ ?_
            refine gwp_prune [0, 4, 5, 6] (Or.inr (by simp)) ?_
            simp only [prune, List.map_cons, List.map_nil, Go.AM.look, Nat.reduceEqDiff, reduceIte]
            refine gwp_sd mixed rfl (by decide) rfl rfl fun K hK => ?_
            simp -dsimp [wd, p0, htk]
            refine idxK_intro (nCell (at0 j.Longest ph)) (fun _ => by simp [gL]) ?_
            simp -dsimp [wd, p0, htk]
            refine hK _ _ _ (by decide +kernel) ?_; clear hK K
            have hcne : (candL j ph d).isEmpty = false := hne
            have hfin : asb = p.any fun y => !hasB j ph y := by simpa using ix
            refine gwp_ret ?_
            simp [endsB, hcne, hny, ← hfin]
        · skip
          obtain ⟨y, hy, rfl⟩ : ∃ y, left[i]? = some y ∧ kvOf y = e := by simpa using hie
          have hme : (left.map kvOf).eraseIdx i = (left.eraseIdx i).map kvOf := (map_eraseIdx' kvOf left i).symm
          rw [hme]
          simp -dsimp
          refine hK _ _ ?_; clear hK K
          refine gwp_seq_k fun K9 hK9 => ?_
          refine gwp_cond rfl (fun hc3 => ?_) (fun hc3 => ?_)
          · skip
            skip
            refine gwp_skip ?_
            simp only [thenA, inBlockA, reduceIte, Nat.reduceEqDiff, eq_self]
            refine hK9 _ _ ?_
            refine gwp_prune [0, 4, 5, 6, 91] (Or.inr (by simp)) ?_
            simp only [prune, List.map_cons, List.map_nil, Go.AM.look, Nat.reduceEqDiff, reduceIte]
            refine gwp_block ?_
            refine gwp_sr rfl (by decide) rfl rfl fun K hK => ?_
            simp -dsimp [kvOf]
            refine hK _ _ ?_; clear hK K
            refine gwp_r rfl (by decide) rfl rfl fun K hK => ?_
            simp -dsimp
            refine callK_may _ (fun hm => c_has j op (I se) (I ph) on (I si) (lL ls) Sk (mp d) (mp p) ph y hf p0 p1) (by simp) ?_
            simp -dsimp
            refine hK _ _ ?_; clear hK K
            simp only [thenA, inBlockA, reduceIte, Nat.reduceEqDiff, eq_self]
            have hae := any_erase hy (fun y => !hasB j ph y)
            have hil := (List.getElem?_eq_some_iff.1 hy).1
            refine ⟨(left.eraseIdx i, some y, asb || !hasB j ph y), ?_, ?_, gsub (sub_rb [some 0, some 1] rfl (by simp) (by simp [kvOf])) (by simp)⟩
            · simp only; rw [← ix, hae]; cases asb <;> simp
            · simp only [List.length_eraseIdx, if_pos hil]; omega
          · skip
            skip
            simp at hc3
  · intro hdone
    simp only [thenA, inBlockA, reduceIte, Nat.reduceEqDiff, eq_self]
    refine hK1 _ _ ?_
    refine gwp_prune [0, 3] (Or.inr (by simp)) ?_
    simp only [prune, List.map_cons, List.map_nil, Go.AM.look, Nat.reduceEqDiff, reduceIte]
    refine gwp_seq_k fun K10 hK10 => ?_
    refine gwp_sr rfl (by decide) rfl rfl fun K hK => ?_
    simp -dsimp
    refine hK _ _ ?_; clear hK K
    refine gwp_cond rfl (fun hc0 => ?_) (fun hc0 => ?_)
    · skip
      skip
      refine gwp_sr rfl (by decide) rfl rfl fun K hK => ?_
      simp -dsimp
      refine hK _ _ ?_; clear hK K
      have hem : (candL j ph d).isEmpty = true := by
        have h0 : ((candL j ph d).map qAV).length = 0 := hdone
        rw [List.length_map] at h0
        rw [List.isEmpty_iff]; exact List.eq_nil_of_length_eq_zero h0
      exact gwp_ret (by simp [endsB, hem])
    · skip
      skip
      simp at hc0
end
end Go.Street
