/- Walks: the next phase. -/
import Derived.Test.YtmenlmioccciiaaZ6
namespace Go.Street
open Go.AM Go.Proofs
set_option maxRecDepth 10000
set_option maxHeartbeats 4000000
set_option linter.unusedVariables false
set_option linter.unusedSimpArgs false

@[simp] theorem at0_elem {l : List Int} {i : Int} (h : i.toNat < l.length) : l[i.toNat]'h = at0 l i := by simp [at0, h]

def firstQ (c : List Int) (f : Int → Bool) : Int := (c.find? f).getD (-1)
theorem firstQ_hit {c : List Int} {f : Int → Bool} {n : Nat} {q : Int} (hq : c[n]? = some q) (hf : f q = true) (hn : (c.take n).any f = false) : c.find? f = some q := by
  rw [List.find?_eq_some_iff_append]
  obtain ⟨hl, he⟩ := List.getElem?_eq_some_iff.1 hq
  refine ⟨hf, c.take n, c.drop (n + 1), ?_, ?_⟩
  · rw [← he, List.getElem_cons_drop, List.take_append_drop]
  · intro a ha
    rw [List.any_eq_false] at hn
    simpa using hn a ha
theorem firstQ_none {c : List Int} {f : Int → Bool} (h : c.any f = false) : c.find? f = none := by
  rw [List.find?_eq_none]
  intro x hx
  rw [List.any_eq_false] at h
  exact h x hx
theorem find_take {c : List Int} {f : Int → Bool} {n : Nat} {q : Int} (hq : c[n]? = some q) : (c.take (n + 1)).find? f = ((c.take n).find? f).or (if f q then some q else none) := by
  rw [List.take_add_one, hq, List.find?_append]
  congr 1
  simp only [Option.toList_some, List.find?]
  cases f q <;> rfl

theorem firstQ_step {C : List Int} {f : Int → Bool} {n : Nat} {q : Int} (hb : ∀ x ∈ C, 0 ≤ x) (hq : C[n]? = some q) : firstQ (C.take (n + 1)) f = if firstQ (C.take n) f < 0 ∧ f q = true then q else firstQ (C.take n) f := by
  unfold firstQ
  rw [find_take hq]
  cases h : (C.take n).find? f with
  | none =>
    simp only [Option.none_or, Option.getD_none]
    by_cases hf : f q = true
    · rw [if_pos hf, if_pos ⟨by omega, hf⟩]; rfl
    · rw [if_neg hf, if_neg (fun k => hf k.2)]; rfl
  | some y =>
    have := hb y (List.mem_of_mem_take (List.mem_of_find?_eq_some h))
    simp only [Option.some_or, Option.getD_some]
    rw [if_neg (by omega)]

def incr (sk : List Int) (q : Int) : List Int := sk.set q.toNat (at0 sk q + 1)
def incrs (sk : List Int) (l : List Int) : List Int := l.foldl incr sk
theorem incr_len (sk : List Int) (q : Int) : (incr sk q).length = sk.length := by simp [incr]
theorem incrs_len (sk : List Int) (l : List Int) : (incrs sk l).length = sk.length := by
  unfold incrs
  induction l generalizing sk with
  | nil => rfl
  | cons q l ih => rw [List.foldl_cons, ih, incr_len]
theorem incrs_snoc {sk c : List Int} {n : Nat} {q : Int} (h : c[n]? = some q) : incrs sk (c.take (n + 1)) = incr (incrs sk (c.take n)) q := by
  rw [List.take_add_one, h]; simp [incrs]
theorem at0_mem_bd {l : List Int} {A B : Int} (hA : A ≤ 0) (hB : 0 ≤ B) (h : ∀ x ∈ l, A ≤ x ∧ x ≤ B) (i : Int) : A ≤ at0 l i ∧ at0 l i ≤ B := by
  unfold at0
  cases hx : l[i.toNat]? with
  | none => exact ⟨hA, hB⟩
  | some x => exact h x (List.mem_of_getElem? hx)
theorem incr_bd {sk : List Int} {B : Int} (hB : 0 ≤ B) (h : ∀ x ∈ sk, 0 ≤ x ∧ x ≤ B) (q : Int) : ∀ x ∈ incr sk q, 0 ≤ x ∧ x ≤ B + 1 := by
  intro x hx
  have := at0_mem_bd (Int.le_refl 0) hB h q
  rcases List.mem_or_eq_of_mem_set hx with h1 | rfl
  · have := h x h1; omega
  · omega
theorem incrs_bd {B : Int} (l : List Int) : ∀ (sk : List Int) (B : Int), 0 ≤ B → (∀ x ∈ sk, 0 ≤ x ∧ x ≤ B) → ∀ x ∈ incrs sk l, 0 ≤ x ∧ x ≤ B + l.length := by
  unfold incrs
  induction l with
  | nil => intro sk B hB h x hx; have := h x hx; simp; omega
  | cons q l ih =>
    intro sk B hB h x hx
    have := ih (incr sk q) (B + 1) (by omega) (incr_bd hB h q) x hx
    simp only [List.length_cons]; omega

/-- The phase that is next, and how often phases have been skipped behind it. -/
def best1 (j : Jn) (ph : Int) (d sk : List Int) : Int := firstQ (candL j ph d) fun q => decide (j.Skips ≤ at0 sk q)
def best2 (j : Jn) (ph : Int) (d p sk : List Int) : Int := if best1 j ph d sk < 0 then firstQ (candL j ph d) fun q => someB j q ph p else best1 j ph d sk
def nextB (j : Jn) (ph : Int) (d p sk : List Int) : Int := if best2 j ph d p sk < 0 then (candL j ph d).headD 0 else best2 j ph d p sk
def nextK (j : Jn) (ph : Int) (d p sk : List Int) : List Int :=
  (incrs sk ((candL j ph d).takeWhile fun q => !decide (q = nextB j ph d p sk))).set (nextB j ph d p sk).toNat 0

theorem candTo_bd {j : Jn} {ph : Int} {d : List Int} (hp : 1 ≤ j.Phases.length) : ∀ k, ∀ q ∈ candTo j ph d k, 0 ≤ q ∧ q < j.Phases.length
  | 0, q, h => by simp [candTo] at h
  | k + 1, q, h => by
    simp only [candTo, List.mem_append] at h
    rcases h with h | h
    · exact candTo_bd hp k q h
    · split at h
      · simp only [List.mem_singleton] at h; subst h; exact candQ_bd hp
      · simp at h
theorem candL_bd {j : Jn} {ph : Int} {d : List Int} (hp : 1 ≤ j.Phases.length) : ∀ q ∈ candL j ph d, 0 ≤ q ∧ q < j.Phases.length := candTo_bd hp _
theorem find_mem {c : List Int} {f : Int → Bool} : firstQ c f = -1 ∨ firstQ c f ∈ c := by
  unfold firstQ
  cases h : c.find? f with
  | none => exact Or.inl rfl
  | some q => exact Or.inr (List.mem_of_find?_eq_some h)
theorem nextB_mem {j : Jn} {ph : Int} {d p sk : List Int} (hne : candL j ph d ≠ []) : nextB j ph d p sk ∈ candL j ph d := by
  have h1 := find_mem (c := candL j ph d) (f := fun q => decide (j.Skips ≤ at0 sk q))
  have h2 := find_mem (c := candL j ph d) (f := fun q => someB j q ph p)
  have h3 : best2 j ph d p sk < 0 ∨ best2 j ph d p sk ∈ candL j ph d := by
    unfold best2 best1
    split
    · rcases h2 with h | h
      · rw [h]; exact Or.inl (by omega)
      · exact Or.inr h
    · rename_i h; exact Or.inr (h1.resolve_left (fun e => h (by rw [e]; omega)))
  unfold nextB
  split
  · cases hc : candL j ph d with
    | nil => exact absurd hc hne
    | cons q l => simp
  · rename_i h; exact h3.resolve_left h
theorem takeWhile_take {c : List Int} {b : Int} {n : Nat} (hn : c[n]? = some b) (h : ∀ m, m < n → c[m]? ≠ some b) : c.takeWhile (fun q => !decide (q = b)) = c.take n := by
  induction c generalizing n with
  | nil => simp at hn
  | cons x c ih =>
    cases n with
    | zero => simp at hn; subst hn; simp
    | succ n =>
      have hx : x ≠ b := fun e => h 0 (by omega) (by simp [e])
      rw [List.takeWhile_cons, if_pos (by simp [hx]), List.take_succ_cons, ih (by simpa using hn) (fun m hm => by have := h (m + 1) (by omega); simpa using this)]

theorem m_next (j : Jn) (se ph si : Int) (on : Bool) (ls : List Lt) (d p sk : List Int) (hf : Fit j) (ho : JOk j) (hk : sk.length = j.Phases.length) (hkb : ∀ x ∈ sk, 0 ≤ x ∧ x ≤ 1000000) (p0 : 0 ≤ ph) (p1 : ph < j.Phases.length) (hne : candL j ph d ≠ []) :
    MutCall Try.prog 94 [.vptr (sC j (Bo true) (I se) (I ph) (Bo on) (I si) (lL ls) (.row 0 0 sk.length) (mp d) (mp p))] [some (.els 1 (sk.map nCell))] [] (I (nextB j ph d p sk)) [some (.els 1 ((nextK j ph d p sk).map nCell))] [] := by
  have hcd := c_candidates j (Bo true) (I se) (I ph) (Bo on) (I si) (lL ls) .any (mp d) (mp p) ph
  have hci := c_cand1 j (Bo true) (I se) (I ph) (Bo on) (I si) (lL ls) .any (mp p) ph d hf p0 p1
  have hur := fun q q0 q1 => c_urges j (Bo true) (I se) (I ph) (Bo on) (I si) (lL ls) .any (mp d) q ph p hf q0 q1 p0 p1
  have hcb := candL_bd (j := j) (ph := ph) (d := d) (by omega)
  have hcl : (candL j ph d).length ≤ 14 := by have := candTo_len j ph d (j.Phases.length - 1); have := hf.p; unfold candL; omega
  have hs1 := ho.s1; have hs2 := ho.s2
  have wm1 : IntKind.i64.wrap (-1) = -1 := wrap_in (by omega) (by omega)
  obtain ⟨C, hC⟩ : ∃ C, candL j ph d = C := ⟨_, rfl⟩
  have hget : ∀ {l : List Int} {q : Int}, l.length = j.Phases.length → q ∈ C → l[q.toNat]? = some (at0 l q) := fun hl hq => by
    have := hcb _ (hC ▸ hq); exact at0_get this.1 (by omega)
  have hb3m := nextB_mem (p := p) (sk := sk) hne
  have hb1 : best1 j ph d sk = firstQ C fun q => decide (j.Skips ≤ at0 sk q) := by rw [← hC]; rfl
  have hb2 : best2 j ph d p sk = if best1 j ph d sk < 0 then firstQ C (fun q => someB j q ph p) else best1 j ph d sk := by rw [← hC]; rfl
  have hb3 : nextB j ph d p sk = if best2 j ph d p sk < 0 then C.headD 0 else best2 j ph d p sk := by rw [← hC]; rfl
  have hkf : nextK j ph d p sk = (incrs sk (C.takeWhile fun q => !decide (q = nextB j ph d p sk))).set (nextB j ph d p sk).toNat 0 := by rw [← hC]; rfl
  rw [hC] at hci hcb hcl hb3m
  rw [hkf]
  clear hkf hC hne
  generalize nextB j ph d p sk = b3 at hb3 hb3m ⊢
  generalize best2 j ph d p sk = b2 at hb2 hb3
  generalize best1 j ph d sk = b1 at hb1 hb2
  have hb30 := (hcb b3 hb3m).1
  have hsk1 : 1 ≤ sk.length := by have := ho.p1; omega
  have hb3l := (hcb b3 hb3m).2
  have hb3k : b3 < (sk.length : Int) := by omega
  have hb1m : b1 = -1 ∨ 0 ≤ b1 := by
    rcases find_mem (c := C) (f := fun q => decide (j.Skips ≤ at0 sk q)) with h | h
    · left; rw [hb1]; exact h
    · right; rw [hb1]; exact (hcb _ h).1
  obtain ⟨cu, hcu⟩ : ∃ cu : Nat → Int, ∀ n, cu n = (if b1 < 0 then firstQ (C.take n) (fun q => someB j q ph p) else b1) := ⟨_, fun _ => rfl⟩
  have hcu0 : cu 0 = b1 := by
    rw [hcu]
    split
    · rename_i h
      have : b1 = -1 := by omega
      rw [this]; rfl
    · rfl
  have hcuN : cu C.length = b2 := by rw [hcu, hb2, List.take_length]
  have hcuS : ∀ n q, C[n]? = some q → cu (n + 1) = if (decide (cu n < 0) && someB j q ph p) = true then q else cu n := by
    intro n q hq
    have hst := firstQ_step (f := fun q => someB j q ph p) (fun x hx => (hcb x hx).1) hq
    rw [hcu (n + 1), hcu n]
    by_cases hb : b1 < 0
    · simp only [if_pos hb, hst, Bool.and_eq_true, decide_eq_true_eq]
    · simp only [if_neg hb, hb, decide_false, Bool.false_and, Bool.false_eq_true, if_false]
  obtain ⟨vv, hvv⟩ : ∃ vv : Nat → Int, ∀ n, vv n = (if n = 0 then b2 else b3) := ⟨_, fun _ => rfl⟩
  have hvv0 : vv 0 = b2 := by rw [hvv]; rfl
  have hvvS : ∀ n, vv (n + 1) = b3 := fun n => by rw [hvv]; simp
  have hvv1 : ∀ n q, C[n]? = some q → vv n < 0 → q = b3 := by
    intro n q hq h
    rw [hvv] at h
    split at h
    · rename_i e
      subst e
      rw [hb3, if_pos h]
      cases C with
      | nil => simp at hq
      | cons x C => simpa using hq.symm
    · omega
  have hvv2 : ∀ n, ¬ vv n < 0 → vv n = b3 := by
    intro n h
    rw [hvv] at h ⊢
    split
    · rename_i e; rw [if_pos e] at h; rw [hb3, if_neg h]
    · rfl
  refine MutCall.of_bodyG [0] Try.func94 rfl (by decide) (by simp [Try.ntmps94]) rfl rfl ?_
  intro J hJ
  simp only [Try.ntmps94, Try.results94]
  refine gwp_sr rfl (by decide) rfl rfl fun K hK => ?_
  simp -dsimp
  refine hK _ _ ?_; clear hK K
  refine gwp_sr rfl (by decide) rfl rfl fun K hK => ?_
  simp -dsimp
  refine hK _ _ ?_; clear hK K
  refine gwp_seq_j [0, 1, 3] [] [some (.els 1 (sk.map nCell)), some (.els 1 [[.vptr (sC j (Bo true) (I se) (I ph) (Bo on) (I si) (lL ls) (.row 0 0 sk.length) (mp d) (mp p))]]), some (.els 1 [[I b1]])] ?_ ?_
  · skip
    refine gwp_sd mixed rfl (by decide) rfl rfl fun K hK => ?_
    simp -dsimp
    refine callK_bare _ (fun hm => hcd) ?_
    simp -dsimp
    refine hK _ _ _ (by decide +kernel) ?_; clear hK K
    refine gwp_block ?_
    refine gwp_prune [0, 1, 3, 12] (Or.inr (by simp)) ?_
    simp only [prune, List.map_cons, List.map_nil, Go.AM.look, Nat.reduceEqDiff, reduceIte]
    refine gwp_range_s hJ [0, 1, 3, 12] (fun n => [some (.els 1 (sk.map nCell)), some (.els 1 [[.vptr (sC j (Bo true) (I se) (I ph) (Bo on) (I si) (lL ls) (.row 0 0 sk.length) (mp d) (mp p))]]), some (.els 1 [[I (-1)]])]) (fun n => (C.take n).any (fun q => decide (j.Skips ≤ at0 sk q)) = false) rfl (hci) rfl (by simp) (by decide) (by decide) (by decide) (qAV_len _) ?_ ?_ ?_ ?_
    · rfl
    · exact sub_rb [some 0, some 1, some 2] rfl (by simp) (by simp)
    · intro n xv hxn hi l1 J1 hJ1
      obtain ⟨q, hq, rfl⟩ : ∃ q, C[n]? = some q ∧ [I q] = xv := by simpa [qAV] using hxn
      have hqm := List.mem_of_getElem? hq
      have hqb := hcb q hqm
      have gk := hget hk hqm
      have hqk : q < (sk.length : Int) := by omega
      simp only [List.zip_cons_cons, List.zip_nil_left, List.zip_nil_right, List.cons_append, List.nil_append]
      refine gwp_r rfl (by decide) rfl rfl fun K hK => ?_
      simp -dsimp
      refine hK _ _ ?_; clear hK K
      simp only [onlyN]
      intro J2 hJ2
      refine gwp_prune [0, 1, 3, 4, 12] (Or.inr (by simp)) ?_
      simp only [prune, List.map_cons, List.map_nil, Go.AM.look, Nat.reduceEqDiff, reduceIte]
      refine gwp_block ?_
      refine gwp_sd mixed rfl (by decide) rfl rfl fun K hK => ?_
      simp -dsimp [gk, hqb.1, hqk]
      refine hK _ _ _ (by decide +kernel) ?_; clear hK K
      refine gwp_cond rfl (fun hc0 => ?_) (fun hc0 => ?_)
      · skip
        skip
        refine gwp_sr rfl (by decide) rfl rfl fun K hK => ?_
        simp -dsimp
        refine hK _ _ ?_; clear hK K
        refine gwp_exit ?_
        simp only [thenA, inBlockA, roundQ, reduceIte, Nat.reduceEqDiff, eq_self]
        have e1 : b1 = q := by rw [hb1]; unfold firstQ; rw [firstQ_hit hq hc0 hi]; rfl
        refine ⟨[some (.els 1 (sk.map nCell)), some (.els 1 [[.vptr (sC j (Bo true) (I se) (I ph) (Bo on) (I si) (lL ls) (.row 0 0 sk.length) (mp d) (mp p))]]), some (.els 1 [[I b1]])], sub_rb [some 0, some 1, some 2] rfl (by simp) (by simp [e1]), ?_⟩
        try simp only [thenA, inBlockA, reduceIte, Nat.reduceEqDiff, eq_self]
        exact gsub (sub_rb [some 0, some 1, some 2] rfl (by simp) (by simp)) (by simp)
      · skip
        skip
        refine gwp_skip ?_
        simp only [thenA, inBlockA, roundQ, reduceIte, Nat.reduceEqDiff, eq_self]
        exact ⟨by rw [any_take hq, hi, hc0]; rfl, sub_rb [some 0, some 1, some 2] rfl (by simp) (by simp)⟩
    · intro hdone
      simp only [thenA, inBlockA, reduceIte, Nat.reduceEqDiff, eq_self]
      have e1 : b1 = -1 := by
        have hd : (C.take (C.map qAV).length).any (fun q => decide (j.Skips ≤ at0 sk q)) = false := hdone
        rw [hb1]; unfold firstQ; rw [firstQ_none (any_of_take (by simp) hd)]; rfl
      exact gsub (sub_rb [some 0, some 1, some 2] rfl (by simp) (by simp [e1])) (by simp)
  refine gwp_seq_j [0, 1, 3] [] [some (.els 1 (sk.map nCell)), some (.els 1 [[.vptr (sC j (Bo true) (I se) (I ph) (Bo on) (I si) (lL ls) (.row 0 0 sk.length) (mp d) (mp p))]]), some (.els 1 [[I b2]])] ?_ ?_
  · skip
    refine gwp_sd mixed rfl (by decide) rfl rfl fun K hK => ?_
    simp -dsimp
    refine callK_bare _ (fun hm => hcd) ?_
    simp -dsimp
    refine hK _ _ _ (by decide +kernel) ?_; clear hK K
    refine gwp_block ?_
    refine gwp_prune [0, 1, 3, 34] (Or.inr (by simp)) ?_
    simp only [prune, List.map_cons, List.map_nil, Go.AM.look, Nat.reduceEqDiff, reduceIte]
    refine gwp_range_s hJ [0, 1, 3, 34] (fun n => [some (.els 1 (sk.map nCell)), some (.els 1 [[.vptr (sC j (Bo true) (I se) (I ph) (Bo on) (I si) (lL ls) (.row 0 0 sk.length) (mp d) (mp p))]]), some (.els 1 [[I (cu n)]])]) (fun n => n ≤ C.length) rfl (hci) rfl (by simp) (by decide) (by decide) (by decide) (qAV_len _) ?_ ?_ ?_ ?_
    · exact Nat.zero_le _
    · exact sub_rb [some 0, some 1, some 2] rfl (by simp) (by simp [hcu0])
    · intro n xv hxn hi l1 J1 hJ1
      obtain ⟨q, hq, rfl⟩ : ∃ q, C[n]? = some q ∧ [I q] = xv := by simpa [qAV] using hxn
      have hqm := List.mem_of_getElem? hq
      have hqb := hcb q hqm
      have hnl := (List.getElem?_eq_some_iff.1 hq).1
      have hst := hcuS n q hq
      generalize cu n = cn at hst ⊢
      simp only [List.zip_cons_cons, List.zip_nil_left, List.zip_nil_right, List.cons_append, List.nil_append]
      refine gwp_r rfl (by decide) rfl rfl fun K hK => ?_
      simp -dsimp
      refine hK _ _ ?_; clear hK K
      simp only [onlyN]
      intro J2 hJ2
      refine gwp_prune [0, 1, 3, 5, 34] (Or.inr (by simp)) ?_
      simp only [prune, List.map_cons, List.map_nil, Go.AM.look, Nat.reduceEqDiff, reduceIte]
      refine gwp_block ?_
      refine gwp_sd mixed rfl (by decide) rfl rfl fun K hK => ?_
      simp -dsimp
      refine callK_bare _ (fun hm => hur q hqb.1 hqb.2) ?_
      simp -dsimp
      refine hK _ _ _ (by decide +kernel) ?_; clear hK K
      refine gwp_cond rfl (fun hc1 => ?_) (fun hc1 => ?_)
      · skip
        skip
        refine gwp_r rfl (by decide) rfl rfl fun K hK => ?_
        simp -dsimp
        refine hK _ _ ?_; clear hK K
        simp only [thenA, inBlockA, roundQ, reduceIte, Nat.reduceEqDiff, eq_self]
        rw [hc1, if_pos rfl] at hst
        exact ⟨hnl, sub_rb [some 0, some 1, some 2] rfl (by simp) (by simp [hst])⟩
      · skip
        skip
        refine gwp_skip ?_
        simp only [thenA, inBlockA, roundQ, reduceIte, Nat.reduceEqDiff, eq_self]
        rw [hc1, if_neg (by simp)] at hst
        exact ⟨hnl, sub_rb [some 0, some 1, some 2] rfl (by simp) (by simp [hst])⟩
    · intro hdone
      simp only [thenA, inBlockA, reduceIte, Nat.reduceEqDiff, eq_self]
      exact gsub (sub_rb [some 0, some 1, some 2] rfl (by simp) (by simp [hcuN])) (by simp)
  refine gwp_seq_j [0, 1, 3] [] [some (.els 1 ((incrs sk (C.takeWhile fun q => !decide (q = b3))).map nCell)), some (.els 1 [[.vptr (sC j (Bo true) (I se) (I ph) (Bo on) (I si) (lL ls) (.row 0 0 sk.length) (mp d) (mp p))]]), some (.els 1 [[I b3]])] ?_ ?_
  · skip
    refine gwp_sd mixed rfl (by decide) rfl rfl fun K hK => ?_
    simp -dsimp
    refine callK_bare _ (fun hm => hcd) ?_
    simp -dsimp
    refine hK _ _ _ (by decide +kernel) ?_; clear hK K
    refine gwp_block ?_
    refine gwp_prune [0, 1, 3, 53] (Or.inr (by simp)) ?_
    simp only [prune, List.map_cons, List.map_nil, Go.AM.look, Nat.reduceEqDiff, reduceIte]
    refine gwp_range_s hJ [0, 1, 3, 53] (fun n => [some (.els 1 ((incrs sk (C.take n)).map nCell)), some (.els 1 [[.vptr (sC j (Bo true) (I se) (I ph) (Bo on) (I si) (lL ls) (.row 0 0 sk.length) (mp d) (mp p))]]), some (.els 1 [[I (vv n)]])]) (fun n => ∀ m, m < n → C[m]? ≠ some b3) rfl (hci) rfl (by simp) (by decide) (by decide) (by decide) (qAV_len _) ?_ ?_ ?_ ?_
    · exact fun m hm => by omega
    · exact sub_rb [some 0, some 1, some 2] rfl (by simp) (by simp [incrs, hvv0])
    · intro n xv hxn hi l1 J1 hJ1
      obtain ⟨q, hq, rfl⟩ : ∃ q, C[n]? = some q ∧ [I q] = xv := by simpa [qAV] using hxn
      have hqm := List.mem_of_getElem? hq
      have hqb := hcb q hqm
      have hnl := (List.getElem?_eq_some_iff.1 hq).1
      have hil := incrs_len sk (C.take n)
      have hib := incrs_bd (B := 0) (C.take n) sk 1000000 (by omega) hkb
      have hsn := incrs_snoc (sk := sk) hq
      have hv1 := hvv1 n q hq
      have hv2 := hvv2 n
      have hv3 := hvvS n
      generalize vv n = v at hv1 hv2 ⊢
      generalize hL : incrs sk (C.take n) = L at hil hib hsn ⊢
      have gL := hget (l := L) (by omega) hqm
      have hLb := hib _ (List.mem_of_getElem? gL)
      have hnl14 : (C.take n).length ≤ 14 := by rw [List.length_take]; omega
      have wL : IntKind.i64.wrap (at0 L q + 1) = at0 L q + 1 := wrap_in (by omega) (by omega)
      have hqk : q < (sk.length : Int) := by omega
      simp only [List.zip_cons_cons, List.zip_nil_left, List.zip_nil_right, List.cons_append, List.nil_append]
      refine gwp_r rfl (by decide) rfl rfl fun K hK => ?_
      simp -dsimp
      refine hK _ _ ?_; clear hK K
      simp only [onlyN]
      intro J2 hJ2
      refine gwp_prune [0, 1, 3, 6, 53] (Or.inr (by simp)) ?_
      simp only [prune, List.map_cons, List.map_nil, Go.AM.look, Nat.reduceEqDiff, reduceIte]
      refine gwp_block ?_
      refine gwp_seq_k fun K1 hK1 => ?_
      refine gwp_sr rfl (by decide) rfl rfl fun K hK => ?_
      simp -dsimp
      refine hK _ _ ?_; clear hK K
      refine gwp_cond rfl (fun hc2 => ?_) (fun hc2 => ?_)
      · skip
        skip
        have hqe := hv1 (by simpa using hc2)
        refine gwp_r rfl (by decide) rfl rfl fun K hK => ?_
        simp -dsimp
        refine hK _ _ ?_; clear hK K
        simp only [thenA, inBlockA, reduceIte, Nat.reduceEqDiff, eq_self]
        refine hK1 _ _ ?_
        refine gwp_prune [0, 1, 3, 6, 53] (Or.inr (by simp)) ?_
        simp only [prune, List.map_cons, List.map_nil, Go.AM.look, Nat.reduceEqDiff, reduceIte]
        refine gwp_seq_k fun K2 hK2 => ?_
        refine gwp_sr rfl (by decide) rfl rfl fun K hK => ?_
        simp -dsimp
        refine hK _ _ ?_; clear hK K
        refine gwp_cond rfl (fun hc3 => ?_) (fun hc3 => ?_)
        · skip
          skip
          refine gwp_exit ?_
          simp only [thenA, inBlockA, roundQ, reduceIte, Nat.reduceEqDiff, eq_self]
          have hte : incrs sk (C.takeWhile fun q => !decide (q = b3)) = incrs sk (C.take n) := by rw [takeWhile_take (hqe ▸ hq) hi]
          refine ⟨[some (.els 1 ((incrs sk (C.takeWhile fun q => !decide (q = b3))).map nCell)), some (.els 1 [[.vptr (sC j (Bo true) (I se) (I ph) (Bo on) (I si) (lL ls) (.row 0 0 sk.length) (mp d) (mp p))]]), some (.els 1 [[I b3]])], sub_rb [some 0, some 1, some 2] rfl (by simp) (by simp [hte, hL, hqe]), ?_⟩
          try simp only [thenA, inBlockA, reduceIte, Nat.reduceEqDiff, eq_self]
          exact gsub (sub_rb [some 0, some 1, some 2] rfl (by simp) (by simp)) (by simp)
        · skip
          skip
          simp at hc3
      · skip
        skip
        have hve := hv2 (by simpa using hc2)
        refine gwp_skip ?_
        simp only [thenA, inBlockA, reduceIte, Nat.reduceEqDiff, eq_self]
        refine hK1 _ _ ?_
        refine gwp_prune [0, 1, 3, 6, 53] (Or.inr (by simp)) ?_
        simp only [prune, List.map_cons, List.map_nil, Go.AM.look, Nat.reduceEqDiff, reduceIte]
        refine gwp_seq_k fun K3 hK3 => ?_
        refine gwp_sr rfl (by decide) rfl rfl fun K hK => ?_
        simp -dsimp
        refine hK _ _ ?_; clear hK K
        refine gwp_cond rfl (fun hc3 => ?_) (fun hc3 => ?_)
        · skip
          skip
          refine gwp_exit ?_
          simp only [thenA, inBlockA, roundQ, reduceIte, Nat.reduceEqDiff, eq_self]
          have hqv : q = v := by simpa using hc3
          have hqe : q = b3 := hqv.trans hve
          have hte : incrs sk (C.takeWhile fun q => !decide (q = b3)) = incrs sk (C.take n) := by rw [takeWhile_take (hqe ▸ hq) hi]
          refine ⟨[some (.els 1 ((incrs sk (C.takeWhile fun q => !decide (q = b3))).map nCell)), some (.els 1 [[.vptr (sC j (Bo true) (I se) (I ph) (Bo on) (I si) (lL ls) (.row 0 0 sk.length) (mp d) (mp p))]]), some (.els 1 [[I b3]])], sub_rb [some 0, some 1, some 2] rfl (by simp) (by simp [hte, hL, hve]), ?_⟩
          try simp only [thenA, inBlockA, reduceIte, Nat.reduceEqDiff, eq_self]
          exact gsub (sub_rb [some 0, some 1, some 2] rfl (by simp) (by simp)) (by simp)
        · skip
          skip
          refine gwp_skip ?_
          simp only [thenA, inBlockA, reduceIte, Nat.reduceEqDiff, eq_self]
          refine hK3 _ _ ?_
          refine gwp_prune [0, 1, 3, 6, 53] (Or.inr (by simp)) ?_
          simp only [prune, List.map_cons, List.map_nil, Go.AM.look, Nat.reduceEqDiff, reduceIte]
          refine gwp_r rfl (by decide) rfl rfl fun K hK => ?_
          simp -dsimp [gL, hqb.1, wL, hqk]
          refine hK _ _ ?_; clear hK K
          simp only [thenA, inBlockA, roundQ, reduceIte, Nat.reduceEqDiff, eq_self]
          have hqv : ¬ q = v := by simpa using hc3
          refine ⟨fun m hm => ?_, sub_rb [some 0, some 1, some 2] rfl (by simp) (by simp [hsn, incr, hve, hv3, List.map_set])⟩
          rcases Nat.lt_succ_iff_lt_or_eq.1 hm with h | rfl
          · exact hi m h
          · rw [hq]; intro e; apply hqv; rw [hve]; simpa using e
    · intro hdone
      obtain ⟨m, hm⟩ := List.getElem?_of_mem hb3m
      exact absurd hm (hdone m (by rw [List.length_map]; exact (List.getElem?_eq_some_iff.1 hm).1))
  refine gwp_sd mixed rfl (by decide) rfl rfl fun K hK => ?_
  simp -dsimp [hb30, hb3k, incrs_len]
  refine hK _ _ _ (by decide +kernel) ?_; clear hK K
  refine gwp_sr rfl (by decide) rfl rfl fun K hK => ?_
  simp -dsimp
  refine hK _ _ ?_; clear hK K
  exact gwp_ret ⟨[some 0], rfl, by simp, by simp [List.map_set], by simp [hsk1], by simp [resP, tupOf]⟩
end Go.Street
