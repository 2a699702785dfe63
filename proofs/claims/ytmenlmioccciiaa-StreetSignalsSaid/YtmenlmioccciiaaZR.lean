/- Walks: the specification's signal: the next phase, a second. -/
import Derived.Test.YtmenlmioccciiaaZQ
namespace Go.Street
open Go.AM Go.Proofs
set_option maxRecDepth 10000
set_option maxHeartbeats 8000000
set_option linter.unusedVariables false
set_option linter.unusedSimpArgs false

theorem firstI_at {α : Type} {c : List α} {f : α → Bool} : firstI c f = -1 ∧ c.find? f = none ∨ ∃ i : Nat, firstI c f = i ∧ i < c.length ∧ c[i]? = c.find? f := by
  unfold firstI
  cases h : c.findIdx? f with
  | none =>
    left
    refine ⟨rfl, ?_⟩
    rw [List.findIdx?_eq_none_iff] at h
    rw [List.find?_eq_none]
    intro x hx; rw [h x hx]; simp
  | some i =>
    right
    rw [List.findIdx?_eq_some_iff_getElem] at h
    obtain ⟨h1, h2, h3⟩ := h
    refine ⟨i, rfl, h1, ?_⟩
    rw [List.getElem?_eq_getElem h1, eq_comm, List.find?_eq_some_iff_append]
    refine ⟨h2, c.take i, c.drop (i + 1), ?_, fun a ha => ?_⟩
    · rw [List.getElem_cons_drop, List.take_append_drop]
    · obtain ⟨k, hk⟩ := List.getElem?_of_mem ha
      have hk1 := (List.getElem?_eq_some_iff.1 hk).1
      rw [List.length_take] at hk1
      rw [List.getElem?_take, if_pos (by omega)] at hk
      obtain ⟨q1, q2⟩ := List.getElem?_eq_some_iff.1 hk
      have := h3 k (by omega)
      rw [q2] at this
      simpa using this
theorem firstI_cons {α : Type} {x : α} {c : List α} {f : α → Bool} : firstI (x :: c) f = if f x then 0 else if firstI c f < 0 then -1 else firstI c f + 1 := by
  unfold firstI
  rw [List.findIdx?_cons]
  cases f x with
  | true => rfl
  | false =>
    cases c.findIdx? f with
    | none => rfl
    | some i =>
      simp only [Bool.false_eq_true, if_false, Option.map_some]
      rw [if_neg (by omega)]; rfl

/-- Where the next phase is among the candidates. -/
def at1 (j : Jn) (ph : Int) (d sk : List Int) : Int := firstI (candL j ph d) fun q => decide (j.Skips ≤ at0 sk q)
def at2 (j : Jn) (ph : Int) (d p sk : List Int) : Int := if at1 j ph d sk < 0 then firstI (candL j ph d) (fun q => someB j q ph p) else at1 j ph d sk
def at3 (j : Jn) (ph : Int) (d p sk : List Int) : Nat := (maxI (at2 j ph d p sk) 0).toNat
theorem at3_next {j : Jn} {ph : Int} {d p sk : List Int} (h1 : 1 ≤ j.Phases.length) (hne : candL j ph d ≠ []) :
    (candL j ph d)[at3 j ph d p sk]? = some (nextB j ph d p sk) ∧ nextK j ph d p sk = (incrs sk ((candL j ph d).take (at3 j ph d p sk))).set (nextB j ph d p sk).toNat 0 := by
  have hbd := candL_bd (j := j) (ph := ph) (d := d) h1
  have key : (candL j ph d)[at3 j ph d p sk]? = some (nextB j ph d p sk) := by
    unfold nextB best2 best1 firstQ at3 at2 at1
    generalize candL j ph d = c at hne hbd ⊢
    have nn : ∀ {f : Int → Bool} {i : Nat}, c[i]? = c.find? f → i < c.length → ∃ q, c.find? f = some q ∧ c[i]? = some q ∧ 0 ≤ q := by
      intro f i h hi
      have : c[i]? = some c[i] := List.getElem?_eq_getElem hi
      exact ⟨c[i], by rw [← h, this], this, (hbd _ (List.getElem_mem hi)).1⟩
    rcases firstI_at (c := c) (f := fun q => decide (j.Skips ≤ at0 sk q)) with ⟨e1, e2⟩ | ⟨i, e1, e2, e3⟩
    · rw [e1, e2]
      simp only [Option.getD_none, show ((-1 : Int) < 0) = True by simp, if_true]
      rcases firstI_at (c := c) (f := fun q => someB j q ph p) with ⟨g1, g2⟩ | ⟨i, g1, g2, g3⟩
      · rw [g1, g2]
        cases c with
        | nil => exact absurd rfl hne
        | cons x c => rfl
      · obtain ⟨q, q1, q2, q3⟩ := nn g3 g2
        rw [g1, q1]
        have : maxI (i : Int) 0 = i := by unfold maxI; split <;> omega
        rw [this, Option.getD_some, if_neg (by omega)]
        simpa using q2
    · obtain ⟨q, q1, q2, q3⟩ := nn e3 e2
      rw [e1, q1]
      have : maxI (i : Int) 0 = i := by unfold maxI; split <;> omega
      rw [if_neg (by omega), this, Option.getD_some, if_neg (by omega), if_neg (by omega)]
      simpa using q2
  refine ⟨key, ?_⟩
  unfold nextK
  rw [takeWhile_take key]
  intro m hm e
  have := (List.getElem?_inj (l := candL j ph d) (i := m) (j := at3 j ph d p sk) (by have := (List.getElem?_eq_some_iff.1 key).1; omega) (candL_nodup h1)).1 (by rw [e, key])
  omega

theorem at_drop {c : List Int} {m : Nat} {x : Int} (h : c[m]? = some x) : c.drop m = x :: c.drop (m + 1) := by
  obtain ⟨h1, h2⟩ := List.getElem?_eq_some_iff.1 h
  rw [List.drop_eq_getElem_cons h1, h2]
/-- The first place from a place on. -/
def fromI (c : List Int) (f : Int → Bool) (m : Nat) : Int := if firstI (c.drop m) f < 0 then -1 else m + firstI (c.drop m) f
theorem fromI_step {c : List Int} {f : Int → Bool} {m : Nat} {x : Int} (h : c[m]? = some x) : fromI c f m = if f x then (m : Int) else fromI c f (m + 1) := by
  unfold fromI
  rw [at_drop h, firstI_cons]
  cases hf : f x with
  | true => simp
  | false =>
    simp only [Bool.false_eq_true, if_false]
    by_cases hq : firstI (List.drop (m + 1) c) f < 0
    · simp [hq]
    · rw [if_neg hq, if_neg hq, if_neg (by omega)]; push_cast; omega
theorem fromI_0 {c : List Int} {f : Int → Bool} : fromI c f 0 = firstI c f := by
  unfold fromI
  rcases firstI_at (c := c) (f := f) with ⟨e, _⟩ | ⟨i, e, _⟩
  · simp [e]
  · rw [List.drop_zero, e, if_neg (by omega)]; simp
theorem fromI_end {c : List Int} {f : Int → Bool} : fromI c f c.length = -1 := by
  unfold fromI
  rw [List.drop_of_length_le (Nat.le_refl _)]; rfl

theorem m_rnext (j : Jn) (se ph si : Int) (on : Bool) (ls : List Lt) (d p sk : List Int) (hf : Fit j) (ho : JOk j) (hk : sk.length = j.Phases.length) (hkb : ∀ x ∈ sk, 0 ≤ x ∧ x ≤ 1000000) (p0 : 0 ≤ ph) (p1 : ph < j.Phases.length) (hne : candL j ph d ≠ []) (hd : d.length ≤ 1000) (hp : p.length ≤ 1000) :
    MutCall Try.prog 61 [.vptr (rC j (I se) (I ph) (Bo on) (I si) (lL ls) (.row 0 0 sk.length)), iL d, iL p] [kRow sk] [] (I (nextB j ph d p sk)) [kRow (nextK j ph d p sk)] [] := by
  have hcd := fun S => c_rcand j (I se) (Bo on) (I si) (lL ls) S ph d hf p0 p1 hd
  have hby := fun S q q0 q1 => c_beyond j (I se) (I ph) (Bo on) (I si) (lL ls) S q ph p hf q0 q1 p0 p1 hp
  have hcb := candL_bd (j := j) (ph := ph) (d := d) (by omega)
  have hcl : (candL j ph d).length ≤ 14 := by have := candTo_len j ph d (j.Phases.length - 1); have := hf.p; unfold candL; omega
  have hs1 := ho.s1; have hs2 := ho.s2
  have wm1 : IntKind.i64.wrap (-1) = -1 := wrap_in (by omega) (by omega)
  obtain ⟨hb3, hkf⟩ := at3_next (p := p) (sk := sk) (by omega) hne
  rw [hkf]
  have hb3m := nextB_mem (p := p) (sk := sk) hne
  have ha3 : ((at3 j ph d p sk : Nat) : Int) = maxI (at2 j ph d p sk) 0 := by unfold at3; rw [Int.toNat_of_nonneg]; unfold maxI; split <;> omega
  have ha2 : at2 j ph d p sk = if at1 j ph d sk < 0 then firstI (candL j ph d) (fun q => someB j q ph p) else at1 j ph d sk := rfl
  have ha1 : at1 j ph d sk = fromI (candL j ph d) (fun q => decide (j.Skips ≤ at0 sk q)) 0 := fromI_0.symm
  have hfe := fromI_end (c := candL j ph d) (f := fun q => decide (j.Skips ≤ at0 sk q))
  have hfs := fun m x => fromI_step (c := candL j ph d) (f := fun q => decide (j.Skips ≤ at0 sk q)) (m := m) (x := x)
  generalize at3 j ph d p sk = A3 at hb3 hkf ha3 ⊢
  generalize at2 j ph d p sk = A2 at ha3 ha2
  generalize at1 j ph d sk = A1 at ha2 ha1
  generalize nextB j ph d p sk = b3 at hb3 hb3m hkf ⊢
  generalize candL j ph d = C at hcd hcb hcl hne hb3 hb3m hkf ha1 ha2 hfe hfs ⊢
  have hA3 : A3 < C.length := (List.getElem?_eq_some_iff.1 hb3).1
  have hget : ∀ {l : List Int} {q : Int}, l.length = j.Phases.length → q ∈ C → l[q.toNat]? = some (at0 l q) := fun hl hq => by
    have := hcb _ hq; exact at0_get this.1 (by omega)
  have hb30 := hcb b3 hb3m
  have wl : IntKind.i64.wrap ((C.length : Int) - 1) = (C.length : Int) - 1 := wrap_in (by omega) (by omega)
  have tk : List.take sk.length (sk.map nCell) = sk.map nCell := List.take_of_length_le (by simp)
  refine MutCall.of_bodyG [0] Try.func61 rfl (by decide) (by simp [Try.ntmps61]) rfl rfl ?_
  intro J hJ
  simp only [Try.ntmps61, Try.results61]
  refine gwp_sr rfl (by decide) rfl rfl fun K hK => ?_
  simp -dsimp
  refine hK _ _ ?_; clear hK K
  refine gwp_sr rfl (by decide) rfl rfl fun K hK => ?_
  simp -dsimp [tk]
  refine callK_bare _ (fun hm => hcd _) ?_
  simp -dsimp [tk]
  refine hK _ _ ?_; clear hK K
  refine gwp_sr rfl (by decide) rfl rfl fun K hK => ?_
  simp -dsimp
  refine hK _ _ ?_; clear hK K
  refine gwp_seq_k fun K1 hK1 => ?_
  refine gwp_sr rfl (by decide) rfl rfl fun K hK => ?_
  simp -dsimp [wl]
  refine hK _ _ ?_; clear hK K
  refine gwp_block ?_
  refine gwp_prune [0, 2, 7, 8, 9] (Or.inr (by simp)) ?_
  simp only [prune, List.map_cons, List.map_nil, Go.AM.look, Nat.reduceEqDiff, reduceIte]
  refine gwp_loop_l [0, 2, 7] (α := Nat) (fun m => [(8, I (fromI C (fun q => decide (j.Skips ≤ at0 sk q)) m)), (9, I ((m : Int) - 1))]) (fun m => [kRow sk]) (fun m => m ≤ C.length) (fun m => m) C.length ?_ ?_ ?_
  · exact Nat.le_refl _
  · exact gsub (sub_rb [some 0] rfl (by simp [hfe]) (by simp)) (by simp)
  rintro m m1
  simp only [List.cons_append, List.nil_append, prune, List.map_cons, List.map_nil, Go.AM.look, Nat.reduceEqDiff, reduceIte]
  refine gwp_seq_k fun K2 hK2 => ?_
  refine gwp_sr rfl (by decide) rfl rfl fun K hK => ?_
  simp -dsimp
  refine hK _ _ ?_; clear hK K
  refine gwp_cond rfl (fun hc0 => ?_) (fun hc0 => ?_)
  · skip
    try simp at hc0
    obtain ⟨m, rfl⟩ : ∃ m', m = m' + 1 := ⟨m - 1, by omega⟩
    obtain ⟨q, hq⟩ : ∃ q, C[m]? = some q := ⟨_, List.getElem?_eq_getElem (by omega)⟩
    have hqb := hcb q (List.mem_of_getElem? hq)
    have gq := hget hk (List.mem_of_getElem? hq)
    have hst := hfs m q hq
    have e0 : ((m + 1 : Nat) : Int) - 1 = (m : Int) := by omega
    have wm : IntKind.i64.wrap ((m : Int) - 1) = (m : Int) - 1 := wrap_in (by omega) (by omega)
    rw [e0]
    have hql : q < (sk.length : Int) := by omega
    refine gwp_skip ?_
    simp only [thenA, inBlockA, reduceIte, Nat.reduceEqDiff, eq_self]
    refine hK2 _ _ ?_
    refine gwp_prune [0, 2, 7, 8, 9] (Or.inr (by simp)) ?_
    simp only [prune, List.map_cons, List.map_nil, Go.AM.look, Nat.reduceEqDiff, reduceIte]
    refine gwp_seq_k fun K3 hK3 => ?_
    refine gwp_block ?_
    refine gwp_sd mixed rfl (by decide) rfl rfl fun K hK => ?_
    simp -dsimp [hq, gq, hqb.1, hql]
    refine hK _ _ _ (by decide +kernel) ?_; clear hK K
    refine gwp_cond rfl (fun hc1 => ?_) (fun hc1 => ?_)
    · skip
      try simp at hc1
      refine gwp_r rfl (by decide) rfl rfl fun K hK => ?_
      simp -dsimp
      refine hK _ _ ?_; clear hK K
      simp only [thenA, inBlockA, reduceIte, Nat.reduceEqDiff, eq_self]
      refine hK3 _ _ ?_
      refine gwp_prune [0, 2, 7, 8, 9] (Or.inr (by simp)) ?_
      simp only [prune, List.map_cons, List.map_nil, Go.AM.look, Nat.reduceEqDiff, reduceIte]
      refine gwp_r rfl (by decide) rfl rfl fun K hK => ?_
      simp -dsimp [wm]
      refine hK _ _ ?_; clear hK K
      simp only [thenA, inBlockA, reduceIte, Nat.reduceEqDiff, eq_self]
      have hh : fromI C (fun q => decide (j.Skips ≤ at0 sk q)) m = m := by rw [hst]; simp [hc1]
      exact ⟨m, by omega, by omega, gsub (sub_rb [some 0] rfl (by simp [hh]) (by simp)) (by simp)⟩
    · skip
      try simp at hc1
      refine gwp_skip ?_
      simp only [thenA, inBlockA, reduceIte, Nat.reduceEqDiff, eq_self]
      refine hK3 _ _ ?_
      refine gwp_prune [0, 2, 7, 8, 9] (Or.inr (by simp)) ?_
      simp only [prune, List.map_cons, List.map_nil, Go.AM.look, Nat.reduceEqDiff, reduceIte]
      refine gwp_r rfl (by decide) rfl rfl fun K hK => ?_
      simp -dsimp [wm]
      refine hK _ _ ?_; clear hK K
      simp only [thenA, inBlockA, reduceIte, Nat.reduceEqDiff, eq_self]
      have hh : fromI C (fun q => decide (j.Skips ≤ at0 sk q)) m = fromI C (fun q => decide (j.Skips ≤ at0 sk q)) (m + 1) := by rw [hst, if_neg]; simp; omega
      exact ⟨m, by omega, by omega, gsub (sub_rb [some 0] rfl (by simp [hh]) (by simp)) (by simp)⟩
  · skip
    try simp at hc0
    have hm0 : m = 0 := by omega
    subst hm0
    rw [← ha1]
    refine gwp_exit ?_
    simp only [thenA, inBlockA, reduceIte, Nat.reduceEqDiff, eq_self]
    refine hK1 _ _ ?_
    refine gwp_prune [0, 2, 7, 8] (Or.inr (by simp)) ?_
    simp only [prune, List.map_cons, List.map_nil, Go.AM.look, Nat.reduceEqDiff, reduceIte]
    refine gwp_seq_k fun K4 hK4 => ?_
    refine gwp_sr rfl (by decide) rfl rfl fun K hK => ?_
    simp -dsimp
    refine hK _ _ ?_; clear hK K
    refine gwp_block ?_
    refine gwp_prune [0, 2, 7, 8, 10] (Or.inr (by simp)) ?_
    simp only [prune, List.map_cons, List.map_nil, Go.AM.look, Nat.reduceEqDiff, reduceIte]
    refine gwp_loop_l [0, 2, 7] (α := Nat × Int) (fun x => [(8, I x.2), (10, I x.1)]) (fun x => [kRow sk]) (fun x => x.1 ≤ C.length ∧ (x.2 < 0 → A1 < 0 ∧ x.2 = -1 ∧ (C.take x.1).any (fun q => someB j q ph p) = false) ∧ (0 ≤ x.2 → x.2 = A2)) (fun x => C.length - x.1) (0, A1) ?_ ?_ ?_
    · exact ⟨Nat.zero_le _, fun h => ⟨h, by rcases firstI_at (c := C) (f := fun q => decide (j.Skips ≤ at0 sk q)) with ⟨e, _⟩ | ⟨i, e, _⟩ <;> rw [ha1, fromI_0] at * <;> omega, rfl⟩, fun h => by rw [ha2, if_neg (by simpa using h)]⟩
    · exact gsub (sub_rb [some 0] rfl (by simp) (by simp)) (by simp)
    rintro ⟨i, at_⟩ ⟨i1, i2, i3⟩
    simp only at i1 i2 i3 ⊢
    simp only [List.cons_append, List.nil_append, prune, List.map_cons, List.map_nil, Go.AM.look, Nat.reduceEqDiff, reduceIte]
    refine gwp_seq_k fun K5 hK5 => ?_
    refine gwp_sr rfl (by decide) rfl rfl fun K hK => ?_
    simp -dsimp
    refine hK _ _ ?_; clear hK K
    refine gwp_cond rfl (fun hc2 => ?_) (fun hc2 => ?_)
    · skip
      try simp at hc2
      obtain ⟨g1, g2, g3⟩ := i2 hc2.2
      obtain ⟨q, hq⟩ : ∃ q, C[i]? = some q := ⟨_, List.getElem?_eq_getElem hc2.1⟩
      have hqb := hcb q (List.mem_of_getElem? hq)
      have wi : IntKind.i64.wrap ((i : Int) + 1) = (i : Int) + 1 := wrap_in (by omega) (by omega)
      refine gwp_skip ?_
      simp only [thenA, inBlockA, reduceIte, Nat.reduceEqDiff, eq_self]
      refine hK5 _ _ ?_
      refine gwp_prune [0, 2, 7, 8, 10] (Or.inr (by simp)) ?_
      simp only [prune, List.map_cons, List.map_nil, Go.AM.look, Nat.reduceEqDiff, reduceIte]
      refine gwp_seq_k fun K6 hK6 => ?_
      refine gwp_block ?_
      refine gwp_sd mixed rfl (by decide) rfl rfl fun K hK => ?_
      simp -dsimp [hq]
      refine callK_bare _ (fun hm => hby _ q hqb.1 hqb.2) ?_
      simp -dsimp [hq]
      refine hK _ _ _ (by decide +kernel) ?_; clear hK K
      refine gwp_cond rfl (fun hc3 => ?_) (fun hc3 => ?_)
      · skip
        skip
        refine gwp_r rfl (by decide) rfl rfl fun K hK => ?_
        simp -dsimp
        refine hK _ _ ?_; clear hK K
        simp only [thenA, inBlockA, reduceIte, Nat.reduceEqDiff, eq_self]
        refine hK6 _ _ ?_
        refine gwp_prune [0, 2, 7, 8, 10] (Or.inr (by simp)) ?_
        simp only [prune, List.map_cons, List.map_nil, Go.AM.look, Nat.reduceEqDiff, reduceIte]
        refine gwp_r rfl (by decide) rfl rfl fun K hK => ?_
        simp -dsimp [wi]
        refine hK _ _ ?_; clear hK K
        simp only [thenA, inBlockA, reduceIte, Nat.reduceEqDiff, eq_self]
        have hfi : firstI C (fun q => someB j q ph p) = i := firstI_hit hq hc3 g3
        exact ⟨(i + 1, (i : Int)), ⟨by omega, fun h => by simp only at h; omega, fun _ => by simp only; rw [ha2, if_pos g1, hfi]⟩, by simp only; omega, gsub (sub_rb [some 0] rfl (by simp) (by simp)) (by simp)⟩
      · skip
        skip
        refine gwp_skip ?_
        simp only [thenA, inBlockA, reduceIte, Nat.reduceEqDiff, eq_self]
        refine hK6 _ _ ?_
        refine gwp_prune [0, 2, 7, 8, 10] (Or.inr (by simp)) ?_
        simp only [prune, List.map_cons, List.map_nil, Go.AM.look, Nat.reduceEqDiff, reduceIte]
        refine gwp_r rfl (by decide) rfl rfl fun K hK => ?_
        simp -dsimp [wi]
        refine hK _ _ ?_; clear hK K
        simp only [thenA, inBlockA, reduceIte, Nat.reduceEqDiff, eq_self]
        exact ⟨(i + 1, at_), ⟨by omega, fun _ => ⟨g1, g2, by rw [any_take hq, g3, hc3]; rfl⟩, i3⟩, by simp only; omega, gsub (sub_rb [some 0] rfl (by simp) (by simp)) (by simp)⟩
    · skip
      try simp at hc2
      have hat : at_ = A2 := by
        rcases Int.lt_or_le at_ 0 with h | h
        · obtain ⟨g1, g2, g3⟩ := i2 h
          have hil : ¬ i < C.length := fun h' => by have := hc2 h'; omega
          rw [ha2, if_pos g1, firstI_none (any_of_take (by omega) g3)]; exact g2
        · exact i3 h
      subst hat
      have hmx : (if at_ < 0 then 0 else at_) = ((A3 : Nat) : Int) := by rw [ha3]; rfl
      refine gwp_exit ?_
      simp only [thenA, inBlockA, reduceIte, Nat.reduceEqDiff, eq_self]
      refine hK4 _ _ ?_
      refine gwp_prune [0, 7, 8] (Or.inr (by simp)) ?_
      simp only [prune, List.map_cons, List.map_nil, Go.AM.look, Nat.reduceEqDiff, reduceIte]
      refine gwp_sr rfl (by decide) rfl rfl fun K hK => ?_
      simp -dsimp [hmx]
      refine hK _ _ ?_; clear hK K
      refine gwp_seq_k fun K7 hK7 => ?_
      refine gwp_sr rfl (by decide) rfl rfl fun K hK => ?_
      simp -dsimp
      refine hK _ _ ?_; clear hK K
      refine gwp_block ?_
      refine gwp_prune [0, 7, 8, 11] (Or.inr (by simp)) ?_
      simp only [prune, List.map_cons, List.map_nil, Go.AM.look, Nat.reduceEqDiff, reduceIte]
      refine gwp_loop_l [0, 7, 8] (α := Nat) (fun i => [(11, I i)]) (fun i => [kRow (incrs sk (C.take i))]) (fun i => i ≤ A3) (fun i => A3 - i) 0 ?_ ?_ ?_
      · exact Nat.zero_le _
      · exact gsub (sub_rb [some 0] rfl (by simp) (by simp [incrs])) (by simp)
      rintro i i1
      simp only [List.cons_append, List.nil_append, prune, List.map_cons, List.map_nil, Go.AM.look, Nat.reduceEqDiff, reduceIte]
      refine gwp_seq_k fun K8 hK8 => ?_
      refine gwp_sr rfl (by decide) rfl rfl fun K hK => ?_
      simp -dsimp
      refine hK _ _ ?_; clear hK K
      refine gwp_cond rfl (fun hc4 => ?_) (fun hc4 => ?_)
      · skip
        try simp at hc4
        obtain ⟨q, hq⟩ : ∃ q, C[i]? = some q := ⟨_, List.getElem?_eq_getElem (by omega)⟩
        have hqm := List.mem_of_getElem? hq
        have hqb := hcb q hqm
        have hsn := incrs_snoc (sk := sk) hq
        have hil := incrs_len sk (C.take i)
        have hbd := incrs_bd (B := 1000000) (C.take i) sk 1000000 (by omega) hkb
        generalize incrs sk (C.take i) = K' at hsn hil hbd ⊢
        have gq := hget (l := K') (by omega) hqm
        have hqv := hbd _ (List.mem_of_getElem? gq)
        have hcl14 : (C.take i).length ≤ 14 := by rw [List.length_take]; omega
        have wq : IntKind.i64.wrap (at0 K' q + 1) = at0 K' q + 1 := wrap_in (by omega) (by omega)
        have wi : IntKind.i64.wrap ((i : Int) + 1) = (i : Int) + 1 := wrap_in (by omega) (by omega)
        have hql : q < (sk.length : Int) := by omega
        refine gwp_skip ?_
        simp only [thenA, inBlockA, reduceIte, Nat.reduceEqDiff, eq_self]
        refine hK8 _ _ ?_
        refine gwp_prune [0, 7, 8, 11] (Or.inr (by simp)) ?_
        simp only [prune, List.map_cons, List.map_nil, Go.AM.look, Nat.reduceEqDiff, reduceIte]
        refine gwp_seq_k fun K9 hK9 => ?_
        refine gwp_block ?_
        refine gwp_draw mixed rfl (by decide) rfl rfl fun K hK => ?_
        simp -dsimp [hq, gq, hqb.1, hql, wq]
        refine hK _ _ _ (by decide +kernel) ?_; clear hK K
        simp only [thenA, inBlockA, reduceIte, Nat.reduceEqDiff, eq_self]
        refine hK9 _ _ ?_
        refine gwp_prune [0, 7, 8, 11] (Or.inr (by simp)) ?_
        simp only [prune, List.map_cons, List.map_nil, Go.AM.look, Nat.reduceEqDiff, reduceIte]
        refine gwp_r rfl (by decide) rfl rfl fun K hK => ?_
        simp -dsimp [wi]
        refine hK _ _ ?_; clear hK K
        simp only [thenA, inBlockA, reduceIte, Nat.reduceEqDiff, eq_self]
        exact ⟨i + 1, by omega, by omega, gsub (sub_rb [some 0] rfl (by simp) (by simp [hsn, incr, List.map_set])) (by simp)⟩
      · skip
        try simp at hc4
        have hiA : i = A3 := by omega
        subst hiA
        have hil := incrs_len sk (C.take i)
        generalize hKe : incrs sk (C.take i) = K' at hil ⊢
        have hbl : b3 < (sk.length : Int) := by omega
        have gb3 := hget (l := K') (by omega) hb3m
        refine gwp_exit ?_
        simp only [thenA, inBlockA, reduceIte, Nat.reduceEqDiff, eq_self]
        refine hK7 _ _ ?_
        refine gwp_prune [0, 7, 8] (Or.inr (by simp)) ?_
        simp only [prune, List.map_cons, List.map_nil, Go.AM.look, Nat.reduceEqDiff, reduceIte]
        refine gwp_sd mixed rfl (by decide) rfl rfl fun K hK => ?_
        simp -dsimp [hb3, hb30.1, hbl, gb3]
        refine hK _ _ _ (by decide +kernel) ?_; clear hK K
        refine gwp_sr rfl (by decide) rfl rfl fun K hK => ?_
        simp -dsimp [hb3]
        refine hK _ _ ?_; clear hK K
        exact gwp_ret ⟨[some 0], rfl, by simp, by simp [List.map_set, hKe], by simp; omega, by simp [resP, tupOf]⟩

/-- The specification's red ones. -/
def rdStep (j : Jn) (se q : Int) (ls : List Lt) (x : Int) : List Lt := if hasB j q x then ls else ls.set x.toNat ⟨false, se⟩
def rdF (j : Jn) (se q : Int) (l : List Int) (ls : List Lt) : List Lt := l.foldl (rdStep j se q) ls
theorem rdF_len (j : Jn) (se q : Int) (l : List Int) (ls : List Lt) : (rdF j se q l ls).length = ls.length := by
  unfold rdF
  induction l generalizing ls with
  | nil => rfl
  | cons x l ih =>
    rw [List.foldl_cons, ih]
    unfold rdStep
    split <;> simp
theorem rdF_snoc {j : Jn} {se q : Int} {l : List Int} {ls : List Lt} {k : Nat} {x : Int} (h : l[k]? = some x) : rdF j se q (l.take (k + 1)) ls = rdStep j se q (rdF j se q (l.take k) ls) x := by
  unfold rdF
  rw [List.take_add_one, h]; simp
theorem rdF_at {j : Jn} {se q : Int} : ∀ (l : List Int) (ls : List Lt), (∀ x ∈ l, 0 ≤ x ∧ x < ls.length) → ∀ y, 0 ≤ y →
    ltAt (rdF j se q l ls) y = if y ∈ l ∧ hasB j q y = false then ⟨false, se⟩ else ltAt ls y
  | [], ls, _, y, _ => by simp [rdF]
  | x :: l, ls, hl, y, y0 => by
    have hx := hl x (by simp)
    have hlen : (rdStep j se q ls x).length = ls.length := by unfold rdStep; split <;> simp
    have ih := rdF_at (j := j) (se := se) (q := q) l (rdStep j se q ls x) (fun z hz => by rw [hlen]; exact hl z (by simp [hz])) y y0
    have hst : ltAt (rdStep j se q ls x) y = if y = x ∧ hasB j q y = false then ⟨false, se⟩ else ltAt ls y := by
      unfold rdStep
      split
      · rename_i h
        rw [if_neg]
        rintro ⟨e, k⟩; subst e; rw [h] at k; cases k
      · rename_i h
        rw [ltAt_set hx.1 hx.2 y0]
        by_cases e : y = x
        · subst e; rw [if_pos rfl, if_pos ⟨rfl, by simpa using h⟩]
        · rw [if_neg e, if_neg (fun k => e k.1)]
    show ltAt (rdF j se q l (rdStep j se q ls x)) y = _
    rw [ih, hst]
    by_cases e : y = x
    · subst e
      by_cases k : hasB j q y = false
      · simp [k]
      · simp [k]
    · rw [if_neg (show ¬ (y = x ∧ hasB j q y = false) from fun h => e h.1)]; simp [e]
theorem lts_ext {a b : List Lt} (hl : a.length = b.length) (h : ∀ y : Int, 0 ≤ y → y < a.length → ltAt a y = ltAt b y) : a = b := by
  refine List.ext_getElem hl fun i h1 h2 => ?_
  have := h i (by omega) (by omega)
  rw [ltAt_of (List.getElem?_eq_getElem h1), ltAt_of (List.getElem?_eq_getElem h2)] at this
  exact this
theorem rdF_red {j : Jn} {se q : Int} {l : List Int} {ls : List Lt} (hl : ∀ x ∈ l, 0 ≤ x ∧ x < ls.length) (hG : ∀ x ∈ l, (ltAt ls x).Green = true) : rdF j se q l ls = redF j se q l ls := by
  refine lts_ext (by rw [rdF_len, redF_len]) fun y y0 y1 => ?_
  rw [rdF_at l ls hl y y0, redF_at l ls hl y y0]
  by_cases hy : y ∈ l
  · simp [hy, hG y hy]
  · simp [hy]

theorem m_rTick (j : Jn) (d p : List Int) (s : Sg) (hf : Fit j) (ho : JOk j) (hs : SgOk j s) (hS : Safe j s) (hd : d.length ≤ 1000) (hp : p.length ≤ 1000) :
    MutCall Try.prog 27 [.ptr 0 0 0, iL d, iL p] [xRow j s.se s.ph s.si s.on s.ls.length s.sk.length] [rRow s.ls, kRow s.sk] (.tup [])
      [xRow j (tickS j d p s).se (tickS j d p s).ph (tickS j d p s).si (tickS j d p s).on s.ls.length s.sk.length] [rRow (tickS j d p s).ls, kRow (tickS j d p s).sk] := by
  obtain ⟨se, ph, si, on, ls, sk⟩ := s
  have hl := hs.l; have hk := hs.k; have hkb := hs.kb; have hse0 := hs.se0; have hse1 := hs.se1; have hsi := hs.si; have hlb := hs.lb; have p0 := hs.p0; have p1 := hs.p1
  have hG := hS.onG
  simp only at hl hk hkb hse0 hse1 hsi hlb p0 p1 hG ⊢
  have hph := ho.phase p0 p1
  have hpl := hf.ps _ (List.mem_of_getElem? hph.1)
  have wse : IntKind.i64.wrap (se + 1) = se + 1 := wrap_in (by omega) (by omega)
  have hse' : smallT (se + 1) := ⟨by omega, by omega⟩
  have tkl : List.take ls.length (ls.map Lt.cells) = ls.map Lt.cells := List.take_of_length_le (by simp)
  have tkk : List.take sk.length (sk.map nCell) = sk.map nCell := List.take_of_length_le (by simp)
  cases on with
  | false =>
    have hgr := m_rgrow j (se + 1) ph si false ls sk hf ho hl hk hse' hlb p0 p1
    have ht : tickS j d p ⟨se, ph, si, false, ls, sk⟩ = arrS j ⟨se + 1, ph, si, false, ls, sk⟩ := rfl
    rw [ht]
    refine MutCall.of_bodyG [0] Try.func27 rfl (by decide) (by simp [Try.ntmps27]) rfl rfl ?_
    intro J hJ
    simp only [Try.ntmps27, Try.results27]
    refine gwp_sr rfl (by decide) rfl rfl fun K hK => ?_
    simp -dsimp [wse]
    refine hK _ _ ?_; clear hK K
    refine gwp_seq_k fun K1 hK1 => ?_
    refine gwp_sr rfl (by decide) rfl rfl fun K hK => ?_
    simp -dsimp
    refine hK _ _ ?_; clear hK K
    refine gwp_cond rfl (fun hc0 => ?_) (fun hc0 => ?_)
    · skip
      skip
      refine gwp_sr rfl (by decide) rfl rfl fun K hK => ?_
      simp -dsimp
      refine callK_mut [0] [1, 2] [some 0, none, none, some 1, some 2] (hgr) (by decide) rfl (by simp) (by simp) rfl (by simp) ?_
      simp -dsimp
      refine hK _ _ ?_; clear hK K
      exact gwp_ret ⟨[some 0, some 3, some 4], rfl, by simp, by simp [arrS], by simp, by simp [resP, tupOf, arrS]⟩
    · skip
      skip
      simp at hc0
  | true =>
    have hen := fun S => c_rends j (Bo true) S (se + 1) ph si ls d p hf ho hl hse' hsi hlb p0 p1 hd hp (hG rfl)
    cases he : endsB j (se + 1) ph si ls d p with
    | false =>
      have ht : tickS j d p ⟨se, ph, si, true, ls, sk⟩ = ⟨se + 1, ph, si, true, ls, sk⟩ := by simp [tickS, endS, nextS, he]
      rw [ht]
      rw [he] at hen
      refine MutCall.of_bodyG [0] Try.func27 rfl (by decide) (by simp [Try.ntmps27]) rfl rfl ?_
      intro J hJ
      simp only [Try.ntmps27, Try.results27]
      refine gwp_sr rfl (by decide) rfl rfl fun K hK => ?_
      simp -dsimp [wse]
      refine hK _ _ ?_; clear hK K
      refine gwp_seq_k fun K1 hK1 => ?_
      refine gwp_sr rfl (by decide) rfl rfl fun K hK => ?_
      simp -dsimp
      refine hK _ _ ?_; clear hK K
      refine gwp_cond rfl (fun hc0 => ?_) (fun hc0 => ?_)
      · skip
        skip
        simp at hc0
      · skip
        skip
        refine gwp_skip ?_
        simp only [thenA, inBlockA, reduceIte, Nat.reduceEqDiff, eq_self]
        refine hK1 _ _ ?_
        refine gwp_prune [0, 1, 2] (Or.inr (by simp)) ?_
        simp only [prune, List.map_cons, List.map_nil, Go.AM.look, Nat.reduceEqDiff, reduceIte]
        refine gwp_seq_k fun K2 hK2 => ?_
        refine gwp_sr rfl (by decide) rfl rfl fun K hK => ?_
        simp -dsimp [tkl, tkk]
        refine callK_intro _ (hen _) (by simp) ?_
        simp -dsimp [tkl, tkk]
        refine hK _ _ ?_; clear hK K
        refine gwp_cond rfl (fun hc1 => ?_) (fun hc1 => ?_)
        · skip
          skip
          exact gwp_ret ⟨[some 0, some 1, some 2], rfl, by simp, by simp, by simp, by simp [resP, tupOf]⟩
        · skip
          skip
          simp at hc1
    | true =>
      rw [he] at hen
      have hne := ends_ne he
      have hnx := m_rnext j (se + 1) ph si true ls d p sk hf ho hk hkb p0 p1 hne hd hp
      have hqb := candL_bd (j := j) (ph := ph) (d := d) (by omega) _ (nextB_mem (p := p) (sk := sk) hne)
      have hKl := nextK_len j ph d p sk
      have hrd := rdF_red (j := j) (se := se + 1) (q := nextB j ph d p sk) (l := rowAt j.Phases ph) (ls := ls) (fun x hx => by have := hph.2.2.1 x hx; omega) (hG rfl)
      have ht : tickS j d p ⟨se, ph, si, true, ls, sk⟩ = arrS j ⟨se + 1, nextB j ph d p sk, si, false, redF j (se + 1) (nextB j ph d p sk) (rowAt j.Phases ph) ls, nextK j ph d p sk⟩ := by simp [tickS, endS, nextS, he, turnS]
      rw [ht, ← hrd]
      generalize nextB j ph d p sk = q at hnx hqb hrd ⊢
      generalize nextK j ph d p sk = K' at hnx hKl ⊢
      have hgr := m_rgrow j (se + 1) q si false (rdF j (se + 1) q (rowAt j.Phases ph) ls) K' hf ho (by rw [rdF_len]; exact hl) (by omega) hse' (by rw [hrd]; exact redF_bd hse' _ hlb) hqb.1 hqb.2
      have gq := rowAt_get hqb.1 hqb.2
      have hql := hf.ps _ (List.mem_of_getElem? gq)
      have htK : List.take sk.length (K'.map nCell) = K'.map nCell := List.take_of_length_le (by simp; omega)
      have hKle : sk.length ≤ K'.length := by omega
      refine MutCall.of_bodyG [0] Try.func27 rfl (by decide) (by simp [Try.ntmps27]) rfl rfl ?_
      intro J hJ
      simp only [Try.ntmps27, Try.results27]
      refine gwp_sr rfl (by decide) rfl rfl fun K hK => ?_
      simp -dsimp [wse]
      refine hK _ _ ?_; clear hK K
      refine gwp_seq_k fun K1 hK1 => ?_
      refine gwp_sr rfl (by decide) rfl rfl fun K hK => ?_
      simp -dsimp
      refine hK _ _ ?_; clear hK K
      refine gwp_cond rfl (fun hc0 => ?_) (fun hc0 => ?_)
      · skip
        skip
        simp at hc0
      · skip
        skip
        refine gwp_skip ?_
        simp only [thenA, inBlockA, reduceIte, Nat.reduceEqDiff, eq_self]
        refine hK1 _ _ ?_
        refine gwp_prune [0, 1, 2] (Or.inr (by simp)) ?_
        simp only [prune, List.map_cons, List.map_nil, Go.AM.look, Nat.reduceEqDiff, reduceIte]
        refine gwp_seq_k fun K2 hK2 => ?_
        refine gwp_sr rfl (by decide) rfl rfl fun K hK => ?_
        simp -dsimp [tkl, tkk]
        refine callK_intro _ (hen _) (by simp) ?_
        simp -dsimp [tkl, tkk]
        refine hK _ _ ?_; clear hK K
        refine gwp_cond rfl (fun hc1 => ?_) (fun hc1 => ?_)
        · skip
          skip
          simp at hc1
        · skip
          skip
          refine gwp_skip ?_
          simp only [thenA, inBlockA, reduceIte, Nat.reduceEqDiff, eq_self]
          refine hK2 _ _ ?_
          refine gwp_prune [0, 1, 2] (Or.inr (by simp)) ?_
          simp only [prune, List.map_cons, List.map_nil, Go.AM.look, Nat.reduceEqDiff, reduceIte]
          refine gwp_sr rfl (by decide) rfl rfl fun K hK => ?_
          simp -dsimp
          refine hK _ _ ?_; clear hK K
          refine gwp_sr rfl (by decide) rfl rfl fun K hK => ?_
          simp -dsimp [tkl, tkk]
          refine callK_mutF [2] [] [none, none, some 0] (hnx) (by decide) rfl (by simp) (by simp) rfl (by simp) (by simp) (by simp) ?_
          simp -dsimp [tkl, tkk]
          refine hK _ _ ?_; clear hK K
          refine gwp_sr rfl (by decide) rfl rfl fun K hK => ?_
          simp -dsimp
          refine hK _ _ ?_; clear hK K
          refine gwp_seq_k fun K3 hK3 => ?_
          refine gwp_sr rfl (by decide) rfl rfl fun K hK => ?_
          simp -dsimp
          refine hK _ _ ?_; clear hK K
          refine gwp_block ?_
          refine gwp_prune [0, 6, 7] (Or.inr (by simp)) ?_
          simp only [prune, List.map_cons, List.map_nil, Go.AM.look, Nat.reduceEqDiff, reduceIte]
          refine gwp_loop_l [0, 6] (α := Nat) (fun k => [(7, I k)]) (fun k => [xRow j (se + 1) q si false ls.length sk.length, rRow (rdF j (se + 1) q ((rowAt j.Phases ph).take k) ls), kRow K']) (fun k => k ≤ (rowAt j.Phases ph).length) (fun k => (rowAt j.Phases ph).length - k) 0 ?_ ?_ ?_
          · exact Nat.zero_le _
          · exact gsub (sub_rb [some 0, some 1, some 2] rfl (by simp) (by simp [rdF])) (by simp)
          rintro k k1
          simp only [List.cons_append, List.nil_append, prune, List.map_cons, List.map_nil, Go.AM.look, Nat.reduceEqDiff, reduceIte]
          refine gwp_seq_k fun K4 hK4 => ?_
          refine gwp_sr rfl (by decide) rfl rfl fun K hK => ?_
          simp -dsimp [hph.1, p0]
          refine hK _ _ ?_; clear hK K
          refine gwp_cond rfl (fun hc2 => ?_) (fun hc2 => ?_)
          · skip
            skip
            have hkl : k < (rowAt j.Phases ph).length := by simpa using hc2
            have gx := at0_nat hkl
            have hxb := hph.2.2.1 _ (List.mem_of_getElem? gx)
            have wk : IntKind.i64.wrap ((k : Int) + 1) = (k : Int) + 1 := wrap_in (by omega) (by omega)
            generalize at0 (rowAt j.Phases ph) k = x at gx hxb
            have hsn := rdF_snoc (j := j) (se := se + 1) (q := q) (ls := ls) gx
            have hln := rdF_len j (se + 1) q ((rowAt j.Phases ph).take k) ls
            generalize rdF j (se + 1) q ((rowAt j.Phases ph).take k) ls = L at hsn hln ⊢
            have gl := ltAt_get (l := L) (i := x) hxb.1 (by omega)
            have hxl : x < (ls.length : Int) := by omega
            simp only [rdStep] at hsn
            refine gwp_skip ?_
            simp only [thenA, inBlockA, reduceIte, Nat.reduceEqDiff, eq_self]
            refine hK4 _ _ ?_
            refine gwp_prune [0, 6, 7] (Or.inr (by simp)) ?_
            simp only [prune, List.map_cons, List.map_nil, Go.AM.look, Nat.reduceEqDiff, reduceIte]
            refine gwp_seq_k fun K5 hK5 => ?_
            refine gwp_block ?_
            refine gwp_sr rfl (by decide) rfl rfl fun K hK => ?_
            simp -dsimp [hph.1, p0, gx]
            refine hK _ _ ?_; clear hK K
            refine gwp_sd mixed rfl (by decide) rfl rfl fun K hK => ?_
            simp -dsimp [gq, hqb.1]
            refine callK_intro _ (c_rHas (rowAt j.Phases q) x (by omega)) (by simp) ?_
            simp -dsimp [gq, hqb.1]
            refine hK _ _ _ (by decide +kernel) ?_; clear hK K
            refine gwp_cond rfl (fun hc3 => ?_) (fun hc3 => ?_)
            · skip
              skip
              refine gwp_draw mixed rfl (by decide) rfl rfl fun K hK => ?_
              simp -dsimp [hxb.1, hxl, gl]
              refine hK _ _ _ (by decide +kernel) ?_; clear hK K
              simp only [thenA, inBlockA, reduceIte, Nat.reduceEqDiff, eq_self]
              refine hK5 _ _ ?_
              refine gwp_prune [0, 6, 7] (Or.inr (by simp)) ?_
              simp only [prune, List.map_cons, List.map_nil, Go.AM.look, Nat.reduceEqDiff, reduceIte]
              refine gwp_r rfl (by decide) rfl rfl fun K hK => ?_
              simp -dsimp [wk]
              refine hK _ _ ?_; clear hK K
              simp only [thenA, inBlockA, reduceIte, Nat.reduceEqDiff, eq_self]
              have hh : hasB j q x = false := by unfold hasB; simpa using hc3
              have hst : rdF j (se + 1) q ((rowAt j.Phases ph).take (k + 1)) ls = L.set x.toNat ⟨false, se + 1⟩ := by rw [hsn, hh]; rfl
              exact ⟨k + 1, by omega, by omega, gsub (sub_rb [some 0, some 1, some 2] rfl (by simp) (by simp [hst, List.map_set])) (by simp)⟩
            · skip
              skip
              refine gwp_skip ?_
              simp only [thenA, inBlockA, reduceIte, Nat.reduceEqDiff, eq_self]
              refine hK5 _ _ ?_
              refine gwp_prune [0, 6, 7] (Or.inr (by simp)) ?_
              simp only [prune, List.map_cons, List.map_nil, Go.AM.look, Nat.reduceEqDiff, reduceIte]
              refine gwp_r rfl (by decide) rfl rfl fun K hK => ?_
              simp -dsimp [wk]
              refine hK _ _ ?_; clear hK K
              simp only [thenA, inBlockA, reduceIte, Nat.reduceEqDiff, eq_self]
              have hh : hasB j q x = true := by unfold hasB; simpa using hc3
              have hst : rdF j (se + 1) q ((rowAt j.Phases ph).take (k + 1)) ls = L := by rw [hsn, hh]; rfl
              exact ⟨k + 1, by omega, by omega, gsub (sub_rb [some 0, some 1, some 2] rfl (by simp) (by simp [hst])) (by simp)⟩
          · skip
            skip
            have hkk : ¬ k < (rowAt j.Phases ph).length := by simpa using hc2
            have htk : (rowAt j.Phases ph).take k = rowAt j.Phases ph := List.take_of_length_le (by omega)
            rw [htk]
            have hrl := rdF_len j (se + 1) q (rowAt j.Phases ph) ls
            rw [hrl] at hgr
            rw [show K'.length = sk.length by omega] at hgr
            refine gwp_exit ?_
            simp only [thenA, inBlockA, reduceIte, Nat.reduceEqDiff, eq_self]
            refine hK3 _ _ ?_
            refine gwp_prune [0] (Or.inr (by simp)) ?_
            simp only [prune, List.map_cons, List.map_nil, Go.AM.look, Nat.reduceEqDiff, reduceIte]
            refine gwp_r rfl (by decide) rfl rfl fun K hK => ?_
            simp -dsimp
            refine callK_mut [0] [1, 2] [some 0, none, none, some 1, some 2] (hgr) (by decide) rfl (by simp) (by simp) rfl (by simp) ?_
            simp -dsimp
            refine hK _ _ ?_; clear hK K
            try simp only [thenA, inBlockA, reduceIte, Nat.reduceEqDiff, eq_self]
            exact ⟨[some 0, some 3, some 4], rfl, by simp, by simp [arrS], by simp, by simp [resP, tupOf, arrS]⟩

def opL (j : Jn) (k : Nat) : List Lt := (List.range k).map fun (a : Nat) => ⟨decide ((a : Int) ∈ rowAt j.Phases 0), 0⟩
theorem opL_len (j : Jn) (k : Nat) : (opL j k).length = k := by simp [opL]
theorem opL_succ (j : Jn) (k : Nat) : opL j (k + 1) = opL j k ++ [⟨decide ((k : Int) ∈ rowAt j.Phases 0), 0⟩] := by simp [opL, List.range_succ]
theorem opL_end {j : Jn} (ho : JOk j) : opL j j.n = (openS j).ls := by
  refine lts_ext (by simp [openS, grF_len, opL]) fun y y0 y1 => ?_
  rw [open_at ho y0]
  rw [opL_len] at y1
  unfold ltAt opL
  rw [List.getElem?_map, List.getElem?_range (by omega)]
  simp [Int.toNat_of_nonneg y0]
theorem m_rOpen (j : Jn) (hf : Fit j) (ho : JOk j) : MutCall Try.prog 25 [.agg j.cells] [] [] (.ptr 0 0 0) [] [xRow j (openS j).se (openS j).ph (openS j).si (openS j).on j.n j.Phases.length, rRow (openS j).ls, kRow (openS j).sk] := by
  have hph := ho.phase (i := 0) (by omega) (by have := ho.p1; omega)
  have hpl := hf.ps _ (List.mem_of_getElem? hph.1)
  have hn := hf.s; have hp := hf.p
  have hnl : j.n = j.Streams.length := rfl
  have f2 : Fits j.Phases.length 9 := fits_of (by omega) (by omega)
  have wm1 : IntKind.i64.wrap (-1) = -1 := wrap_in (by omega) (by omega)
  have gp : j.Phases[0]? = some (rowAt j.Phases 0) := hph.1
  have hex := opL_end ho
  refine MutCall.of_bodyG [] Try.func25 rfl (by decide) (by simp [Try.ntmps25]) rfl rfl ?_
  intro J hJ
  simp only [Try.ntmps25, Try.results25]
  refine gwp_sr rfl (by decide) rfl rfl fun K hK => ?_
  simp -dsimp
  refine hK _ _ ?_; clear hK K
  refine gwp_sd mixed rfl (by decide) rfl rfl fun K hK => ?_
  simp -dsimp [f2, wm1]
  refine hK _ _ _ (by decide +kernel) ?_; clear hK K
  refine gwp_seq_k fun K1 hK1 => ?_
  refine gwp_sr rfl (by decide) rfl rfl fun K hK => ?_
  simp -dsimp
  refine hK _ _ ?_; clear hK K
  refine gwp_block ?_
  refine gwp_prune [1, 3, 4] (Or.inr (by simp)) ?_
  simp only [prune, List.map_cons, List.map_nil, Go.AM.look, Nat.reduceEqDiff, reduceIte]
  refine gwp_loop_l [1, 3] (α := Nat) (fun k => [(4, I k)]) (fun k => [some (.els 6 [j.cells]), kRow (List.replicate j.Phases.length 0), some (.els 12 [rC j (I (-1)) (I 0) (Bo true) (I 0) (.row 3 0 k) (.row 1 0 j.Phases.length)]), rRow (opL j k)]) (fun k => k ≤ j.n) (fun k => j.n - k) 0 ?_ ?_ ?_
  · exact Nat.zero_le _
  · exact gsub ((sub_nilc 2 0 10 2 (sz0 := 12) (by simp; rfl) (by simp; rfl) (by simp)).trans (sub_rb [some 0, some 1, some 2, some 3] rfl (by simp) (by simp [opL]))) (by simp)
  rintro k k1
  simp only [List.cons_append, List.nil_append, prune, List.map_cons, List.map_nil, Go.AM.look, Nat.reduceEqDiff, reduceIte]
  refine gwp_seq_k fun K2 hK2 => ?_
  refine gwp_sr rfl (by decide) rfl rfl fun K hK => ?_
  simp -dsimp
  refine hK _ _ ?_; clear hK K
  refine gwp_cond rfl (fun hc0 => ?_) (fun hc0 => ?_)
  · skip
    skip
    have hkn : k < j.n := by rw [hnl]; simpa using hc0
    have wk : IntKind.i64.wrap ((k : Int) + 1) = (k : Int) + 1 := wrap_in (by omega) (by omega)
    have f1 : Fits (k + 1) 17 := fits_of (by omega) (by omega)
    have hol := opL_len j k
    have hos := opL_succ j k
    generalize opL j k = L at hol hos ⊢
    have htL : List.take k (L.map Lt.cells) = L.map Lt.cells := List.take_of_length_le (by simp; omega)
    have hLk : k ≤ L.length := by omega
    refine gwp_skip ?_
    simp only [thenA, inBlockA, reduceIte, Nat.reduceEqDiff, eq_self]
    refine hK2 _ _ ?_
    refine gwp_prune [1, 3, 4] (Or.inr (by simp)) ?_
    simp only [prune, List.map_cons, List.map_nil, Go.AM.look, Nat.reduceEqDiff, reduceIte]
    refine gwp_seq_k fun K3 hK3 => ?_
    refine gwp_block ?_
    refine gwp_draw mixed rfl (by decide) rfl rfl fun K hK => ?_
    simp -dsimp [f1, gp, htL, hol]
    refine callK_intro _ (c_rHas (rowAt j.Phases 0) k (by omega)) (by simp) ?_
    simp -dsimp [f1, gp, htL, hol]
    refine hK _ _ _ (by decide +kernel) ?_; clear hK K
    simp only [thenA, inBlockA, reduceIte, Nat.reduceEqDiff, eq_self]
    refine hK3 _ _ ?_
    refine gwp_prune [1, 3, 4] (Or.inr (by simp)) ?_
    simp only [prune, List.map_cons, List.map_nil, Go.AM.look, Nat.reduceEqDiff, reduceIte]
    refine gwp_r rfl (by decide) rfl rfl fun K hK => ?_
    simp -dsimp [wk]
    refine hK _ _ ?_; clear hK K
    simp only [thenA, inBlockA, reduceIte, Nat.reduceEqDiff, eq_self]
    exact ⟨k + 1, by omega, by omega, gsub (sub_rb [some 0, some 1, some 2, some 4] rfl (by simp) (by simp [hos, hol])) (by simp)⟩
  · skip
    skip
    have hkn : ¬ k < j.n := by rw [hnl]; simpa using hc0
    have hkk : k = j.n := by omega
    subst hkk
    rw [hex]
    refine gwp_exit ?_
    simp only [thenA, inBlockA, reduceIte, Nat.reduceEqDiff, eq_self]
    refine hK1 _ _ ?_
    refine gwp_prune [3] (Or.inr (by simp)) ?_
    simp only [prune, List.map_cons, List.map_nil, Go.AM.look, Nat.reduceEqDiff, reduceIte]
    refine gwp_sr rfl (by decide) rfl rfl fun K hK => ?_
    simp -dsimp
    refine hK _ _ ?_; clear hK K
    exact gwp_ret ⟨[some 2, some 3, some 1], rfl, by simp, by simp [openS], by simp, by simp [resP, tupOf]⟩
end Go.Street
