/- Plain law: what the specification calls a junction as defined is what the program's checks let through. -/
import Derived.Test.YtmenlmioccciiaaZ4
namespace Go.Street
open Go.AM Go.Proofs
set_option maxRecDepth 10000
set_option maxHeartbeats 4000000
set_option linter.unusedVariables false
set_option linter.unusedSimpArgs false

def riseEl (l : List Int) (n : Int) (k : Nat) : Bool := inr (at0 l k) 0 (n - 1) && !(decide (0 < k) && decide (at0 l k ≤ at0 l (k - 1 : Nat)))
def risB (l : List Int) (n : Int) : Bool := (List.range l.length).all (riseEl l n)
def leastEl (j : Jn) (p : List Int) (lim : Int) (k : Nat) : Bool := decide ((strm j (at0 p k)).Least ≤ lim) && !(p.take k).any fun x => conf j x (at0 p k)
structure PhV (j : Jn) (p : List Int) (lim : Int) : Prop where
  ne : p.length ≠ 0
  ris : risB p j.n = true
  lm : inr lim 1 600 = true
  el : ∀ k : Nat, k < p.length → leastEl j p lim k = true
structure JV (j : Jn) : Prop where
  n : inr j.n 1 20 = true
  cl : j.Clears.length = j.n
  p : inr j.Phases.length 1 12 = true
  ll : j.Longest.length = j.Phases.length
  sk : inr j.Skips 0 20 = true
  gl : j.Gates.length ≤ 20
  a : ∀ a : Nat, a < j.n → strmB (strm j a) = true ∧ (rowAt j.Clears a).length = j.n
  c : ∀ a b : Nat, a < j.n → b < j.n → cellB j a b = true
  ph : ∀ i : Nat, i < j.Phases.length → PhV j (rowAt j.Phases i) (at0 j.Longest i)
  all : ∀ a : Nat, a < j.n → (a : Int) ∈ j.Phases.flatten
  g : ∀ (k : Nat) (g : Gt), j.Gates[k]? = some g → gtB j (j.Gates.take k) g = true

theorem maxI_le_iff {a b B : Int} : maxI a b ≤ B ↔ a ≤ B ∧ b ≤ B := by
  unfold maxI; split <;> omega
theorem maxL_le {j : Jn} {B : Int} (p : List Int) : maxL j p ≤ B ↔ 0 ≤ B ∧ ∀ x ∈ p, (strm j x).Least ≤ B := by
  have gen : ∀ (p : List Int) (m : Int), p.foldl (fun m s => maxI m (strm j s).Least) m ≤ B ↔ m ≤ B ∧ ∀ x ∈ p, (strm j x).Least ≤ B := by
    intro p
    induction p with
    | nil => intro m; simp
    | cons y p ih =>
      intro m
      rw [List.foldl_cons, ih, maxI_le_iff]
      simp only [List.mem_cons, forall_eq_or_imp, and_assoc]
  exact gen p 0
theorem phV_iff {j : Jn} {p : List Int} {lim : Int} : phB j p lim = true ↔ PhV j p lim := by
  have hel : ∀ k, elB j p k = (riseEl p j.n k && !(p.take k).any fun x => conf j x (at0 p k)) := fun k => rfl
  constructor
  · intro h
    simp only [phB, Bool.and_eq_true, List.all_eq_true, List.mem_range, decide_eq_true_eq, inr_iff, maxI_le_iff, hel] at h
    obtain ⟨⟨h1, h2⟩, h3, h4⟩ := h
    have hm := (maxL_le p).1 h3.2
    refine ⟨h2, ?_, inr_iff.2 ⟨h3.1, h4⟩, fun k hk => ?_⟩
    · simp only [risB, List.all_eq_true, List.mem_range]
      exact fun k hk => (h1 k hk).1
    · simp only [leastEl, Bool.and_eq_true, decide_eq_true_eq]
      exact ⟨hm.2 _ (List.mem_of_getElem? (at0_nat hk)), (h1 k hk).2⟩
  · intro h
    have h1 := h.ris
    simp only [risB, List.all_eq_true, List.mem_range] at h1
    have h3 := inr_iff.1 h.lm
    have h4 := h.el
    simp only [leastEl, Bool.and_eq_true, decide_eq_true_eq] at h4
    simp only [phB, Bool.and_eq_true, List.all_eq_true, List.mem_range, decide_eq_true_eq, inr_iff, maxI_le_iff, hel]
    refine ⟨⟨fun k hk => ⟨h1 k hk, (h4 k hk).2⟩, h.ne⟩, ⟨h3.1, (maxL_le p).2 ⟨by omega, fun x hx => ?_⟩⟩, h3.2⟩
    obtain ⟨k, hk⟩ := List.getElem?_of_mem hx
    have := (h4 k (List.getElem?_eq_some_iff.1 hk).1).1
    rwa [at0_of hk] at this
theorem gatesTo_iff {j : Jn} : ∀ n : Nat, gatesTo j n = true ↔ ∀ (k : Nat) (g : Gt), k < n → j.Gates[k]? = some g → gtB j (j.Gates.take k) g = true
  | 0 => by simp [gatesTo]
  | n + 1 => by
    simp only [gatesTo, Bool.and_eq_true, gatesTo_iff n]
    constructor
    · rintro ⟨h1, h2⟩ k g hk hg
      rcases Nat.lt_succ_iff_lt_or_eq.1 hk with h | rfl
      · exact h1 k g h hg
      · rw [hg] at h2; exact h2
    · intro h
      refine ⟨fun k g hk hg => h k g (by omega) hg, ?_⟩
      cases hg : j.Gates[n]? with
      | none => rfl
      | some g => exact h n g (by omega) hg
theorem jnB_iff {j : Jn} : jnB j = true ↔ JV j := by
  constructor
  · intro h
    have ho := jnB_ok h
    simp only [jnB, Bool.and_eq_true] at h
    obtain ⟨⟨⟨h1, h2⟩, h3⟩, h4⟩ := h
    simp only [streamsB, Bool.and_eq_true, List.all_eq_true] at h1
    have hsq := clears_sqr h2
    simp only [clearsB, Bool.and_eq_true, List.all_eq_true, List.mem_range] at h2
    simp only [phasesB, Bool.and_eq_true, decide_eq_true_eq, List.all_eq_true, List.mem_range] at h3
    simp only [gatesB, Bool.and_eq_true, decide_eq_true_eq] at h4
    refine ⟨h1.1, hsq.len, h3.1.1.1.1, h3.1.1.1.2, h3.1.1.2, h4.2, fun a ha => ⟨?_, ?_⟩, fun a b ha hb => h2.2 a ha b hb, fun i hi => phV_iff.1 (h3.1.2 i hi), h3.2, fun k g hg => ?_⟩
    · exact h1.2 _ (List.mem_of_getElem? (strm_get (j := j) (s := (a : Int)) (by omega) (by omega)))
    · exact (hsq.row (a := (a : Int)) (by omega) (by omega)).2
    · exact (gatesTo_iff _).1 h4.1 k g (List.getElem?_eq_some_iff.1 hg).1 hg
  · intro h
    simp only [jnB, streamsB, clearsB, phasesB, gatesB, Bool.and_eq_true, List.all_eq_true, List.mem_range, decide_eq_true_eq]
    refine ⟨⟨⟨⟨h.n, fun s hs => ?_⟩, ⟨⟨h.cl, fun r hr => ?_⟩, fun a ha b hb => h.c a b ha hb⟩⟩, ⟨⟨⟨⟨h.p, h.ll⟩, h.sk⟩, fun i hi => phV_iff.2 (h.ph i hi)⟩, h.all⟩⟩, ⟨(gatesTo_iff _).2 fun k g _ hg => h.g k g hg, h.gl⟩⟩
    · obtain ⟨k, hk⟩ := List.getElem?_of_mem hs
      have := (h.a k (List.getElem?_eq_some_iff.1 hk).1).1
      rwa [show strm j (k : Int) = s by simp [strm, hk]] at this
    · obtain ⟨k, hk⟩ := List.getElem?_of_mem hr
      have hkl := (List.getElem?_eq_some_iff.1 hk).1
      have := (h.a k (by rw [← h.cl]; exact hkl)).2
      rwa [rowAt_of hk] at this
theorem jnB_ff {j : Jn} (h : ¬ JV j) : jnB j = false := by
  cases hh : jnB j with
  | false => rfl
  | true => exact absurd (jnB_iff.1 hh) h

/-- Which streams are served. -/
def sv (n : Nat) (l : List Int) : List Bool := (List.range n).map fun (a : Nat) => decide ((a : Int) ∈ l)
@[simp] def bCell (b : Bool) : List AV := [Bo b]
theorem sv_len (n : Nat) (l : List Int) : (sv n l).length = n := by simp [sv]
theorem sv_nil (n : Nat) : sv n [] = List.replicate n false := by
  refine List.ext_getElem (by simp [sv]) fun i h1 h2 => by simp [sv]
theorem sv_set (n : Nat) (l : List Int) (x : Int) (h0 : 0 ≤ x) : (sv n l).set x.toNat true = sv n (l ++ [x]) := by
  refine List.ext_getElem (by simp [sv]) fun i h1 h2 => ?_
  rw [List.getElem_set]
  simp only [sv, List.getElem_map, List.getElem_range, List.mem_append, List.mem_singleton]
  by_cases h : x.toNat = i
  · rw [if_pos h, eq_comm, decide_eq_true_eq]; right; omega
  · rw [if_neg h, decide_eq_decide]
    constructor
    · exact Or.inl
    · rintro (h1 | h1)
      · exact h1
      · omega
theorem sv_get {n : Nat} {l : List Int} {a : Nat} (h : a < n) : (sv n l)[a]? = some (decide ((a : Int) ∈ l)) := by
  rw [List.getElem?_eq_getElem (by rw [sv_len]; exact h)]
  simp [sv]
theorem flat_bCell (l : List Bool) : (l.map bCell).all (fun e => e.all flatC) = true := by simp [flatC]
@[simp high] theorem flat_bCell_ren (l : List Bool) (g : List (Option Nat)) (n : Nat) : (l.map bCell).map (fun e => e.map (renAV g n)) = l.map bCell := map_flatC (fun x h => flatC_ren h g n) (flat_bCell l)
@[simp high] theorem flat_bCell_renF (l : List Bool) (H : Nat → Option ARow) (g : List (Option Nat)) (n : Nat) : (l.map bCell).map (fun e => e.map (renF H g n)) = l.map bCell := map_flatC (fun x h => flatC_renF h H g n) (flat_bCell l)
@[simp high] theorem flat_bCell_frzP (l : List Bool) (H : Hp) (n : Nat) : (l.map bCell).map (fun e => e.map (frzP H n)) = l.map bCell := map_flatC (fun x h => flatC_frzP h H n) (flat_bCell l)
@[simp high] theorem flat_bCell_frz (l : List Bool) (H : Nat → Option ARow) (n : Nat) : (l.map bCell).map (fun e => e.map (frz H n)) = l.map bCell := map_flatC (fun x h => flatC_frz h H n) (flat_bCell l)
@[simp high] theorem flat_bCell_plain (l : List Bool) : plainEls (l.map bCell) = true := plain_flat (flat_bCell l)
end Go.Street
