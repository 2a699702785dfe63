/- Laws: endless moves. -/
import Derived.Test.YtdabjdajemiagaaGreatQ3
import Derived.Test.YtdabjdajemiagaaGreatP4
namespace Go.Tram
open Go.AM Go.Proofs
set_option linter.unusedVariables false
set_option linter.unusedSimpArgs false

theorem endL_len' (p : Plan) : (endL p).length = 2 * p.Rails.length := by simp [endL]
theorem endTo_iff {p : Plan} (hv : validB p = true) {i : Int} (h0 : 0 ≤ i) (h1 : i < 2 * p.Rails.length) : endTo p i (2 * p.Rails.length) = true ↔ ∃ j, Reach p i j ∧ Reach p j j := by
  unfold endTo
  simp only [Bool.or_eq_true, List.any_eq_true, List.mem_range, Bool.and_eq_true, rB_iff]
  constructor
  · rintro (h | ⟨j, _, h1, h2⟩)
    · exact ⟨i, h, h⟩
    · exact ⟨j, h1, h2⟩
  · rintro ⟨j, h2, h3⟩
    have hb := reach_bd hv h0 h1 h2
    exact Or.inr ⟨j.toNat, by omega, by rw [show ((j.toNat : Nat) : Int) = j by omega]; exact ⟨h2, h3⟩⟩
theorem endL_get {p : Plan} {k : Int} (h0 : 0 ≤ k) (h1 : k < 2 * p.Rails.length) : (endL p)[k.toNat]? = some (endTo p k (2 * p.Rails.length)) := by
  unfold endL
  rw [List.getElem?_map, List.getElem?_range (by omega)]
  simp only [Option.map_some]
  rw [show ((k.toNat : Nat) : Int) = k by omega]
theorem reach_first {p : Plan} {i j : Int} (h : Reach p i j) : ∃ y ∈ nxI p i, y = j ∨ Reach p y j := by
  induction h with
  | one h => exact ⟨_, h, Or.inl rfl⟩
  | more h hk ih =>
    obtain ⟨y, hy, h2⟩ := ih
    refine ⟨y, hy, Or.inr ?_⟩
    rcases h2 with rfl | h2
    · exact .one hk
    · exact .more h2 hk
theorem end_step {p : Plan} (hv : validB p = true) {i : Int} (h0 : 0 ≤ i) (h1 : i < 2 * p.Rails.length) : ((nxI p i).any fun y => endTo p y (2 * p.Rails.length)) = endTo p i (2 * p.Rails.length) := by
  rw [Bool.eq_iff_iff, endTo_iff hv h0 h1, List.any_eq_true]
  constructor
  · rintro ⟨y, hy, h⟩
    have hb := nxI_bd hv h0 h1 hy
    obtain ⟨j, g1, g2⟩ := (endTo_iff hv hb.1 hb.2).1 h
    exact ⟨j, reach_trans (.one hy) g1, g2⟩
  · rintro ⟨j, g1, g2⟩
    obtain ⟨y, hy, h⟩ := reach_first g1
    have hb := nxI_bd hv h0 h1 hy
    refine ⟨y, hy, (endTo_iff hv hb.1 hb.2).2 ?_⟩
    rcases h with rfl | h
    · exact ⟨y, g2, g2⟩
    · exact ⟨j, h, g2⟩
theorem num_bd {p : Plan} {m : Move} (h : movB p m = true) : 0 ≤ numM m ∧ numM m < 2 * p.Rails.length := by
  have := movB_iff.1 h
  unfold numM; split <;> omega
theorem foll_nxI {p : Plan} (hv : validB p = true) {m k : Move} (hm : movB p m = true) (h : follB p m k = true) : numM k ∈ nxI p (numM m) := by
  have hm' := movB_iff.1 hm
  have hb := num_bd hm
  unfold follB at h
  obtain ⟨x, hx, he⟩ := List.any_eq_true.1 h
  obtain rfl : x = k := by simpa using he
  have e : nextL p m = (nxI p (numM m)).map moveM := by rw [← nxI_next, moveM_numM hm'.1]
  rw [e] at hx
  obtain ⟨y, hy, rfl⟩ := List.mem_map.1 hx
  rw [numM_moveM (nxI_bd hv hb.1 hb.2 hy).1]
  exact hy
theorem way_fol {p : Plan} {l : List Move} (h : wayB p l = true) {i : Nat} (hi : i + 1 < l.length) : follB p (mvAt l i) (mvAt l (i + 1)) = true := by
  have := allR_at (Bool.and_eq_true_iff.1 h).1 hi
  unfold stepB at this
  have h2 := (Bool.and_eq_true_iff.1 this).2
  simp at h2
  exact h2

theorem way_reach {p : Plan} (hv : validB p = true) {l : List Move} (hw : wayB p l = true) {a : Nat} : ∀ d, a + d + 1 < l.length → Reach p (numM (mvAt l a)) (numM (mvAt l (a + d + 1)))
  | 0, h => .one (foll_nxI hv (way_mov hw a (by omega)) (way_fol hw (by omega)))
  | d + 1, h => .more (way_reach hv hw d (by omega)) (foll_nxI hv (way_mov hw _ (by omega)) (way_fol hw (by omega)))
theorem pigeon {n : Nat} {f : Nat → Int} (hf : ∀ i, i ≤ n → 0 ≤ f i ∧ f i < n) : ∃ a d, a + d + 1 ≤ n ∧ f a = f (a + d + 1) := by
  refine Classical.byContradiction fun hno => ?_
  have hne : ∀ a b, a < b → b ≤ n → f a ≠ f b := fun a b h1 h2 e => hno ⟨a, b - a - 1, by omega, by rw [show a + (b - a - 1) + 1 = b by omega]; exact e⟩
  have hnd : ((List.range n).map f).Nodup := by
    unfold List.Nodup
    rw [List.pairwise_map]
    refine List.Pairwise.imp_of_mem ?_ List.pairwise_lt_range
    intro a b ha hb hab
    exact hne a b hab (by have := List.mem_range.1 hb; omega)
  have := sub_full ((List.range n).map f) ((List.range n).map fun (i : Nat) => (i : Int)) hnd (fun x hx => by
    obtain ⟨i, hi, rfl⟩ := List.mem_map.1 hx
    have hi := List.mem_range.1 hi
    have := hf i (by omega)
    exact List.mem_map.2 ⟨(f i).toNat, List.mem_range.2 (by omega), by omega⟩) (by simp) (f n) (by
      have := hf n (by omega)
      exact List.mem_map.2 ⟨(f n).toNat, List.mem_range.2 (by omega), by omega⟩)
  obtain ⟨i, hi, he⟩ := List.mem_map.1 this
  exact hne i n (List.mem_range.1 hi) (by omega) he
theorem long_endless {p : Plan} (hv : validB p = true) {l : List Move} (hw : wayB p l = true) (hl : 2 * p.Rails.length < l.length) : endTo p (numM (mvAt l 0)) (2 * p.Rails.length) = true := by
  have hb := num_bd (way_mov hw 0 (by omega))
  rw [endTo_iff hv hb.1 hb.2]
  obtain ⟨a, d, h1, h2⟩ := pigeon (n := 2 * p.Rails.length) (f := fun i => numM (mvAt l i)) (fun i hi => by
    have := num_bd (way_mov hw i (by omega))
    omega)
  have hr := way_reach hv hw (a := a) d (by omega)
  rw [← h2] at hr
  rcases a with _ | a
  · exact ⟨_, hr, hr⟩
  · have := way_reach hv hw (a := 0) a (by omega)
    rw [show 0 + a + 1 = a + 1 by omega] at this
    exact ⟨_, this, hr⟩
end Go.Tram
