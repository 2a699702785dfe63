/- Laws: distances by rounds; which lists are consistent; the shortest way by numbers. -/
import Derived.Test.YtdabjdajemiagaaGreatD6
import Derived.Test.YtdabjdajemiagaaGreatP10
namespace Go.Tram
open Go.AM Go.Proofs
set_option linter.unusedVariables false
set_option linter.unusedSimpArgs false

/-- Few moves. -/
def MvB (p : Plan) (s : DSt) : Prop := ∀ k : Nat, k < 2 * p.Rails.length → 0 ≤ gd s.ln k → gd s.mv k ≤ 2 * p.Rails.length ∧ gd s.ln k ≤ 2 * p.Rails.length * 31000000
theorem mvb_step {p : Plan} {s : DSt} (ok : DOk p s) (h : MvB p s) (hq : s.q ≠ []) : MvB p (dStep p s) := by
  have hx := ok.q _ (popX_mem hq)
  unfold dStep
  generalize popX s.q = x at hx ⊢
  split
  · exact h
  · intro k hk hk0
    simp only at hk0 ⊢
    have hil : x.Move.toNat < s.ln.length := by rw [ok.ln]; omega
    have him : x.Move.toNat < s.mv.length := by rw [ok.mv]; omega
    rw [gd_setI hil] at hk0
    rw [gd_setI him, gd_setI hil]
    split
    · omega
    · rename_i e
      rw [if_neg e] at hk0
      exact h k hk hk0
theorem mvb_run {p : Plan} (hv : validB p = true) : ∀ (k : Nat) (s : DSt), DOk p s → MvB p s → MvB p (dRun p k s)
  | 0, s, _, h => h
  | k + 1, s, ok, h => by
    simp only [dRun]
    by_cases hq : s.q = []
    · rw [if_pos hq]; exact h
    · rw [if_neg hq]; exact mvb_run hv k _ (dStep_ok hv ok hq).1 (mvb_step ok h hq)
theorem mvb_end {p : Plan} {to : Int} (hv : validB p = true) (h0 : 0 ≤ to) (h1 : to < 2 * p.Rails.length) : MvB p (dEnd p to) := by
  refine mvb_run hv _ _ (dInit_ok h0 h1) ?_
  intro k hk hk0
  rw [show gd (dInit p to).ln k = -1 from gd_rep hk] at hk0
  omega

theorem foll_mem {p : Plan} (hv : validB p = true) {k j : Int} (h0 : 0 ≤ k) (h1 : k < 2 * p.Rails.length) : (0 ≤ j ∧ follB p (moveM k) (moveM j) = true) ↔ j ∈ nxI p k := by
  constructor
  · rintro ⟨hj, h⟩
    unfold follB at h
    obtain ⟨x, hx, he⟩ := List.any_eq_true.1 h
    obtain rfl : x = moveM j := by simpa using he
    rw [nxI_next] at hx
    obtain ⟨y, hy, e⟩ := List.mem_map.1 hx
    have hb := nxI_bd hv h0 h1 hy
    have := congrArg numM e
    rw [numM_moveM hb.1, numM_moveM hj] at this
    rw [← this]; exact hy
  · intro h
    refine ⟨(nxI_bd hv h0 h1 h).1, ?_⟩
    unfold follB
    rw [nxI_next, List.any_eq_true]
    exact ⟨moveM j, List.mem_map.2 ⟨j, h, rfl⟩, by simp⟩
theorem len_nx {p : Plan} (hv : validB p = true) {k y : Int} (h0 : 0 ≤ k) (h1 : k < 2 * p.Rails.length) (hy : y ∈ nxI p k) : 1 ≤ p.len (y / 2) ∧ p.len (y / 2) ≤ 31000000 := by
  have := nxI_bd hv h0 h1 hy
  exact len_bd hv (r := y / 2) (by omega) (by omega)
theorem Pth.step {p : Plan} (hv : validB p = true) {to k y L n : Int} (h0 : 0 ≤ k) (h1 : k < 2 * p.Rails.length) (hy : y ∈ nxI p k) (h : Pth p to y L n) : Pth p to k (L + p.len (y / 2)) (n + 1) :=
  .cons h0 h1 ((foll_mem hv h0 h1).2 hy).2 h

/-! ## The document's rounds -/
structure BFI (p : Plan) (to : Int) (out : List Int) : Prop where
  len : out.length = 2 * p.Rails.length
  ps : ∀ k : Nat, k < 2 * p.Rails.length → gd out k = -1 ∨ ∃ n, Pth p to k (gd out k) n
  to0 : gd out to.toNat = 0
  bd : ∀ k : Nat, k < 2 * p.Rails.length → gd out k ≤ (2 * p.Rails.length - negs out : Nat) * 31000000
def bfS (p : Plan) (i : Nat) (s : List Int × Bool) (y : Int) : List Int × Bool :=
  if gd s.1 y.toNat < 0 then s else if gd s.1 i < 0 ∨ gd s.1 y.toNat + p.len (y / 2) < gd s.1 i then (s.1.set i (gd s.1 y.toNat + p.len (y / 2)), false) else s
def okAt (p : Plan) (out : List Int) (k y : Int) : Prop := 0 ≤ gd out y.toNat → 0 ≤ gd out k.toNat ∧ gd out k.toNat ≤ gd out y.toNat + p.len (y / 2)
def bval (x : Int) : Nat := if x < 0 then 30000000000 else x.toNat
def phi (l : List Int) : Nat := (l.map bval).sum
theorem phi_set : ∀ {l : List Int} {i : Nat} {x : Int}, i < l.length → phi (l.set i x) + bval (gd l i) = phi l + bval x
  | [], i, x, h => by simp at h
  | a :: l, 0, x, h => by simp [phi, gd]; omega
  | a :: l, i + 1, x, h => by
    have := phi_set (l := l) (i := i) (x := x) (by simpa using h)
    simp only [phi, List.set_cons_succ, List.map_cons, List.sum_cons] at this ⊢
    have e : gd (a :: l) (i + 1) = gd l i := by simp [gd]
    rw [e]; omega
theorem negs_le (l : List Int) : negs l ≤ l.length := List.countP_le_length
theorem negs_setN {l : List Int} {i : Nat} {x : Int} (hi : i < l.length) (h : 0 ≤ gd l i) (hx : 0 ≤ x) : negs (l.set i x) = negs l := by
  unfold negs
  rw [List.countP_set hi]
  have e : gd l i = l[i] := by unfold gd; rw [List.getD_eq_getElem?_getD, List.getElem?_eq_getElem hi]; rfl
  rw [e] at h
  rw [if_neg (by simpa using h), if_neg (by simpa using hx)]; omega
theorem bfS_ok {p : Plan} {to : Int} (hv : validB p = true) (t0 : 0 ≤ to) (t1 : to < 2 * p.Rails.length) {i : Nat} (hi : i < 2 * p.Rails.length) {y : Int} (hy : y ∈ nxI p i) {out : List Int} {same : Bool} (h : BFI p to out) :
    BFI p to (bfS p i (out, same) y).1 ∧ ((bfS p i (out, same) y = (out, same) ∧ okAt p out i y) ∨ ((bfS p i (out, same) y).2 = false ∧ phi (bfS p i (out, same) y).1 < phi out)) := by
  have hb := nxI_bd hv (k := i) (by omega) (by omega) hy
  have hl := len_nx hv (k := i) (by omega) (by omega) hy
  have hR := (valid_parts hv).2.1
  unfold bfS
  simp only
  by_cases g1 : gd out y.toNat < 0
  · rw [if_pos g1]
    exact ⟨h, Or.inl ⟨rfl, fun g => by omega⟩⟩
  · rw [if_neg g1]
    by_cases g2 : gd out i < 0 ∨ gd out y.toNat + p.len (y / 2) < gd out i
    · rw [if_pos g2]
      have hil : i < out.length := by rw [h.len]; exact hi
      have hne : to.toNat ≠ i := by
        rintro rfl
        have := h.to0
        omega
      have hby := h.bd y.toNat (by omega)
      have hnl := negs_le out
      rw [h.len] at hnl
      have hps := h.ps i hi
      have hneg : negs (out.set i (gd out y.toNat + p.len (y / 2))) ≤ negs out ∧ (gd out i < 0 → negs (out.set i (gd out y.toNat + p.len (y / 2))) + 1 = negs out) := by
        by_cases g3 : gd out i < 0
        · have := negs_set (x := gd out y.toNat + p.len (y / 2)) hil g3 (by omega)
          exact ⟨by omega, fun _ => this⟩
        · have := negs_setN (x := gd out y.toNat + p.len (y / 2)) hil (by omega) (by omega)
          exact ⟨by omega, fun g => absurd g g3⟩
      have hbi := h.bd i hi
      refine ⟨⟨by simpa using h.len, fun k hk => ?_, by rw [gd_setI hil, if_neg hne]; exact h.to0, fun k hk => ?_⟩, Or.inr ⟨rfl, ?_⟩⟩
      · simp only
        rw [gd_setI hil]
        split
        · rename_i e
          subst e
          right
          rcases h.ps y.toNat (by omega) with e | ⟨n, e⟩
          · omega
          · rw [show ((y.toNat : Nat) : Int) = y by omega] at e
            exact ⟨n + 1, e.step hv (by omega) (by omega) hy⟩
        · exact h.ps k hk
      · simp only
        rw [gd_setI hil]
        generalize out.set i (gd out y.toNat + p.len (y / 2)) = o' at hneg ⊢
        split
        · by_cases g3 : gd out i < 0
          · have := hneg.2 g3
            omega
          · omega
        · have := h.bd k hk
          omega
      · have hph := phi_set (x := gd out y.toNat + p.len (y / 2)) hil
        simp only
        have hbv : bval (gd out y.toNat + p.len (y / 2)) < bval (gd out i) := by
          unfold bval
          rw [if_neg (by omega)]
          split
          · omega
          · omega
        omega
    · rw [if_neg g2]
      refine ⟨h, Or.inl ⟨rfl, fun g => ?_⟩⟩
      rw [show ((i : Int).toNat) = i by omega]
      omega
def bf0 (p : Plan) (to : Int) : List Int := (List.replicate (2 * p.Rails.length) (-1)).set to.toNat 0
theorem bf0_ok {p : Plan} {to : Int} (t0 : 0 ≤ to) (t1 : to < 2 * p.Rails.length) : BFI p to (bf0 p to) := by
  have hl : to.toNat < (List.replicate (2 * p.Rails.length) (-1 : Int)).length := by simp; omega
  have hg : ∀ k, gd (bf0 p to) k = if k = to.toNat then 0 else gd (List.replicate (2 * p.Rails.length) (-1)) k := fun k => gd_setI hl
  refine ⟨by simp [bf0], fun k hk => ?_, by rw [hg, if_pos rfl], fun k hk => ?_⟩
  · rw [hg]
    split
    · rename_i e
      right
      refine ⟨0, ?_⟩
      rw [show ((k : Nat) : Int) = to by omega]
      exact .nil
    · rw [gd_rep hk]; exact Or.inl rfl
  · rw [hg]
    split
    · omega
    · rw [gd_rep hk]; omega
theorem bf_end {p : Plan} {to : Int} (hv : validB p = true) (t0 : 0 ≤ to) (t1 : to < 2 * p.Rails.length) {out : List Int} (h : BFI p to out) (hc : ∀ k : Nat, k < 2 * p.Rails.length → ∀ y ∈ nxI p k, okAt p out k y) : out = (dEnd p to).ln := by
  refine (dEnd_ok hv t0 t1).uniq hv t0 t1 h.len h.ps fun k L n hp => ?_
  induction hp with
  | nil => have := h.to0; omega
  | @cons k j L n g0 g1 hf hp ih =>
    have hb := hp.bd hv t0 t1
    have hy := (foll_mem hv g0 g1).1 ⟨hb.1.1, hf⟩
    have := hc k.toNat (by omega) j (by rw [show ((k.toNat : Nat) : Int) = k by omega]; exact hy) ih.1
    rw [show ((k.toNat : Nat) : Int) = k by omega] at this
    omega

/-! ## Consistent lists -/
def cpS (p : Plan) (l : List Int) (best y : Int) : Int := if gd l y.toNat = -1 then best else if best = -1 ∨ gd l y.toNat + p.len (y / 2) < best then gd l y.toNat + p.len (y / 2) else best
def crS (p : Plan) (l : List Int) (best y : Int) : Int := if gd l y.toNat = -1 then best else if best < 0 ∨ gd l y.toNat + p.len (y / 2) < best then gd l y.toNat + p.len (y / 2) else best
def cFold (S : Int → Int → Int) (N : List Int) : Int := N.foldl S (-1)
theorem cFold_snoc (S : Int → Int → Int) (N : List Int) (y : Int) : cFold S (N ++ [y]) = S (cFold S N) y := by simp [cFold]
def cAt (p : Plan) (to : Int) (l : List Int) (S : Int → Int → Int) (k : Nat) : Bool := decide (gd l k = if (k : Int) = to then 0 else cFold S (nxI p k))
def consB (p : Plan) (to : Int) (l : List Int) (S : Int → Int → Int) : Bool := decide (l.length = 2 * p.Rails.length) && (List.range (2 * p.Rails.length)).all (cAt p to l S)
def IsS (p : Plan) (l : List Int) (S : Int → Int → Int) : Prop := ∀ b y, S b y = b ∨ (gd l y.toNat ≠ -1 ∧ S b y = gd l y.toNat + p.len (y / 2))
theorem cpS_is (p : Plan) (l : List Int) : IsS p l (cpS p l) := by
  intro b y; unfold cpS; split
  · exact Or.inl rfl
  · split
    · exact Or.inr ⟨by assumption, rfl⟩
    · exact Or.inl rfl
theorem crS_is (p : Plan) (l : List Int) : IsS p l (crS p l) := by
  intro b y; unfold crS; split
  · exact Or.inl rfl
  · split
    · exact Or.inr ⟨by assumption, rfl⟩
    · exact Or.inl rfl
theorem fold_src {p : Plan} {l : List Int} {S : Int → Int → Int} (hS : IsS p l S) : ∀ (N : List Int) (b : Int), N.foldl S b = b ∨ ∃ y ∈ N, gd l y.toNat ≠ -1 ∧ N.foldl S b = gd l y.toNat + p.len (y / 2)
  | [], b => Or.inl rfl
  | y :: N, b => by
    rw [List.foldl_cons]
    rcases fold_src hS N (S b y) with h | ⟨z, hz, h⟩
    · rcases hS b y with h2 | ⟨h2, h3⟩
      · exact Or.inl (by rw [h, h2])
      · exact Or.inr ⟨y, by simp, h2, by rw [h, h3]⟩
    · exact Or.inr ⟨z, by simp [hz], h⟩
theorem cons_at {p : Plan} {to : Int} {l : List Int} {S : Int → Int → Int} (h : consB p to l S = true) {k : Nat} (hk : k < 2 * p.Rails.length) : gd l k = if (k : Int) = to then 0 else cFold S (nxI p k) := by
  simp only [consB, Bool.and_eq_true, List.all_eq_true, List.mem_range] at h
  have := h.2 k hk
  unfold cAt at this
  exact of_decide_eq_true this
theorem cons_low {p : Plan} {to : Int} (hv : validB p = true) {l : List Int} {S : Int → Int → Int} (hS : IsS p l S) (h : consB p to l S = true) : ∀ (d : Nat) (k : Nat), k < 2 * p.Rails.length → gd l k < -1 → (∀ j : Nat, j < 2 * p.Rails.length → gd l k - d ≤ gd l j) → False := by
  intro d
  induction d with
  | zero =>
    intro k hk hk1 hm
    have e := cons_at h hk
    split at e
    · omega
    · rcases fold_src hS (nxI p k) (-1) with g | ⟨y, hy, g1, g2⟩
      · unfold cFold at e; omega
      · have hb := nxI_bd hv (by omega) (by omega) hy
        have hl := len_nx hv (by omega) (by omega) hy
        have := hm y.toNat (by omega)
        unfold cFold at e
        omega
  | succ d ih =>
    intro k hk hk1 hm
    have e := cons_at h hk
    split at e
    · omega
    · rcases fold_src hS (nxI p k) (-1) with g | ⟨y, hy, g1, g2⟩
      · unfold cFold at e; omega
      · have hb := nxI_bd hv (by omega) (by omega) hy
        have hl := len_nx hv (by omega) (by omega) hy
        unfold cFold at e
        exact ih y.toNat (by omega) (by omega) fun j hj => by have := hm j hj; omega
theorem least_of : ∀ (l : List Int), ∃ m : Int, m ≤ -1 ∧ ∀ j : Nat, j < l.length → m ≤ gd l j
  | [] => ⟨-1, by omega, by simp⟩
  | a :: l => by
    obtain ⟨m, h1, h2⟩ := least_of l
    refine ⟨if a < m then a else m, by split <;> omega, fun j hj => ?_⟩
    rcases j with _ | j
    · simp only [gd, List.getD_cons_zero]; split <;> omega
    · have := h2 j (by simpa using hj)
      have e : gd (a :: l) (j + 1) = gd l j := by simp [gd]
      rw [e]; split <;> omega
theorem cons_neg {p : Plan} {to : Int} (hv : validB p = true) {l : List Int} {S : Int → Int → Int} (hS : IsS p l S) (h : consB p to l S = true) : ∀ k : Nat, k < 2 * p.Rails.length → -1 ≤ gd l k := by
  intro k hk
  refine Classical.byContradiction fun hno => ?_
  obtain ⟨m, h1, h2⟩ := least_of l
  have hl : l.length = 2 * p.Rails.length := by simp only [consB, Bool.and_eq_true, decide_eq_true_eq] at h; exact h.1
  refine cons_low hv hS h (gd l k - m).toNat k hk (by omega) fun j hj => ?_
  have := h2 j (by omega)
  have := h2 k (by omega)
  omega
theorem fold_eq {p : Plan} {l : List Int} : ∀ (N : List Int) (b : Int), (∀ y ∈ N, -1 ≤ gd l y.toNat ∧ 1 ≤ p.len (y / 2)) → -1 ≤ b → N.foldl (cpS p l) b = N.foldl (crS p l) b
  | [], b, _, _ => rfl
  | y :: N, b, h, hb => by
    have hy := h y (by simp)
    have e : cpS p l b y = crS p l b y ∧ -1 ≤ cpS p l b y := by
      unfold cpS crS
      split
      · exact ⟨rfl, hb⟩
      · constructor
        · by_cases g : b = -1
          · rw [if_pos (Or.inl g), if_pos (Or.inl (by omega))]
          · by_cases g2 : gd l y.toNat + p.len (y / 2) < b
            · rw [if_pos (Or.inr g2), if_pos (Or.inr g2)]
            · rw [if_neg (by omega), if_neg (by omega)]
        · split <;> omega
    rw [List.foldl_cons, List.foldl_cons, ← e.1]
    exact fold_eq N _ (fun z hz => h z (by simp [hz])) e.2
theorem cons_eq {p : Plan} {to : Int} (hv : validB p = true) {l : List Int} : consB p to l (cpS p l) = consB p to l (crS p l) := by
  have key : (∀ k : Nat, k < 2 * p.Rails.length → -1 ≤ gd l k) → consB p to l (cpS p l) = consB p to l (crS p l) := by
    intro hn
    unfold consB
    congr 1
    refine all_congrR fun k hk => ?_
    unfold cAt
    have : cFold (cpS p l) (nxI p k) = cFold (crS p l) (nxI p k) := by
      refine fold_eq _ _ (fun y hy => ?_) (by omega)
      have hb := nxI_bd hv (by omega) (by omega) hy
      have hl := len_nx hv (by omega) (by omega) hy
      exact ⟨hn y.toNat (by omega), hl.1⟩
    rw [this]
  cases h1 : consB p to l (cpS p l) with
  | true => rw [← h1]; exact key (cons_neg hv (cpS_is p l) h1)
  | false =>
    cases h2 : consB p to l (crS p l) with
    | false => rfl
    | true => rw [← h1, ← h2]; exact key (cons_neg hv (crS_is p l) h2)
where
  all_congrR {n : Nat} {f g : Nat → Bool} (h : ∀ k, k < n → f k = g k) : (List.range n).all f = (List.range n).all g := by
    rw [Bool.eq_iff_iff]
    simp only [List.all_eq_true, List.mem_range]
    exact ⟨fun q k hk => by rw [← h k hk]; exact q k hk, fun q k hk => by rw [h k hk]; exact q k hk⟩

/-- What the least over the moves that follow is. -/
theorem fold_min {p : Plan} {l : List Int} : ∀ (N : List Int) (b : Int), (∀ y ∈ N, -1 ≤ gd l y.toNat ∧ 1 ≤ p.len (y / 2)) → -1 ≤ b →
    (N.foldl (cpS p l) b = -1 ∧ b = -1 ∧ ∀ y ∈ N, gd l y.toNat = -1) ∨
    (0 ≤ N.foldl (cpS p l) b ∧ (N.foldl (cpS p l) b = b ∨ ∃ y ∈ N, 0 ≤ gd l y.toNat ∧ N.foldl (cpS p l) b = gd l y.toNat + p.len (y / 2)) ∧ (0 ≤ b → N.foldl (cpS p l) b ≤ b) ∧ ∀ y ∈ N, 0 ≤ gd l y.toNat → N.foldl (cpS p l) b ≤ gd l y.toNat + p.len (y / 2))
  | [], b, _, hb => by
    by_cases e : b = -1
    · exact Or.inl ⟨e, e, by simp⟩
    · exact Or.inr ⟨by simp only [List.foldl_nil]; omega, Or.inl rfl, fun _ => Int.le_refl _, by simp⟩
  | y :: N, b, h, hb => by
    have hy := h y (by simp)
    have hN : ∀ z ∈ N, -1 ≤ gd l z.toNat ∧ 1 ≤ p.len (z / 2) := fun z hz => h z (by simp [hz])
    rw [List.foldl_cons]
    have hs : (gd l y.toNat = -1 ∧ cpS p l b y = b) ∨ (0 ≤ gd l y.toNat ∧ 0 ≤ cpS p l b y ∧ (cpS p l b y = b ∨ cpS p l b y = gd l y.toNat + p.len (y / 2)) ∧ (0 ≤ b → cpS p l b y ≤ b) ∧ cpS p l b y ≤ gd l y.toNat + p.len (y / 2)) := by
      unfold cpS
      split
      · exact Or.inl ⟨by assumption, rfl⟩
      · right
        split
        · exact ⟨by omega, by omega, Or.inr rfl, fun _ => by omega, Int.le_refl _⟩
        · exact ⟨by omega, by omega, Or.inl rfl, fun _ => Int.le_refl _, by omega⟩
    have ih := fold_min N (cpS p l b y) hN (by rcases hs with g | g <;> omega)
    generalize cpS p l b y = b' at hs ih
    generalize N.foldl (cpS p l) b' = r at ih
    rcases ih with ⟨r1, r2, r3⟩ | ⟨r1, r2, r3, r4⟩
    · rcases hs with ⟨g1, g2⟩ | ⟨g1, g2, _⟩
      · exact Or.inl ⟨r1, by omega, fun z hz => by rcases List.mem_cons.1 hz with rfl | hz; exact g1; exact r3 z hz⟩
      · omega
    · right
      rcases hs with ⟨g1, g2⟩ | ⟨g1, g2, g3, g4, g5⟩
      · subst g2
        refine ⟨r1, ?_, r3, fun z hz hz0 => ?_⟩
        · rcases r2 with r2 | ⟨z, hz, r2⟩
          · exact Or.inl r2
          · exact Or.inr ⟨z, by simp [hz], r2⟩
        · rcases List.mem_cons.1 hz with rfl | hz
          · omega
          · exact r4 z hz hz0
      · have r3' := r3 g2
        refine ⟨r1, ?_, fun hb0 => by have := g4 hb0; omega, fun z hz hz0 => ?_⟩
        · rcases r2 with r2 | ⟨z, hz, r2⟩
          · rcases g3 with g3 | g3
            · exact Or.inl (by omega)
            · exact Or.inr ⟨y, by simp, g1, by omega⟩
          · exact Or.inr ⟨z, by simp [hz], r2⟩
        · rcases List.mem_cons.1 hz with rfl | hz
          · omega
          · exact r4 z hz hz0
theorem cons_ln {p : Plan} {to : Int} (hv : validB p = true) (t0 : 0 ≤ to) (t1 : to < 2 * p.Rails.length) {l : List Int} (h : consB p to l (cpS p l) = true) : l = (dEnd p to).ln := by
  have hl : l.length = 2 * p.Rails.length := by simp only [consB, Bool.and_eq_true, decide_eq_true_eq] at h; exact h.1
  have hn := cons_neg hv (cpS_is p l) h
  have hN : ∀ k : Nat, k < 2 * p.Rails.length → ∀ y ∈ nxI p k, -1 ≤ gd l y.toNat ∧ 1 ≤ p.len (y / 2) := fun k hk y hy => by
    have hb := nxI_bd hv (by omega) (by omega) hy
    exact ⟨hn y.toNat (by omega), (len_nx hv (by omega) (by omega) hy).1⟩
  have hto : gd l to.toNat = 0 := by
    have := cons_at h (k := to.toNat) (by omega)
    rwa [if_pos (by omega)] at this
  refine (dEnd_ok hv t0 t1).uniq hv t0 t1 hl ?_ fun k L n hp => ?_
  · have key : ∀ (d k : Nat), k < 2 * p.Rails.length → 0 ≤ gd l k → (gd l k).toNat ≤ d → ∃ n, Pth p to k (gd l k) n := by
      intro d
      induction d with
      | zero =>
        intro k hk h0 hd
        have e := cons_at h hk
        split at e
        · rename_i ek
          exact ⟨0, by rw [e, ek]; exact .nil⟩
        · rcases fold_min (nxI p k) (-1) (hN k hk) (by omega) with g | ⟨_, g, _⟩
          · unfold cFold at e; omega
          · unfold cFold at e
            rcases g with g | ⟨y, hy, g1, g2⟩
            · omega
            · have := hN k hk y hy; omega
      | succ d ih =>
        intro k hk h0 hd
        have e := cons_at h hk
        split at e
        · rename_i ek
          exact ⟨0, by rw [e, ek]; exact .nil⟩
        · rcases fold_min (nxI p k) (-1) (hN k hk) (by omega) with g | ⟨_, g, _⟩
          · unfold cFold at e; omega
          · unfold cFold at e
            rcases g with g | ⟨y, hy, g1, g2⟩
            · omega
            · have hh := hN k hk y hy
              have hb := nxI_bd hv (by omega) (by omega) hy
              obtain ⟨n, hp⟩ := ih y.toNat (by omega) g1 (by omega)
              rw [show ((y.toNat : Nat) : Int) = y by omega] at hp
              have := hp.step hv (by omega) (by omega) hy
              exact ⟨n + 1, by rw [e, g2]; exact this⟩
    intro k hk
    by_cases g : gd l k = -1
    · exact Or.inl g
    · exact Or.inr (key _ k hk (by have := hn k hk; omega) (Nat.le_refl _))
  · induction hp with
    | nil => omega
    | @cons k j L n g0 g1 hf hp ih =>
      have hb := hp.bd hv t0 t1
      have hy := (foll_mem hv g0 g1).1 ⟨hb.1.1, hf⟩
      have hlj := len_nx hv g0 g1 hy
      have e := cons_at h (k := k.toNat) (by omega)
      rw [show ((k.toNat : Nat) : Int) = k by omega] at e
      split at e
      · omega
      · unfold cFold at e
        have hNk := hN k.toNat (by omega)
        rw [show ((k.toNat : Nat) : Int) = k by omega] at hNk
        rcases fold_min (nxI p k) (-1) hNk (by omega) with ⟨_, _, g⟩ | ⟨g2, _, _, g⟩
        · have := g j hy; omega
        · have := g j hy ih.1
          omega
theorem ln_cons {p : Plan} {to : Int} (hv : validB p = true) (t0 : 0 ≤ to) (t1 : to < 2 * p.Rails.length) : consB p to (dEnd p to).ln (cpS p (dEnd p to).ln) = true := by
  have hE := dEnd_ok hv t0 t1
  generalize (dEnd p to).ln = l at hE ⊢
  generalize (dEnd p to).mv = mv at hE
  simp only [consB, Bool.and_eq_true, decide_eq_true_eq, List.all_eq_true, List.mem_range]
  refine ⟨hE.ll, fun k hk => ?_⟩
  unfold cAt
  rw [decide_eq_true_eq]
  have hN : ∀ y ∈ nxI p k, -1 ≤ gd l y.toNat ∧ 1 ≤ p.len (y / 2) := fun y hy => by
    have hb := nxI_bd hv (by omega) (by omega) hy
    have := hE.neg y.toNat (by omega)
    exact ⟨by omega, (len_nx hv (by omega) (by omega) hy).1⟩
  split
  · rename_i e
    have := hE.mn _ _ _ (.nil : Pth p to to 0 0)
    rw [← e, show ((k : Int).toNat) = k by omega] at this
    omega
  · rename_i hne
    unfold cFold
    have hsrc : 0 ≤ gd l k → ∃ j ∈ nxI p k, 0 ≤ gd l j.toNat ∧ gd l j.toNat + p.len (j / 2) ≤ gd l k := by
      intro h0
      have hp := hE.sp k hk h0
      generalize hL : gd l k = L at hp
      generalize gd mv k = n at hp
      cases hp with
      | nil => exact absurd rfl hne
      | @cons _ j L n g0 g1 hf hp =>
        have hb := hp.bd hv t0 t1
        have := hE.mn _ _ _ hp
        exact ⟨j, (foll_mem hv g0 g1).1 ⟨hb.1.1, hf⟩, this.1, by omega⟩
    rcases fold_min (nxI p k) (-1) hN (by omega) with ⟨r1, _, r3⟩ | ⟨r1, r2, _, r4⟩
    · rw [r1]
      rcases hE.neg k hk with g | g
      · exact g
      · obtain ⟨j, hj, g2, _⟩ := hsrc g
        have := r3 j hj; omega
    · rcases r2 with r2 | ⟨y, hy, g1, g2⟩
      · omega
      · have hb := nxI_bd hv (by omega) (by omega) hy
        have hp := hE.sp y.toNat (by omega) g1
        rw [show ((y.toNat : Nat) : Int) = y by omega] at hp
        have h2 := hE.mn _ _ _ (hp.step hv (by omega) (by omega) hy)
        rw [show ((k : Int).toNat) = k by omega] at h2
        obtain ⟨j, hj, g3, g4⟩ := hsrc h2.1
        have := r4 j hj g3
        omega

/-! ## The shortest way, by numbers -/
def sOk (p : Plan) (ln mv : List Int) (k y : Int) : Bool := decide (0 ≤ gd ln y.toNat) && (decide (gd ln y.toNat + p.len (y / 2) = gd ln k.toNat) && decide (gd mv y.toNat + 1 = gd mv k.toNat))
def sNext (p : Plan) (ln mv : List Int) (k : Int) : Int := ((nxI p k).find? (sOk p ln mv k)).getD k
def shL (p : Plan) (ln mv : List Int) : Nat → Int → List Int
  | 0, k => [k]
  | n + 1, k => k :: shL p ln mv n (sNext p ln mv k)
theorem sNext_ok {p : Plan} {to : Int} (hv : validB p = true) (t0 : 0 ≤ to) (t1 : to < 2 * p.Rails.length) {ln mv : List Int} (hE : DEnd p to ln mv) {k : Int} (h0 : 0 ≤ k) (h1 : k < 2 * p.Rails.length) (hk : 0 ≤ gd ln k.toNat) (hne : k ≠ to) :
    ∃ y, (nxI p k).find? (sOk p ln mv k) = some y ∧ sNext p ln mv k = y ∧ y ∈ nxI p k ∧ sOk p ln mv k y = true := by
  have hex : ∃ y ∈ nxI p k, sOk p ln mv k y = true := by
    have hp := hE.sp k.toNat (by omega) hk
    rw [show ((k.toNat : Nat) : Int) = k by omega] at hp
    generalize hL : gd ln k.toNat = L at hp
    generalize hM : gd mv k.toNat = n at hp
    cases hp with
    | nil => exact absurd rfl hne
    | @cons _ j L n g0 g1 hf hp =>
      have hb := hp.bd hv t0 t1
      have hy := (foll_mem hv g0 g1).1 ⟨hb.1.1, hf⟩
      have hm := hE.mn _ _ _ hp
      have hpj := hE.sp j.toNat (by omega) hm.1
      rw [show ((j.toNat : Nat) : Int) = j by omega] at hpj
      have hm2 := hE.mn _ _ _ (hpj.step hv g0 g1 hy)
      refine ⟨j, hy, ?_⟩
      simp only [sOk, Bool.and_eq_true, decide_eq_true_eq]
      omega
  obtain ⟨y, hy, hs⟩ := hex
  cases hf : (nxI p k).find? (sOk p ln mv k) with
  | none => exact absurd hs (by have := List.find?_eq_none.1 hf y hy; simpa using this)
  | some z => exact ⟨z, rfl, by simp [sNext, hf], List.mem_of_find?_eq_some hf, List.find?_some hf⟩
theorem mv_zero {p : Plan} {to : Int} (hv : validB p = true) (t0 : 0 ≤ to) (t1 : to < 2 * p.Rails.length) {ln mv : List Int} (hE : DEnd p to ln mv) {k : Int} (h0 : 0 ≤ k) (h1 : k < 2 * p.Rails.length) (hk : 0 ≤ gd ln k.toNat) : 0 ≤ gd mv k.toNat ∧ (gd mv k.toNat = 0 ↔ k = to) := by
  have hp := hE.sp k.toNat (by omega) hk
  rw [show ((k.toNat : Nat) : Int) = k by omega] at hp
  have hb := hp.bd hv t0 t1
  refine ⟨hb.2.2, fun e => ?_, fun e => ?_⟩
  · generalize gd ln k.toNat = L at hp
    rw [e] at hp
    generalize hz : (0 : Int) = z at hp
    cases hp with
    | nil => rfl
    | cons g0 g1 hf hp => have := hp.bd hv t0 t1; omega
  · have := hE.mn _ _ _ (.nil : Pth p to to 0 0)
    rw [← e] at this
    omega
theorem shL_len (p : Plan) (ln mv : List Int) : ∀ (n : Nat) (k : Int), (shL p ln mv n k).length = n + 1
  | 0, k => rfl
  | n + 1, k => by simp [shL, shL_len p ln mv n]
theorem shL_zero (p : Plan) (ln mv : List Int) : ∀ (n : Nat) (k : Int), (shL p ln mv n k)[0]? = some k
  | 0, k => rfl
  | n + 1, k => rfl
end Go.Tram
