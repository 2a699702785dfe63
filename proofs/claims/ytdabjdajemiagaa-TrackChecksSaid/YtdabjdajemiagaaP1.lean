/- Laws: where ends are, which moves follow a move: the program's way and the document's. -/
import Derived.Test.YtdabjdajemiagaaY3
namespace Go.Tram
open Go.AM Go.Proofs
set_option linter.unusedVariables false
set_option linter.unusedSimpArgs false

theorem sub_full {α : Type} [DecidableEq α] : ∀ (l u : List α), l.Nodup → (∀ x ∈ l, x ∈ u) → u.length ≤ l.length → ∀ x ∈ u, x ∈ l
  | [], u, _, _, h, x, hx => by
    have : u = [] := List.length_eq_zero_iff.1 (by simpa using h)
    rw [this] at hx; cases hx
  | a :: l, u, hn, hs, h, x, hx => by
    rw [List.nodup_cons] at hn
    by_cases e : x = a
    · simp [e]
    · have ha : a ∈ u := hs a (by simp)
      have hlen := List.length_erase_of_mem ha
      have hup : 0 < u.length := List.length_pos_of_mem ha
      refine List.mem_cons_of_mem _ (sub_full l (u.erase a) hn.2 (fun y hy => ?_) (by simp at h; omega) x ((List.mem_erase_of_ne e).2 hx))
      have hya : y ≠ a := by rintro rfl; exact hn.1 hy
      exact (List.mem_erase_of_ne hya).2 (hs y (by simp [hy]))

theorem endsOf_mem {p : Plan} : ∀ {n : Nat} {x : Nat × REnd}, x ∈ endsOf p n → x.1 < n ∧ ∃ j : Nat, (p.node x.1).Ends[j]? = some x.2
  | 0, x, h => by simp [endsOf] at h
  | n + 1, x, h => by
    simp only [endsOf, List.mem_append, List.mem_map] at h
    rcases h with h | ⟨e, he, rfl⟩
    · obtain ⟨h1, h2⟩ := endsOf_mem h; exact ⟨by omega, h2⟩
    · obtain ⟨j, hj⟩ := List.getElem?_of_mem he
      exact ⟨by simp, j, hj⟩
theorem validE_of {p : Plan} (hv : validB p = true) : (∀ x ∈ endsOf p p.Nodes.length, endB p x = true) ∧ ((endsOf p p.Nodes.length).map (·.2)).Nodup ∧ (endsOf p p.Nodes.length).length = 2 * p.Rails.length := by
  have h := (valid_parts hv).2.2.2.2
  simp only [validE, Bool.and_eq_true, List.all_eq_true, decide_eq_true_eq] at h
  exact ⟨h.1, h.2.1, h.2.2⟩
/-- Each end of a rail is somewhere: at its node. -/
theorem end_there {p : Plan} (hv : validB p = true) {e : REnd} (h0 : 0 ≤ e.Rail) (h1 : e.Rail < p.Rails.length) : ∃ i : Nat, i < p.Nodes.length ∧ p.at e = i ∧ ∃ j : Nat, (p.node i).Ends[j]? = some e := by
  obtain ⟨hall, hnd, hlen⟩ := validE_of hv
  have hfull := sub_full ((endsOf p p.Nodes.length).map (·.2)) ((List.range p.Rails.length).flatMap fun (r : Nat) => [(⟨r, false⟩ : REnd), ⟨r, true⟩]) hnd (fun x hx => by
    obtain ⟨y, hy, rfl⟩ := List.mem_map.1 hx
    have := hall y hy
    simp only [endB, Bool.and_eq_true, decide_eq_true_eq, inr_iff] at this
    rw [List.mem_flatMap]
    refine ⟨y.2.Rail.toNat, List.mem_range.2 (by omega), ?_⟩
    obtain ⟨y1, ⟨r, b⟩⟩ := y
    simp only at this ⊢
    rw [show ((r.toNat : Nat) : Int) = r by omega]
    cases b <;> simp) (by
      have gen : ∀ n : Nat, ((List.range n).flatMap fun (r : Nat) => [(⟨r, false⟩ : REnd), ⟨r, true⟩]).length = 2 * n := by
        intro n
        induction n with
        | zero => rfl
        | succ n ih => rw [List.range_succ, List.flatMap_append, List.length_append, ih]; simp; omega
      rw [gen, List.length_map, hlen]; exact Nat.le_refl _) e (by
    rw [List.mem_flatMap]
    refine ⟨e.Rail.toNat, List.mem_range.2 (by omega), ?_⟩
    obtain ⟨r, b⟩ := e
    simp only at h0 h1 ⊢
    rw [show ((r.toNat : Nat) : Int) = r by omega]
    cases b <;> simp)
  obtain ⟨x, hx, rfl⟩ := List.mem_map.1 hfull
  obtain ⟨h2, j, hj⟩ := endsOf_mem hx
  exact ⟨x.1, h2, (ends_rail hv h2 hj).2, j, hj⟩
theorem end_uniq {p : Plan} (hv : validB p = true) {i : Nat} (hi : i < p.Nodes.length) {j j' : Nat} {e : REnd} (h : (p.node i).Ends[j]? = some e) (h' : (p.node i).Ends[j']? = some e) : j = j' := by
  have key : ∀ {j j' : Nat}, (p.node i).Ends[j]? = some e → (p.node i).Ends[j']? = some e → ¬ j' < j := by
    intro j j' h h' hlt
    have hm : (i, e) ∈ curE p i j := by
      unfold curE
      rw [List.mem_append, List.mem_map]
      refine Or.inr ⟨e, ?_, rfl⟩
      have : ((p.node i).Ends.take j)[j']? = some e := by rw [List.getElem?_take, if_pos hlt]; exact h'
      exact List.mem_of_getElem? this
    obtain ⟨m, hmm⟩ := List.getElem?_of_mem hm
    have := valid_ff_dup hi h hmm rfl
    rw [hv] at this; cases this
  have h1 := key h h'
  have h2 := key h' h
  omega

theorem putE_none {kvs : List (List KC × Value)} {es : List REnd} {e : REnd} : ∀ n, n ≤ es.length → (∀ j : Nat, j < n → es[j]? ≠ some e) → kvGet (putE kvs es n) (keyOf e) = kvGet kvs (keyOf e)
  | 0, _, _ => rfl
  | n + 1, hn, h => by
    simp only [putE]
    rw [kvGet_set, if_neg, putE_none n (by omega) fun j hj => h j (by omega)]
    intro hk
    have := keyOf_inj.1 hk
    have h2 := h n (by omega)
    rw [List.getElem?_eq_getElem (by omega)] at this h2
    simp only [Option.getD_some] at this
    exact h2 (by rw [this])
theorem putE_some {kvs : List (List KC × Value)} {es : List REnd} {e : REnd} {j : Nat} (hj : es[j]? = some e) : ∀ n, n ≤ es.length → j < n → (∀ j' : Nat, es[j']? = some e → j' = j) → kvGet (putE kvs es n) (keyOf e) = some (.int .i64 j)
  | 0, _, h, _ => by omega
  | n + 1, hn, h, hu => by
    simp only [putE]
    rw [kvGet_set]
    by_cases e1 : n = j
    · subst e1
      rw [hj]; exact if_pos rfl
    · rw [if_neg, putE_some hj n (by omega) (by omega) hu]
      intro hk
      have := keyOf_inj.1 hk
      rw [List.getElem?_eq_getElem (by omega)] at this
      simp only [Option.getD_some] at this
      exact e1 (hu n (by rw [List.getElem?_eq_getElem (by omega), this]))
theorem place_at {p : Plan} (hv : validB p = true) {i : Nat} (hi : i < p.Nodes.length) {j : Nat} {e : REnd} (h : (p.node i).Ends[j]? = some e) : plc p e = j := by
  have hat := (ends_rail hv hi h).2
  have gen : ∀ k, k ≤ p.Nodes.length → i < k → kvGet (placesK p k) (keyOf e) = some (.int .i64 j) := by
    intro k
    induction k with
    | zero => intro _ h; omega
    | succ k ih =>
      intro hk hik
      simp only [placesK]
      by_cases e1 : k = i
      · subst e1
        exact putE_some h _ (Nat.le_refl _) (List.getElem?_eq_some_iff.1 h).1 fun j' hj' => end_uniq hv hi hj' h
      · rw [putE_none _ (Nat.le_refl _), ih (by omega) (by omega)]
        intro j' _ hj'
        have := (ends_rail hv (i := k) (by omega) hj').2
        omega
  have hg := gen p.Nodes.length (Nat.le_refl _) hi
  have hp : plcV p e = .int .i64 j := by
    unfold plcV
    have : kvGet (placesK p p.Nodes.length) [.i .i64 e.Rail, .b e.Last] = some (.int .i64 j) := hg
    rw [this]; rfl
  unfold plc
  rw [hp]

/-- The index of an end in a node's list. -/
def idxTo (e : REnd) : List REnd → Int → Int
  | [], _ => -1
  | x :: l, i => if x = e then i else idxTo e l (i + 1)
def idxE (n : Node) (e : REnd) : Int := idxTo e n.Ends 0
theorem idxTo_some {e : REnd} : ∀ (l : List REnd) (i : Int) (j : Nat), l[j]? = some e → (∀ j' : Nat, l[j']? = some e → j' = j) → idxTo e l i = i + j
  | [], i, j, h, _ => by simp at h
  | x :: l, i, j, h, hu => by
    simp only [idxTo]
    split
    · rename_i hx
      have := hu 0 (by simp [hx])
      omega
    · rename_i hx
      cases j with
      | zero => simp at h; exact absurd h hx
      | succ j =>
        rw [idxTo_some l (i + 1) j (by simpa using h) fun j' hj' => by have := hu (j' + 1) (by simpa using hj'); omega]
        omega
theorem idxTo_none {e : REnd} : ∀ (l : List REnd) (i : Int), (∀ j : Nat, l[j]? ≠ some e) → idxTo e l i = -1
  | [], i, _ => rfl
  | x :: l, i, h => by
    simp only [idxTo]
    rw [if_neg (by rintro rfl; exact h 0 (by simp))]
    exact idxTo_none l _ fun j => by have := h (j + 1); simpa using this
theorem idxE_some {p : Plan} (hv : validB p = true) {i : Nat} (hi : i < p.Nodes.length) {j : Nat} {e : REnd} (h : (p.node i).Ends[j]? = some e) : idxE (p.node i) e = j := by
  unfold idxE
  rw [idxTo_some _ 0 j h fun j' hj' => end_uniq hv hi hj' h]; omega

/-- Whether a move follows another one, as the document has it. -/
def rFoll (p : Plan) (m k : Move) : Bool := decide (0 ≤ idxE (nodeAt p m) (arrE m)) && (decide (0 ≤ idxE (nodeAt p m) (leaE k)) && letsB (nodeAt p m) (idxE (nodeAt p m) (arrE m)) (idxE (nodeAt p m) (leaE k)))

theorem node_of {p : Plan} (hv : validB p = true) {m : Move} (hm : movB p m = true) : ∃ i : Nat, i < p.Nodes.length ∧ p.at (arrE m) = i ∧ nodeAt p m = p.node i ∧ ∃ j : Nat, (p.node i).Ends[j]? = some (arrE m) ∧ plc p (arrE m) = j ∧ idxE (p.node i) (arrE m) = j := by
  have hm' := movB_iff.1 hm
  obtain ⟨i, hi, ha, j, hj⟩ := end_there hv (e := arrE m) hm'.1 hm'.2
  exact ⟨i, hi, ha, by unfold nodeAt; rw [ha], j, hj, place_at hv hi hj, idxE_some hv hi hj⟩
theorem moveM_numM {m : Move} (h : 0 ≤ m.Rail) : moveM (numM m) = m := by
  obtain ⟨r, b⟩ := m
  simp only at h
  cases b
  · simp only [numM, moveM, Bool.false_eq_true, if_false]
    rw [show 2 * r / 2 = r by omega, decide_eq_false (by omega)]
  · simp only [numM, moveM, if_true]
    rw [show (2 * r + 1) / 2 = r by omega, decide_eq_true (by omega)]
theorem numM_moveM {k : Int} (h : 0 ≤ k) : numM (moveM k) = k := by
  simp only [numM, moveM, decide_eq_true_eq]
  split <;> omega
theorem nx_mem {p : Plan} (hv : validB p = true) {m : Move} (hm : movB p m = true) {k : Int} : k ∈ nxTo p m (nodeAt p m).Ends.length ↔ 0 ≤ k ∧ k < 2 * p.Rails.length ∧ rFoll p m (moveM k) = true := by
  obtain ⟨i, hi, ha, hn, j, hj, hp, hx⟩ := node_of hv hm
  simp only [nxTo, List.mem_flatMap, List.mem_range]
  constructor
  · rintro ⟨t, ht, hk⟩
    unfold nxK at hk
    rw [hn] at hk ht
    rw [List.getElem?_eq_getElem ht] at hk
    simp only at hk
    split at hk
    · rename_i hl
      simp only [List.mem_singleton] at hk
      have hte := List.getElem?_eq_getElem ht
      generalize (p.node i).Ends[t] = e at hk hte
      have her := (ends_rail hv hi hte).1
      have hb : 0 ≤ numM ⟨e.Rail, e.Last⟩ ∧ numM ⟨e.Rail, e.Last⟩ < 2 * p.Rails.length := by simp only [numM]; split <;> omega
      subst hk
      refine ⟨hb.1, hb.2, ?_⟩
      rw [moveM_numM her.1]
      have hle : leaE ⟨e.Rail, e.Last⟩ = e := rfl
      simp only [rFoll, hn, hle, hx, idxE_some hv hi hte, Bool.and_eq_true, decide_eq_true_eq]
      rw [hp] at hl
      exact ⟨by omega, by omega, hl⟩
    · simp at hk
  · rintro ⟨h0, h1, hf⟩
    simp only [rFoll, hn, Bool.and_eq_true, decide_eq_true_eq] at hf
    obtain ⟨_, hb, hl⟩ := hf
    have : ∃ t : Nat, (p.node i).Ends[t]? = some (leaE (moveM k)) := by
      by_cases h : ∃ t : Nat, (p.node i).Ends[t]? = some (leaE (moveM k))
      · exact h
      · have := idxTo_none (e := leaE (moveM k)) (p.node i).Ends 0 fun j hj => h ⟨j, hj⟩
        unfold idxE at hb
        omega
    obtain ⟨t, ht⟩ := this
    rw [hx, idxE_some hv hi ht] at hl
    refine ⟨t, by rw [hn]; exact (List.getElem?_eq_some_iff.1 ht).1, ?_⟩
    unfold nxK
    rw [hn, ht, hp]
    simp only
    rw [if_pos hl, List.mem_singleton]
    show k = numM (moveM k)
    rw [numM_moveM h0]

theorem foll_eq {p : Plan} (hv : validB p = true) {m k : Move} (hm : movB p m = true) (hk : movB p k = true) : follB p m k = rFoll p m k := by
  have hk' := movB_iff.1 hk
  have hnb : 0 ≤ numM k ∧ numM k < 2 * p.Rails.length := by unfold numM; split <;> omega
  rw [Bool.eq_iff_iff]
  unfold follB nextL
  rw [List.any_eq_true]
  constructor
  · rintro ⟨x, hx, hxk⟩
    simp only [decide_eq_true_eq] at hxk
    subst hxk
    obtain ⟨q, hq, rfl⟩ := List.mem_map.1 hx
    exact ((nx_mem hv hm).1 (ins_mem'.1 hq)).2.2
  · intro h
    refine ⟨k, List.mem_map.2 ⟨numM k, ins_mem'.2 ((nx_mem hv hm).2 ⟨hnb.1, hnb.2, ?_⟩), moveM_numM hk'.1⟩, by simp⟩
    rw [moveM_numM hk'.1]; exact h

theorem sorted_ext : ∀ (a b : List Int), a.Pairwise (· < ·) → b.Pairwise (· < ·) → (∀ x, x ∈ a ↔ x ∈ b) → a = b
  | [], [], _, _, _ => rfl
  | [], y :: b, _, _, h => by have := (h y).2 (by simp); cases this
  | x :: a, [], _, _, h => by have := (h x).1 (by simp); cases this
  | x :: a, y :: b, ha, hb, h => by
    rw [List.pairwise_cons] at ha hb
    have hxy : x = y := by
      have h1 := (h x).1 (by simp)
      have h2 := (h y).2 (by simp)
      rcases List.mem_cons.1 h1 with rfl | h1
      · rfl
      · rcases List.mem_cons.1 h2 with rfl | h2
        · rfl
        · have := hb.1 x h1; have := ha.1 y h2; omega
    subst hxy
    rw [sorted_ext a b ha.2 hb.2 fun z => ?_]
    constructor
    · intro hz
      rcases List.mem_cons.1 ((h z).1 (by simp [hz])) with rfl | h1
      · have := ha.1 z hz; omega
      · exact h1
    · intro hz
      rcases List.mem_cons.1 ((h z).2 (by simp [hz])) with rfl | h1
      · have := hb.1 z hz; omega
      · exact h1
theorem ins_nodup {x : Int} : ∀ {l : List Int}, l.Nodup → x ∉ l → (ins x l).Nodup
  | [], _, _ => by simp [ins]
  | y :: l, h, hx => by
    rw [List.nodup_cons] at h
    simp only [List.mem_cons, not_or] at hx
    simp only [ins]
    split
    · simp [List.nodup_cons, hx, h]
    · rw [List.nodup_cons, ins_mem]
      exact ⟨by rintro (rfl | h1); exact hx.1 rfl; exact h.1 h1, ins_nodup h.2 hx.2⟩
theorem srt_nodup {l : List Int} (h : l.Nodup) : (srt l).Nodup := by
  have gen : ∀ (l s : List Int), s.Nodup → l.Nodup → (∀ x ∈ l, x ∉ s) → (l.foldl (fun s x => ins x s) s).Nodup := by
    intro l
    induction l with
    | nil => intro s h _ _; exact h
    | cons x l ih =>
      intro s hs hl hd
      rw [List.nodup_cons] at hl
      refine ih _ (ins_nodup hs (hd x (by simp))) hl.2 fun y hy => ?_
      rw [ins_mem]
      rintro (rfl | h)
      · exact hl.1 hy
      · exact hd y (by simp [hy]) h
  exact gen l [] (by simp) h (by simp)
theorem lt_of_le_nodup : ∀ {l : List Int}, l.Pairwise (· ≤ ·) → l.Nodup → l.Pairwise (· < ·)
  | [], _, _ => List.Pairwise.nil
  | x :: l, h, hn => by
    rw [List.pairwise_cons] at h ⊢
    rw [List.nodup_cons] at hn
    exact ⟨fun y hy => by have := h.1 y hy; have : x ≠ y := by rintro rfl; exact hn.1 hy
                          omega, lt_of_le_nodup h.2 hn.2⟩
/-- The moves that follow a move, as the document has them. -/
def rNextN (p : Plan) (m : Move) : List Nat := (List.range (2 * p.Rails.length)).filter fun i => rFoll p m (moveM i)
theorem nx_nodup {p : Plan} (hv : validB p = true) {m : Move} (hm : movB p m = true) : ∀ j, j ≤ (nodeAt p m).Ends.length → (nxTo p m j).Nodup
  | 0, _ => by simp [nxTo]
  | j + 1, hj => by
    rw [nxTo_succ, List.nodup_append]
    refine ⟨nx_nodup hv hm j (by omega), by unfold nxK; split <;> (try split) <;> simp, fun a ha b hb hab => ?_⟩
    subst hab
    obtain ⟨i, hi, _, hn, _⟩ := node_of hv hm
    simp only [nxTo, List.mem_flatMap, List.mem_range] at ha
    obtain ⟨t, ht, ha⟩ := ha
    have key : ∀ {q : Nat}, q < (nodeAt p m).Ends.length → a ∈ nxK p m q → (p.node i).Ends[q]? = some (leaE (moveM a)) := by
      intro q hq h
      unfold nxK at h
      rw [hn] at h hq
      rw [List.getElem?_eq_getElem hq] at h ⊢
      have hqe := List.getElem?_eq_getElem hq
      generalize (p.node i).Ends[q] = e at h hqe ⊢
      have her := (ends_rail hv hi hqe).1
      simp only at h
      split at h
      · simp only [List.mem_singleton] at h
        rw [h, moveM_numM her.1]; rfl
      · simp at h
    have := end_uniq hv hi (key (by omega) ha) (key (by omega) hb)
    omega
theorem range_lt (n : Nat) : (List.range n).Pairwise (· < ·) := List.pairwise_lt_range
theorem next_eq {p : Plan} (hv : validB p = true) {m : Move} (hm : movB p m = true) : nextL p m = (rNextN p m).map fun (i : Nat) => moveM i := by
  have h : srt (nxTo p m (nodeAt p m).Ends.length) = (rNextN p m).map fun (i : Nat) => (i : Int) := by
    refine sorted_ext _ _ (lt_of_le_nodup (srt_sorted _) (srt_nodup (nx_nodup hv hm _ (Nat.le_refl _)))) ?_ fun x => ?_
    · rw [List.pairwise_map]
      have : (rNextN p m).Pairwise (· < ·) := (range_lt _).filter _
      exact this.imp fun h => by omega
    · rw [ins_mem', nx_mem hv hm]
      unfold rNextN
      simp only [List.mem_map, List.mem_filter, List.mem_range]
      constructor
      · rintro ⟨h0, h1, h2⟩
        exact ⟨x.toNat, ⟨by omega, by rw [show ((x.toNat : Nat) : Int) = x by omega]; exact h2⟩, by omega⟩
      · rintro ⟨a, ⟨h1, h2⟩, rfl⟩
        exact ⟨by omega, by omega, h2⟩
  unfold nextL
  rw [h, List.map_map]; rfl
end Go.Tram
