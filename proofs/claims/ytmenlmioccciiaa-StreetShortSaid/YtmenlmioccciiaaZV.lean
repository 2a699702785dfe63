/- Walks: the program of a tour. -/
import Derived.Test.YtmenlmioccciiaaZU
import Derived.Test.YtmenlmioccciiaaZN
namespace Go.Street
open Go.AM Go.Proofs
set_option maxRecDepth 10000
set_option maxHeartbeats 8000000
set_option linter.unusedVariables false
set_option linter.unusedSimpArgs false

/-! Sorted lists. -/
theorem ins_perm (x : Int) : ∀ l : List Int, (ins x l).Perm (x :: l)
  | [] => List.Perm.refl _
  | y :: l => by
    simp only [ins]
    split
    · exact List.Perm.refl _
    · exact ((ins_perm x l).cons y).trans (List.Perm.swap x y l)
theorem srt_perm (l : List Int) : (srt l).Perm l := by
  have gen : ∀ (l s : List Int), (l.foldl (fun s x => ins x s) s).Perm (s ++ l) := by
    intro l
    induction l with
    | nil => intro s; simp
    | cons x l ih =>
      intro s
      rw [List.foldl_cons]
      refine (ih _).trans ?_
      refine ((ins_perm x s).append_right l).trans ?_
      exact (List.perm_middle (a := x) (l₁ := s) (l₂ := l)).symm
  exact gen l []
theorem srt_mem {l : List Int} {x : Int} : x ∈ srt l ↔ x ∈ l := (srt_perm l).mem_iff
theorem srt_nodup {l : List Int} (h : l.Nodup) : (srt l).Nodup := (srt_perm l).nodup_iff.2 h
theorem srt_strict {l : List Int} (h : l.Nodup) : (srt l).Pairwise (· < ·) := by
  have h1 := srt_sorted l
  have h2 : (srt l).Pairwise (· ≠ ·) := srt_nodup h
  exact (h1.and h2).imp fun {a b} q => by omega
theorem strict_ext : ∀ {a b : List Int}, a.Pairwise (· < ·) → b.Pairwise (· < ·) → (∀ x, x ∈ a ↔ x ∈ b) → a = b
  | [], [], _, _, _ => rfl
  | [], y :: b, _, _, h => by have := (h y).2 (by simp); simp at this
  | x :: a, [], _, _, h => by have := (h x).1 (by simp); simp at this
  | x :: a, y :: b, ha, hb, h => by
    rw [List.pairwise_cons] at ha hb
    have hxy : x = y := by
      rcases List.mem_cons.1 ((h x).1 (by simp)) with e | e
      · exact e
      · rcases List.mem_cons.1 ((h y).2 (by simp)) with e' | e'
        · exact e'.symm
        · have := hb.1 x e; have := ha.1 y e'; omega
    subst hxy
    rw [strict_ext ha.2 hb.2 fun z => ?_]
    constructor
    · intro hz
      rcases List.mem_cons.1 ((h z).1 (by simp [hz])) with e | e
      · subst e; have := ha.1 z hz; omega
      · exact e
    · intro hz
      rcases List.mem_cons.1 ((h z).2 (by simp [hz])) with e | e
      · subst e; have := hb.1 z hz; omega
      · exact e
theorem lb_at {l : List Int} (hs : l.Pairwise (· < ·)) {p : Nat} {x : Int} (h : l[p]? = some x) : lbI l x = p := by
  obtain ⟨hp, he⟩ := List.getElem?_eq_some_iff.1 h
  have hg := List.pairwise_iff_getElem.1 hs
  refine lbI_of (by omega) (fun y hy => ?_) (fun y hy => ?_)
  · obtain ⟨q, hq⟩ := List.getElem?_of_mem hy
    have hql := (List.getElem?_eq_some_iff.1 hq).1
    rw [List.length_take] at hql
    rw [List.getElem?_take, if_pos (by omega)] at hq
    obtain ⟨q1, q2⟩ := List.getElem?_eq_some_iff.1 hq
    have := hg q p q1 hp (by omega)
    rw [q2, he] at this; exact this
  · obtain ⟨q, hq⟩ := List.getElem?_of_mem hy
    rw [List.getElem?_drop] at hq
    obtain ⟨q1, q2⟩ := List.getElem?_eq_some_iff.1 hq
    rcases Nat.eq_zero_or_pos q with rfl | h0
    · simp only [Nat.add_zero] at q2; rw [he] at q2; omega
    · have := hg p (p + q) hp q1 (by omega)
      rw [he, q2] at this; omega

theorem toured_nodup {j : Jn} {l : List Int} (h : touredB j l = true) : l.Nodup := by
  simp only [touredB, Bool.and_eq_true, List.all_eq_true, List.mem_range] at h
  refine List.pairwise_iff_getElem.2 fun a b ha hb hab => ?_
  have := h.1 b hb
  simp only [tourEl, Bool.and_eq_true, Bool.not_eq_true', List.any_eq_false] at this
  have := this.2 l[a] (List.mem_of_getElem? (i := a) (by rw [List.getElem?_take, if_pos hab, List.getElem?_eq_getElem ha]))
  rw [at0_of (List.getElem?_eq_getElem hb)] at this
  simp only [badP, Bool.or_eq_true, decide_eq_true_eq, not_or] at this
  exact fun e => this.1 e.symm
theorem toured_conf {j : Jn} (ho : JOk j) {l : List Int} (h : touredB j l = true) {a b : Int} (ha : a ∈ l) (hb : b ∈ l) (hab : a ≠ b) : conf j a b = true := by
  have hbd := toured_bd h
  simp only [touredB, Bool.and_eq_true, List.all_eq_true, List.mem_range] at h
  have key : ∀ (p q : Nat), p < q → ∀ x y, l[p]? = some x → l[q]? = some y → conf j y x = true := by
    intro p q hpq x y hx hy
    have := h.1 q (List.getElem?_eq_some_iff.1 hy).1
    simp only [tourEl, Bool.and_eq_true, Bool.not_eq_true', List.any_eq_false] at this
    have := this.2 x (List.mem_of_getElem? (i := p) (by rw [List.getElem?_take, if_pos hpq]; exact hx))
    rw [at0_of hy] at this
    simp only [badP, Bool.or_eq_true, decide_eq_true_eq, not_or, Bool.not_eq_true', Bool.not_eq_false] at this
    exact this.2
  obtain ⟨p, hp⟩ := List.getElem?_of_mem ha
  obtain ⟨q, hq⟩ := List.getElem?_of_mem hb
  have hA := hbd.2.2 a ha; have hB := hbd.2.2 b hb
  rcases Nat.lt_trichotomy p q with h1 | h1 | h1
  · rw [conf_symm ho hA.1 hA.2 hB.1 hB.2]; exact key p q h1 a b hp hq
  · subst h1; rw [hp] at hq; simp only [Option.some.injEq] at hq; exact absurd hq hab
  · exact key q p h1 b a hq hp

/-- When the green of a tour's stream begins. -/
def begF (j : Jn) (t : List Int) (s : Int) : Int := lenTo j t (t.idxOf s)
def spB (j : Jn) (t : List Int) (i : Nat) : List Int := (srt t).map fun s => if s ∈ t.take i then begF j t s else 0
def spL (j : Jn) (t : List Int) (i : Nat) : List Int := (srt t).map fun s => if s ∈ t.take i then (strm j s).Least else 0
def spreadP (j : Jn) (t : List Int) : Pg := ⟨lenF j t, (srt t).map (begF j t), (srt t).map fun s => (strm j s).Least⟩
theorem idx_at {t : List Int} (h : t.Nodup) {i : Nat} {s : Int} (hs : t[i]? = some s) : t.idxOf s = i := by
  obtain ⟨hi, he⟩ := List.getElem?_eq_some_iff.1 hs
  rw [← he]
  exact h.idxOf_getElem i hi
theorem sp_set {t : List Int} (hn : t.Nodup) {i : Nat} {s : Int} (hs : t[i]? = some s) (f : Int → Int) :
    ((srt t).map fun s => if s ∈ t.take i then f s else 0).set (lbI (srt t) s) (f s) = (srt t).map fun s => if s ∈ t.take (i + 1) then f s else 0 := by
  have hst := srt_strict hn
  refine List.ext_getElem (by simp) fun p h1 h2 => ?_
  rw [List.length_map] at h2
  have hlb := lb_at hst (List.getElem?_eq_getElem h2)
  rw [List.getElem_set]
  simp only [List.getElem_map]
  by_cases e : (srt t)[p] = s
  · rw [e] at hlb
    rw [if_pos hlb, e, if_pos ((mem_take_succ hs).2 (Or.inr rfl))]
  · have hne : lbI (srt t) s ≠ p := by
      intro h
      obtain ⟨q, hq⟩ := List.getElem?_of_mem (srt_mem.2 (List.mem_of_getElem? hs))
      have := lb_at hst hq
      rw [this] at h
      subst h
      obtain ⟨_, q2⟩ := List.getElem?_eq_some_iff.1 hq
      exact e q2
    rw [if_neg hne]
    have : (srt t)[p] ∈ t.take (i + 1) ↔ (srt t)[p] ∈ t.take i := by
      rw [mem_take_succ hs]
      exact ⟨fun h => h.resolve_right e, Or.inl⟩
    simp only [this]
theorem sp_end {t : List Int} (f : Int → Int) : ((srt t).map fun s => if s ∈ t.take t.length then f s else 0) = (srt t).map f := by
  refine List.map_congr_left fun s hs => ?_
  rw [List.take_of_length_le (Nat.le_refl _), if_pos (srt_mem.1 hs)]
theorem sp_0 {t : List Int} (f : Int → Int) : ((srt t).map fun s => if s ∈ t.take 0 then f s else 0) = List.replicate t.length 0 := by
  refine List.ext_getElem (by simp [srt_len]) fun p h1 h2 => by simp
theorem lb_lt {t : List Int} (hn : t.Nodup) {s : Int} (hs : s ∈ t) : lbI (srt t) s < t.length := by
  obtain ⟨q, hq⟩ := List.getElem?_of_mem (srt_mem.2 hs)
  rw [lb_at (srt_strict hn) hq, ← srt_len t]
  exact (List.getElem?_eq_some_iff.1 hq).1

def minOf (l : List Int) : Int := l.tail.foldl minI (l.headD 0)
theorem minOf_snoc {l : List Int} {k : Nat} {x : Int} (h : l[k]? = some x) (hk : 1 ≤ k) : minOf (l.take (k + 1)) = minI (minOf (l.take k)) x := by
  cases l with
  | nil => simp at h
  | cons y l =>
    obtain ⟨k, rfl⟩ : ∃ m, k = m + 1 := ⟨k - 1, by omega⟩
    simp only [List.getElem?_cons_succ] at h
    simp only [minOf, List.take_succ_cons, List.tail_cons, List.headD_cons]
    rw [List.take_add_one, h]
    simp only [Option.toList_some, List.foldl_append]
    rfl
theorem c_Min (l : List Int) (h1 : 1 ≤ l.length) (hn : l.length ≤ 1000) : PureCall Try.prog 52 [iL l] (I (minOf l)) := by
  obtain ⟨x, hx⟩ : ∃ x, l[0]? = some x := ⟨_, List.getElem?_eq_getElem (by omega)⟩
  refine PureCall.of_body Try.func52 rfl (by decide) (by simp [Try.ntmps52]) ?_
  simp only [Try.ntmps52, Try.results52]
  refine awp_sr rfl fun K hK => ?_
  simp -dsimp
  refine hK _ _ ?_; clear hK K
  refine awp_seq_k fun K1 hK1 => ?_
  refine awp_sr rfl fun K hK => ?_
  simp -dsimp
  refine hK _ _ ?_; clear hK K
  refine awp_cond rfl (fun hc0 => ?_) (fun hc0 => ?_)
  · skip
    try simp at hc0
    omega
  · skip
    try simp at hc0
    refine awp_skip ?_
    simp only [thenA, inBlockA, reduceIte, Nat.reduceEqDiff, eq_self]
    refine hK1 _ _ ?_
    refine awp_prune [0] ?_
    simp only [prune, List.map_cons, List.map_nil, Go.AM.look, Nat.reduceEqDiff, reduceIte]
    refine awp_sr rfl fun K hK => ?_
    simp -dsimp [hx]
    refine hK _ _ ?_; clear hK K
    refine awp_seq_k fun K2 hK2 => ?_
    refine awp_sr rfl fun K hK => ?_
    simp -dsimp
    refine hK _ _ ?_; clear hK K
    refine awp_block ?_
    refine awp_prune [0, 3, 4] ?_
    simp only [prune, List.map_cons, List.map_nil, Go.AM.look, Nat.reduceEqDiff, reduceIte]
    refine awp_loop_l [0] (α := Nat) (fun k => [(3, I (minOf (l.take k))), (4, I k)]) (fun _ => []) (fun k => 1 ≤ k ∧ k ≤ l.length) (fun k => l.length - k) 1 ?_ ?_ ?_
    · exact ⟨by omega, by omega⟩
    · have hx1 : minOf (l.take 1) = x := by simp [minOf, List.take_add_one, hx]
      exact sub_same (by simp [hx1])
    rintro k ⟨k1, k2⟩
    simp only [List.cons_append, List.nil_append, prune, List.map_cons, List.map_nil, Go.AM.look, Nat.reduceEqDiff, reduceIte]
    refine awp_seq_k fun K3 hK3 => ?_
    refine awp_sr rfl fun K hK => ?_
    simp -dsimp
    refine hK _ _ ?_; clear hK K
    refine awp_cond rfl (fun hc1 => ?_) (fun hc1 => ?_)
    · skip
      try simp at hc1
      obtain ⟨y, hy⟩ : ∃ y, l[k]? = some y := ⟨_, List.getElem?_eq_getElem hc1⟩
      have wk : IntKind.i64.wrap ((k : Int) + 1) = (k : Int) + 1 := wrap_in (by omega) (by omega)
      refine awp_skip ?_
      simp only [thenA, inBlockA, reduceIte, Nat.reduceEqDiff, eq_self]
      refine hK3 _ _ ?_
      refine awp_prune [0, 3, 4] ?_
      simp only [prune, List.map_cons, List.map_nil, Go.AM.look, Nat.reduceEqDiff, reduceIte]
      refine awp_seq_k fun K4 hK4 => ?_
      refine awp_block ?_
      refine awp_r rfl fun K hK => ?_
      simp -dsimp [hy]
      refine hK _ _ ?_; clear hK K
      simp only [thenA, inBlockA, reduceIte, Nat.reduceEqDiff, eq_self]
      refine hK4 _ _ ?_
      refine awp_prune [0, 3, 4] ?_
      simp only [prune, List.map_cons, List.map_nil, Go.AM.look, Nat.reduceEqDiff, reduceIte]
      refine awp_r rfl fun K hK => ?_
      simp -dsimp [wk]
      refine hK _ _ ?_; clear hK K
      simp only [thenA, inBlockA, reduceIte, Nat.reduceEqDiff, eq_self]
      exact ⟨k + 1, ⟨by omega, by omega⟩, by omega, sub_same (by simp [minOf_snoc hy k1, minI])⟩
    · skip
      try simp at hc1
      refine awp_exit ?_
      simp only [thenA, inBlockA, reduceIte, Nat.reduceEqDiff, eq_self]
      refine hK2 _ _ ?_
      refine awp_prune [3] ?_
      simp only [prune, List.map_cons, List.map_nil, Go.AM.look, Nat.reduceEqDiff, reduceIte]
      refine awp_sr rfl fun K hK => ?_
      simp -dsimp
      refine hK _ _ ?_; clear hK K
      have htk : l.take k = l := List.take_of_length_le (by omega)
      exact awp_ret (by simp [htk])

abbrev nilPg : AV := .agg [I 0, .v (.slice none 0 0), .v (.slice none 0 0)]
theorem c_Spread_f (j : Jn) (t : List Int) (hf : Fit j) (hn : t.length ≤ 1000) (h : jnB j = false ∨ touredB j t = false ∨ at0 t 0 ≠ minOf t) : PureCall Try.prog 15 [j.av, iL t] (.tup [nilPg, I 2]) := by
  have hc := c_Check j hf
  have ht := fun hj : jnB j = true => c_toured j t hf (jnB_ok hj).sqr hn
  cases hj : jnB j with
  | false =>
    rw [hj] at hc
    refine PureCall.of_body Try.func15 rfl (by decide) (by simp [Try.ntmps15]) ?_
    simp only [Try.ntmps15, Try.results15]
    refine awp_sr rfl fun K hK => ?_
    simp -dsimp
    refine hK _ _ ?_; clear hK K
    refine awp_sr rfl fun K hK => ?_
    simp -dsimp
    refine hK _ _ ?_; clear hK K
    refine awp_seq_k fun K1 hK1 => ?_
    refine awp_sd mixed rfl fun K hK => ?_
    simp -dsimp
    refine callK_intro _ (hc) (by simp) ?_
    simp -dsimp
    refine callK_may _ (fun hm => (absurd hm (by simp) : PureCall _ _ _ (Bo true))) (by simp) ?_
    simp -dsimp
    refine idxK_intro ([I 0]) (fun hm => by simp at hm) ?_
    simp -dsimp
    refine callK_may _ (fun hm => (absurd hm (by simp) : PureCall _ _ _ (I 0))) (by simp) ?_
    simp -dsimp
    refine hK _ _ _ (by decide +kernel) ?_; clear hK K
    refine awp_cond rfl (fun hc0 => ?_) (fun hc0 => ?_)
    · skip
      skip
      refine awp_sr rfl fun K hK => ?_
      simp -dsimp
      refine hK _ _ ?_; clear hK K
      exact awp_ret (by simp)
    · skip
      skip
      simp at hc0
  | true =>
    rw [hj] at hc
    have ht' := ht hj
    cases htt : touredB j t with
    | false =>
      rw [htt] at ht'
      refine PureCall.of_body Try.func15 rfl (by decide) (by simp [Try.ntmps15]) ?_
      simp only [Try.ntmps15, Try.results15]
      refine awp_sr rfl fun K hK => ?_
      simp -dsimp
      refine hK _ _ ?_; clear hK K
      refine awp_sr rfl fun K hK => ?_
      simp -dsimp
      refine hK _ _ ?_; clear hK K
      refine awp_seq_k fun K1 hK1 => ?_
      refine awp_sd mixed rfl fun K hK => ?_
      simp -dsimp
      refine callK_intro _ (hc) (by simp) ?_
      simp -dsimp
      refine callK_may _ (fun hm => ht') (by simp) ?_
      simp -dsimp
      refine idxK_intro ([I 0]) (fun hm => by simp at hm) ?_
      simp -dsimp
      refine callK_may _ (fun hm => (absurd hm (by simp) : PureCall _ _ _ (I 0))) (by simp) ?_
      simp -dsimp
      refine hK _ _ _ (by decide +kernel) ?_; clear hK K
      refine awp_cond rfl (fun hc0 => ?_) (fun hc0 => ?_)
      · skip
        skip
        refine awp_sr rfl fun K hK => ?_
        simp -dsimp
        refine hK _ _ ?_; clear hK K
        exact awp_ret (by simp)
      · skip
        skip
        simp at hc0
    | true =>
      rw [htt] at ht'
      have htb := toured_bd htt
      have g0 : t[0]? = some (at0 t 0) := at0_nat (l := t) (k := 0) (by omega)
      have hmi := c_Min t (by omega) (by omega)
      have hne : at0 t 0 ≠ minOf t := by rcases h with h | h | h; rw [hj] at h; cases h; rw [htt] at h; cases h; exact h
      refine PureCall.of_body Try.func15 rfl (by decide) (by simp [Try.ntmps15]) ?_
      simp only [Try.ntmps15, Try.results15]
      refine awp_sr rfl fun K hK => ?_
      simp -dsimp
      refine hK _ _ ?_; clear hK K
      refine awp_sr rfl fun K hK => ?_
      simp -dsimp
      refine hK _ _ ?_; clear hK K
      refine awp_seq_k fun K1 hK1 => ?_
      refine awp_sd mixed rfl fun K hK => ?_
      simp -dsimp
      refine callK_intro _ (hc) (by simp) ?_
      simp -dsimp
      refine callK_may _ (fun hm => ht') (by simp) ?_
      simp -dsimp
      refine idxK_intro ([I (at0 t 0)]) (fun _ => by simp [g0]) ?_
      simp -dsimp
      refine callK_may _ (fun hm => hmi) (by simp) ?_
      simp -dsimp
      refine hK _ _ _ (by decide +kernel) ?_; clear hK K
      refine awp_cond rfl (fun hc0 => ?_) (fun hc0 => ?_)
      · skip
        skip
        refine awp_sr rfl fun K hK => ?_
        simp -dsimp
        refine hK _ _ ?_; clear hK K
        exact awp_ret (by simp)
      · skip
        skip
        simp [hne, beq_d, bne] at hc0

theorem c_Spread_t (j : Jn) (t : List Int) (hf : Fit j) (hj : jnB j = true) (ht : touredB j t = true) (hmn : at0 t 0 = minOf t) : PureCall Try.prog 15 [j.av, iL t] (.tup [(spreadP j t).av, I 0]) := by
  have ho := jnB_ok hj
  have hc := c_Check j hf
  rw [hj] at hc
  have htb := toured_bd ht
  have hnd := toured_nodup ht
  have hto := c_toured j t hf ho.sqr (by omega)
  rw [ht] at hto
  have g0 : t[0]? = some (at0 t 0) := at0_nat (l := t) (k := 0) (by omega)
  have hmi := c_Min t (by omega) (by omega)
  rw [← hmn] at hmi
  have hva := c_Values t
  have hso := m_Sorted t (by omega) (by omega)
  have f1 : Fits t.length 9 := fits_of (by omega) (by omega)
  have hsl := srt_len t
  have hB0 : spB j t 0 = List.replicate t.length 0 := sp_0 _
  have hL0 : spL j t 0 = List.replicate t.length 0 := sp_0 _
  refine PureCall.of_bodyG Try.func15 rfl (by decide) (by simp [Try.ntmps15]) ?_
  intro J hJ
  simp only [Try.ntmps15, Try.results15]
  refine gwp_sr rfl (by decide) rfl rfl fun K hK => ?_
  simp -dsimp
  refine hK _ _ ?_; clear hK K
  refine gwp_sr rfl (by decide) rfl rfl fun K hK => ?_
  simp -dsimp
  refine hK _ _ ?_; clear hK K
  refine gwp_seq_k fun K1 hK1 => ?_
  refine gwp_sd mixed rfl (by decide) rfl rfl fun K hK => ?_
  simp -dsimp
  refine callK_intro _ (hc) (by simp) ?_
  simp -dsimp
  refine callK_may _ (fun hm => hto) (by simp) ?_
  simp -dsimp
  refine idxK_intro ([I (at0 t 0)]) (fun _ => by simp [g0]) ?_
  simp -dsimp
  refine callK_may _ (fun hm => hmi) (by simp) ?_
  simp -dsimp
  refine hK _ _ _ (by decide +kernel) ?_; clear hK K
  refine gwp_cond rfl (fun hc0 => ?_) (fun hc0 => ?_)
  · skip
    skip
    simp at hc0
  · skip
    skip
    refine gwp_skip ?_
    simp only [thenA, inBlockA, reduceIte, Nat.reduceEqDiff, eq_self]
    refine hK1 _ _ ?_
    refine gwp_prune [1, 4, 6] (Or.inr (by simp)) ?_
    simp only [prune, List.map_cons, List.map_nil, Go.AM.look, Nat.reduceEqDiff, reduceIte]
    refine gwp_sr rfl (by decide) rfl rfl fun K hK => ?_
    simp -dsimp
    refine callK_intro _ (hva) (by simp) ?_
    simp -dsimp
    refine callK_mut [] [] [none, none, none, some 0] (hso) (by decide) rfl (by simp) (by simp) rfl (by simp) ?_
    simp -dsimp
    refine hK _ _ ?_; clear hK K
    refine gwp_sd mixed rfl (by decide) rfl rfl fun K hK => ?_
    simp -dsimp [f1]
    refine hK _ _ _ (by decide +kernel) ?_; clear hK K
    refine gwp_sr rfl (by decide) rfl rfl fun K hK => ?_
    simp -dsimp
    refine hK _ _ ?_; clear hK K
    refine gwp_seq_k fun K2 hK2 => ?_
    refine gwp_sr rfl (by decide) rfl rfl fun K hK => ?_
    simp -dsimp
    refine hK _ _ ?_; clear hK K
    refine gwp_block ?_
    refine gwp_prune [1, 4, 6, 7, 8, 9, 44, 45, 46] (Or.inr (by simp)) ?_
    simp only [prune, List.map_cons, List.map_nil, Go.AM.look, Nat.reduceEqDiff, reduceIte]
    refine gwp_loop_l [1, 4, 6, 7, 8, 44, 45] (α := Nat) (fun i => [(46, I i), (9, I (lenTo j t i))]) (fun i => [some (.els 6 [j.cells]), some (.els 3 [[I 0, .v (.slice none 0 0), .v (.slice none 0 0)]]), some (.els 6 [j.cells]), some (.els 1 ((srt t).map nCell)), some (.els 1 ((spB j t i).map nCell)), some (.els 1 ((spL j t i).map nCell)), some (.els 3 [[I 0, .row 4 0 t.length, .row 5 0 t.length]])]) (fun i => i ≤ t.length) (fun i => t.length - i) 0 ?_ ?_ ?_
    · exact Nat.zero_le _
    · exact gsub (sub_rb [some 0, some 1, some 2, some 3, some 4, some 5, some 6] rfl (by simp [lenTo]) (by simp [hB0, hL0])) (by simp)
    rintro k k1
    simp only [List.cons_append, List.nil_append, prune, List.map_cons, List.map_nil, Go.AM.look, Nat.reduceEqDiff, reduceIte]
    refine gwp_sr rfl (by decide) rfl rfl fun K hK => ?_
    simp -dsimp
    refine hK _ _ ?_; clear hK K
    refine gwp_seq_k fun K3 hK3 => ?_
    refine gwp_cond rfl (fun hc1 => ?_) (fun hc1 => ?_)
    · skip
      skip
      have hkl : k < t.length := by simpa using hc1
      have ga := at0_nat hkl
      have hb1 : spB j t (k + 1) = (spB j t k).set (lbI (srt t) (at0 t k)) (lenTo j t k) := by
        have h1 := sp_set hnd ga (begF j t)
        have h2 : begF j t (at0 t k) = lenTo j t k := by unfold begF; rw [idx_at hnd ga]
        rw [h2] at h1
        exact h1.symm
      have hb2 : spL j t (k + 1) = (spL j t k).set (lbI (srt t) (at0 t k)) (strm j (at0 t k)).Least := (sp_set hnd ga fun s => (strm j s).Least).symm
      have hbl : (spB j t k).length = t.length := by simp [spB, hsl]
      have hll : (spL j t k).length = t.length := by simp [spL, hsl]
      have hlb := lb_lt hnd (List.mem_of_getElem? ga)
      obtain ⟨fb, hse⟩ := c_Search (srt t) (at0 t k) (srt_sorted t) (by omega)
      have ha := htb.2.2 _ (List.mem_of_getElem? ga)
      have hmlt : (k + 1) % t.length < t.length := Nat.mod_lt _ (by omega)
      have gb := at0_nat (l := t) (k := (k + 1) % t.length) hmlt
      have hb := htb.2.2 _ (List.mem_of_getElem? gb)
      have wk : IntKind.i64.wrap ((k : Int) + 1) = (k : Int) + 1 := wrap_in (by omega) (by omega)
      have hmm : ((k : Int) + 1).tmod (t.length : Int) = (((k + 1) % t.length : Nat) : Int) := by rw [Int.tmod_eq_emod_of_nonneg (by omega)]; rfl
      have hpt : partI j t k = (strm j (at0 t k)).Least + clr j (at0 t k) (at0 t ((k + 1) % t.length : Nat)) := rfl
      have hlbd := lenTo_bd ho htb.2.2 k k1
      have hpbd := part_bd ho htb.2.2 hkl
      have hlne : ¬ t = [] := by intro e; rw [e] at hkl; simp at hkl
      generalize (k + 1) % t.length = m at hmlt gb hb hmm hpt
      have hla : lenTo j t (k + 1) = lenTo j t k + partI j t k := rfl
      generalize at0 t k = a at ga ha hpt hb1 hb2 hlb hse
      generalize at0 t m = b at gb hb hpt
      have gs := strm_get ha.1 ha.2
      have hs := ho.strm a ha.1 ha.2
      have gr := ho.sqr.row ha.1 ha.2
      have gc := ho.sqr.get ha.1 ha.2 hb.1 hb.2
      have hc := ho.cl a b ha.1 ha.2 hb.1 hb.2
      have w1 : IntKind.i64.wrap ((strm j a).Least + clr j a b) = (strm j a).Least + clr j a b := wrap_in (by omega) (by omega)
      have w2 : IntKind.i64.wrap (lenTo j t k + ((strm j a).Least + clr j a b)) = lenTo j t (k + 1) := by rw [wrap_in (by omega) (by omega)]; omega
      generalize lbI (srt t) a = q at hb1 hb2 hlb hse
      generalize spB j t k = B at hb1 hbl ⊢
      generalize spL j t k = L at hb2 hll ⊢
      have tS : List.take t.length ((srt t).map nCell) = (srt t).map nCell := List.take_of_length_le (by simp [hsl])
      obtain ⟨bq, hbq⟩ : ∃ x, B[q]? = some x := ⟨_, List.getElem?_eq_getElem (by omega)⟩
      obtain ⟨lq, hlq⟩ : ∃ x, L[q]? = some x := ⟨_, List.getElem?_eq_getElem (by omega)⟩
      refine gwp_skip ?_
      simp only [thenA, inBlockA, reduceIte, Nat.reduceEqDiff, eq_self]
      refine hK3 _ _ ?_
      refine gwp_prune [1, 4, 6, 7, 8, 9, 44, 45, 46] (Or.inr (by simp)) ?_
      simp only [prune, List.map_cons, List.map_nil, Go.AM.look, Nat.reduceEqDiff, reduceIte]
      refine gwp_seq_k fun K4 hK4 => ?_
      refine gwp_block ?_
      refine gwp_sr rfl (by decide) rfl rfl fun K hK => ?_
      simp -dsimp [ga]
      refine hK _ _ ?_; clear hK K
      refine gwp_sr rfl (by decide) rfl rfl fun K hK => ?_
      simp -dsimp [tS, hsl]
      refine callK_intro _ (hse) (by simp) ?_
      simp -dsimp [tS, hsl]
      refine hK _ _ ?_; clear hK K
      refine gwp_sd mixed rfl (by decide) rfl rfl fun K hK => ?_
      simp -dsimp [gs, ha.1, hbl, hll, hlb, hbq, hlq]
      refine hK _ _ _ (by decide +kernel) ?_; clear hK K
      refine gwp_draw mixed rfl (by decide) rfl rfl fun K hK => ?_
      simp -dsimp [ga, gb, gs, gr.1, gc, w1, w2, wk, hmm, hlne, ha.1, hb.1]
      refine hK _ _ _ (by decide +kernel) ?_; clear hK K
      simp only [thenA, inBlockA, reduceIte, Nat.reduceEqDiff, eq_self]
      refine hK4 _ _ ?_
      refine gwp_prune [1, 4, 6, 7, 8, 9, 44, 45, 46] (Or.inr (by simp)) ?_
      simp only [prune, List.map_cons, List.map_nil, Go.AM.look, Nat.reduceEqDiff, reduceIte]
      refine gwp_r rfl (by decide) rfl rfl fun K hK => ?_
      simp -dsimp [wk]
      refine hK _ _ ?_; clear hK K
      simp only [thenA, inBlockA, reduceIte, Nat.reduceEqDiff, eq_self]
      exact ⟨k + 1, by omega, by omega, gsub (sub_rb [some 0, some 1, some 2, some 3, some 4, some 5, some 6] rfl (by simp) (by simp [hb1, hb2, List.map_set])) (by simp)⟩
    · skip
      skip
      have hkk : ¬ k < t.length := by simpa using hc1
      have hke : k = t.length := by omega
      subst hke
      have eB : spB j t t.length = (srt t).map (begF j t) := sp_end _
      have eL : spL j t t.length = (srt t).map fun s => (strm j s).Least := sp_end _
      rw [eB, eL]
      have tB : List.take t.length (((srt t).map (begF j t)).map nCell) = ((srt t).map (begF j t)).map nCell := List.take_of_length_le (by simp [hsl])
      have tL : List.take t.length (((srt t).map fun s => (strm j s).Least).map nCell) = ((srt t).map fun s => (strm j s).Least).map nCell := List.take_of_length_le (by simp [hsl])
      have e1 : (spreadP j t).Begins = (srt t).map (begF j t) := rfl
      have e2 : (spreadP j t).Lasts = (srt t).map fun s => (strm j s).Least := rfl
      have e3 : (spreadP j t).Cycle = lenTo j t t.length := rfl
      rw [← e1, ← e2, ← e3]
      rw [← e1] at tB
      rw [← e2] at tL
      generalize hP : spreadP j t = P at tB tL e1 e2 ⊢
      have hB : t.length ≤ P.Begins.length := by rw [e1]; simp [hsl]
      have hL : t.length ≤ P.Lasts.length := by rw [e2]; simp [hsl]
      refine gwp_exit ?_
      simp only [thenA, inBlockA, reduceIte, Nat.reduceEqDiff, eq_self]
      refine hK2 _ _ ?_
      refine gwp_prune [4, 8, 9] (Or.inr (by simp)) ?_
      simp only [prune, List.map_cons, List.map_nil, Go.AM.look, Nat.reduceEqDiff, reduceIte]
      refine gwp_sr rfl (by decide) rfl rfl fun K hK => ?_
      simp -dsimp
      refine hK _ _ ?_; clear hK K
      refine gwp_sr rfl (by decide) rfl rfl fun K hK => ?_
      simp -dsimp
      refine hK _ _ ?_; clear hK K
      exact gwp_ret (by simp [tB, tL, hB, hL, resP, tupOf, hP])
end Go.Street
