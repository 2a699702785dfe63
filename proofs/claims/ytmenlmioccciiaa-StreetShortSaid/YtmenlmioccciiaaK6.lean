/- Walks: the specification's shortest tour, and its program. -/
import Derived.Test.YtmenlmioccciiaaK5
namespace Go.Street
open Go.AM Go.Proofs
set_option maxRecDepth 10000
set_option maxHeartbeats 8000000
set_option linter.unusedVariables false
set_option linter.unusedSimpArgs false

def betterF (j : Jn) (b t : List Int) : List Int := if lenF j t < lenF j b then t else b
def bestL (j : Jn) (m : List (List Int)) : List Int := m.tail.foldl (betterF j) (m.headD [])
theorem bestL_snoc {j : Jn} {m : List (List Int)} {k : Nat} {t : List Int} (h : m[k]? = some t) (hk : 1 ≤ k) : bestL j (m.take (k + 1)) = betterF j (bestL j (m.take k)) t := by
  cases m with
  | nil => simp at h
  | cons y m =>
    obtain ⟨k, rfl⟩ : ∃ q, k = q + 1 := ⟨k - 1, by omega⟩
    simp only [List.getElem?_cons_succ] at h
    simp only [bestL, List.take_succ_cons, List.tail_cons, List.headD_cons]
    rw [List.take_add_one, h]
    simp
theorem bestL_mem {j : Jn} {m : List (List Int)} (h : m ≠ []) : bestL j m ∈ m := by
  have gen : ∀ (m : List (List Int)) (b : List Int), m.foldl (betterF j) b = b ∨ m.foldl (betterF j) b ∈ m := by
    intro m
    induction m with
    | nil => intro b; exact Or.inl rfl
    | cons t m ih =>
      intro b
      rw [List.foldl_cons]
      rcases ih (betterF j b t) with h | h
      · rw [h]
        unfold betterF
        split
        · right; simp
        · left; rfl
      · right; simp [h]
  cases m with
  | nil => exact absurd rfl h
  | cons t m =>
    unfold bestL
    simp only [List.tail_cons, List.headD_cons]
    rcases gen m t with h | h
    · rw [h]; simp
    · simp [h]
theorem toursF_in {l : List Int} : ∀ (n : Nat) (b : List Int), (∀ x ∈ b, x ∈ l) → ∀ t ∈ toursF l n b, t.length = l.length ∧ ∀ x ∈ t, x ∈ l
  | 0, b, hb, t, ht => by
    unfold toursF at ht
    split at ht
    · rename_i he; simp only [List.mem_singleton] at ht; subst ht; exact ⟨he, hb⟩
    · simp at ht
  | n + 1, b, hb, t, ht => by
    unfold toursF at ht
    split at ht
    · rename_i he; simp only [List.mem_singleton] at ht; subst ht; exact ⟨he, hb⟩
    · obtain ⟨x, hx, ht⟩ := List.mem_flatMap.1 ht
      split at ht
      · simp at ht
      · exact toursF_in n (b ++ [x]) (fun y hy => by rcases List.mem_append.1 hy with h | h; exact hb y h; simp at h; subst h; exact hx) t ht

theorem c_rTour (j : Jn) (l : List Int) (hf : Fit j) (ho : JOk j) (hl : ∀ x ∈ l, 0 ≤ x ∧ x < j.n) (h1 : 1 ≤ l.length) (h6 : l.length ≤ 6) (hne : toursF l 6 (l.take 1) ≠ []) : PureCall Try.prog 19 [j.av, iL l] (iL (bestL j (toursF l 6 (l.take 1)))) := by
  have hto := m_rtours l h6 6 (l.take 1) (by omega) (by rw [List.length_take]; omega) (by rw [List.length_take]; omega) (by omega)
  have hin := toursF_in (l := l) 6 (l.take 1) (fun x hx => List.mem_of_mem_take hx)
  have hbn := toursF_len l h6 6 (l.take 1)
  generalize toursF l 6 (l.take 1) = m at hto hin hbn hne ⊢
  have hto2 : MutCall Try.prog 57 [iL l, .lst 1 ((l.map nCell).take 1)] [] [] (.row 0 0 m.length) [] [some (.els 1 (m.map rCell))] := by rw [← List.map_take]; exact hto
  have hm1 : 1 ≤ m.length := by cases m with | nil => exact absurd rfl hne | cons a m => simp
  have hbn2 : m.length ≤ 46656 := hbn
  obtain ⟨t0, ht0⟩ : ∃ t, m[0]? = some t := ⟨_, List.getElem?_eq_getElem (by omega)⟩
  refine PureCall.of_bodyG Try.func19 rfl (by decide) (by simp [Try.ntmps19]) ?_
  intro J hJ
  simp only [Try.ntmps19, Try.results19]
  refine gwp_sr rfl (by decide) rfl rfl fun K hK => ?_
  simp -dsimp
  refine hK _ _ ?_; clear hK K
  refine gwp_sr rfl (by decide) rfl rfl fun K hK => ?_
  simp -dsimp [h1]
  refine callK_mut [] [] [none, some 0] (hto2) (by decide) rfl (by simp) (by simp) rfl (by simp) ?_
  simp -dsimp [h1]
  refine hK _ _ ?_; clear hK K
  refine gwp_sr rfl (by decide) rfl rfl fun K hK => ?_
  simp -dsimp [ht0]
  try refine ⟨by omega, ?_⟩
  refine hK _ _ ?_; clear hK K
  refine gwp_seq_k fun K1 hK1 => ?_
  refine gwp_sr rfl (by decide) rfl rfl fun K hK => ?_
  simp -dsimp
  refine hK _ _ ?_; clear hK K
  refine gwp_block ?_
  refine gwp_prune [2, 5, 6, 7] (Or.inr (by simp)) ?_
  simp only [prune, List.map_cons, List.map_nil, Go.AM.look, Nat.reduceEqDiff, reduceIte]
  refine gwp_loop_l [2, 5] (α := Nat) (fun k => [(6, iL (bestL j (m.take k))), (7, I k)]) (fun k => [some (.els 6 [j.cells]), some (.els 1 (m.map rCell))]) (fun k => 1 ≤ k ∧ k ≤ m.length) (fun k => m.length - k) 1 ?_ ?_ ?_
  · exact ⟨by omega, by omega⟩
  · have hx1 : bestL j (m.take 1) = t0 := by cases m with | nil => simp at ht0 | cons a m => simp at ht0; subst ht0; rfl
    exact gsub (sub_rb [some 0, some 1] rfl (by simp [hx1]) (by simp)) (by simp)
  rintro k ⟨k1, k2⟩
  simp only [List.cons_append, List.nil_append, prune, List.map_cons, List.map_nil, Go.AM.look, Nat.reduceEqDiff, reduceIte]
  refine gwp_seq_k fun K2 hK2 => ?_
  refine gwp_sr rfl (by decide) rfl rfl fun K hK => ?_
  simp -dsimp
  refine hK _ _ ?_; clear hK K
  refine gwp_cond rfl (fun hc0 => ?_) (fun hc0 => ?_)
  · skip
    skip
    have hkl : k < m.length := by simpa using hc0
    obtain ⟨t, ht⟩ : ∃ t, m[k]? = some t := ⟨_, List.getElem?_eq_getElem hkl⟩
    have wk : IntKind.i64.wrap ((k : Int) + 1) = (k : Int) + 1 := wrap_in (by omega) (by omega)
    have hti := hin t (List.mem_of_getElem? ht)
    have hbm := bestL_mem (j := j) (m := m.take k) (List.ne_nil_of_length_pos (by rw [List.length_take]; omega))
    have hbi := hin _ (List.mem_of_mem_take hbm)
    have hsn := bestL_snoc (j := j) ht k1
    generalize bestL j (m.take k) = b at hbi hsn ⊢
    have hL1 := c_rLength j t ho (fun x hx => hl x (hti.2 x hx)) (by omega)
    have hL2 := c_rLength j b ho (fun x hx => hl x (hbi.2 x hx)) (by omega)
    refine gwp_skip ?_
    simp only [thenA, inBlockA, reduceIte, Nat.reduceEqDiff, eq_self]
    refine hK2 _ _ ?_
    refine gwp_prune [2, 5, 6, 7] (Or.inr (by simp)) ?_
    simp only [prune, List.map_cons, List.map_nil, Go.AM.look, Nat.reduceEqDiff, reduceIte]
    refine gwp_seq_k fun K3 hK3 => ?_
    refine gwp_block ?_
    refine gwp_sd mixed rfl (by decide) rfl rfl fun K hK => ?_
    simp -dsimp [ht]
    try refine ⟨hkl, ?_⟩
    refine callK_intro _ (hL1) (by simp) ?_
    simp -dsimp [ht]
    refine callK_intro _ (hL2) (by simp) ?_
    simp -dsimp [ht]
    refine hK _ _ _ (by decide +kernel) ?_; clear hK K
    refine gwp_cond rfl (fun hc1 => ?_) (fun hc1 => ?_)
    · skip
      try simp at hc1
      refine gwp_r rfl (by decide) rfl rfl fun K hK => ?_
      simp -dsimp [ht]
      try refine ⟨hkl, ?_⟩
      refine hK _ _ ?_; clear hK K
      simp only [thenA, inBlockA, reduceIte, Nat.reduceEqDiff, eq_self]
      refine hK3 _ _ ?_
      refine gwp_prune [2, 5, 6, 7] (Or.inr (by simp)) ?_
      simp only [prune, List.map_cons, List.map_nil, Go.AM.look, Nat.reduceEqDiff, reduceIte]
      refine gwp_r rfl (by decide) rfl rfl fun K hK => ?_
      simp -dsimp [wk]
      refine hK _ _ ?_; clear hK K
      simp only [thenA, inBlockA, reduceIte, Nat.reduceEqDiff, eq_self]
      have hst : bestL j (m.take (k + 1)) = t := by rw [hsn]; unfold betterF; rw [if_pos hc1]
      exact ⟨k + 1, ⟨by omega, by omega⟩, by omega, gsub (sub_rb [some 0, some 1] rfl (by simp [hst]) (by simp)) (by simp)⟩
    · skip
      try simp at hc1
      refine gwp_skip ?_
      simp only [thenA, inBlockA, reduceIte, Nat.reduceEqDiff, eq_self]
      refine hK3 _ _ ?_
      refine gwp_prune [2, 5, 6, 7] (Or.inr (by simp)) ?_
      simp only [prune, List.map_cons, List.map_nil, Go.AM.look, Nat.reduceEqDiff, reduceIte]
      refine gwp_r rfl (by decide) rfl rfl fun K hK => ?_
      simp -dsimp [wk]
      refine hK _ _ ?_; clear hK K
      simp only [thenA, inBlockA, reduceIte, Nat.reduceEqDiff, eq_self]
      have hst : bestL j (m.take (k + 1)) = b := by rw [hsn]; unfold betterF; rw [if_neg (by omega)]
      exact ⟨k + 1, ⟨by omega, by omega⟩, by omega, gsub (sub_rb [some 0, some 1] rfl (by simp [hst]) (by simp)) (by simp)⟩
  · skip
    skip
    have hkl : ¬ k < m.length := by simpa using hc0
    have hke : k = m.length := by omega
    subst hke
    rw [List.take_of_length_le (Nat.le_refl _)]
    refine gwp_exit ?_
    simp only [thenA, inBlockA, reduceIte, Nat.reduceEqDiff, eq_self]
    refine hK1 _ _ ?_
    refine gwp_prune [6] (Or.inr (by simp)) ?_
    simp only [prune, List.map_cons, List.map_nil, Go.AM.look, Nat.reduceEqDiff, reduceIte]
    refine gwp_sr rfl (by decide) rfl rfl fun K hK => ?_
    simp -dsimp
    refine hK _ _ ?_; clear hK K
    exact gwp_ret (by simp)

/-- The tour's streams below a number. -/
def lowS (t : List Int) : Nat → List Int
  | 0 => []
  | a + 1 => lowS t a ++ if (a : Int) ∈ t then [(a : Int)] else []
theorem lowS_mem {t : List Int} {x : Int} : ∀ n : Nat, x ∈ lowS t n ↔ 0 ≤ x ∧ x < n ∧ x ∈ t
  | 0 => by simp only [lowS, List.not_mem_nil, false_iff]; omega
  | n + 1 => by
    simp only [lowS, List.mem_append, lowS_mem n]
    constructor
    · rintro (⟨h1, h2, h3⟩ | h)
      · exact ⟨h1, by omega, h3⟩
      · split at h
        · rename_i hm; simp only [List.mem_singleton] at h; subst h; exact ⟨by omega, by omega, hm⟩
        · simp at h
    · rintro ⟨h1, h2, h3⟩
      rcases Int.lt_or_le x n with h | h
      · exact Or.inl ⟨h1, h, h3⟩
      · right
        have e : x = (n : Int) := by omega
        rw [← e, if_pos h3]; simp
theorem lowS_sorted {t : List Int} : ∀ n : Nat, (lowS t n).Pairwise (· < ·)
  | 0 => by simp [lowS]
  | n + 1 => by
    simp only [lowS]
    rw [List.pairwise_append]
    refine ⟨lowS_sorted n, by split <;> simp, fun a ha b hb => ?_⟩
    have := (lowS_mem n).1 ha
    split at hb
    · simp only [List.mem_singleton] at hb; omega
    · simp at hb
theorem lowS_srt {t : List Int} {n : Nat} (hn : t.Nodup) (h : ∀ x ∈ t, 0 ≤ x ∧ x < n) : lowS t n = srt t :=
  strict_ext (lowS_sorted n) (srt_strict hn) fun x => by
    rw [lowS_mem, srt_mem]
    exact ⟨fun k => k.2.2, fun k => ⟨(h x k).1, (h x k).2, k⟩⟩
theorem lowS_len {t : List Int} : ∀ n : Nat, (lowS t n).length ≤ n
  | 0 => by simp [lowS]
  | n + 1 => by
    have := lowS_len (t := t) n
    simp only [lowS, List.length_append]
    split <;> simp <;> omega

def mB (j : Jn) (t l : List Int) : List Int := l.map (begF j t)
def mL (j : Jn) (l : List Int) : List Int := l.map fun s => (strm j s).Least
theorem mB_snoc (j : Jn) (t l : List Int) (x : Int) : mB j t (l ++ [x]) = mB j t l ++ [begF j t x] := by simp [mB]
theorem mL_snoc (j : Jn) (l : List Int) (x : Int) : mL j (l ++ [x]) = mL j l ++ [(strm j x).Least] := by simp [mL]
theorem mB_len (j : Jn) (t l : List Int) : (mB j t l).length = l.length := by simp [mB]
theorem mL_len (j : Jn) (l : List Int) : (mL j l).length = l.length := by simp [mL]
theorem c_rSpread (j : Jn) (t : List Int) (hf : Fit j) (ho : JOk j) (ht : touredB j t = true) : PureCall Try.prog 22 [j.av, iL t] (spreadP j t).av := by
  have htb := toured_bd ht
  have hnd := toured_nodup ht
  have hn2 := ho.n2
  have hnl : j.n = j.Streams.length := rfl
  have hlen := c_rLength j t ho htb.2.2 (by omega)
  have hsr := lowS_srt hnd htb.2.2
  have hP : spreadP j t = ⟨lenF j t, mB j t (lowS t j.n), mL j (lowS t j.n)⟩ := by rw [hsr]; rfl
  rw [hP]
  generalize lenF j t = C at hlen ⊢
  have hlow := lowS_len (t := t)
  have hl0 : lowS t 0 = [] := rfl
  have hls : ∀ a : Nat, lowS t (a + 1) = lowS t a ++ if (a : Int) ∈ t then [(a : Int)] else [] := fun a => rfl
  generalize lowS t = S at hlow hl0 hls ⊢
  refine PureCall.of_body Try.func22 rfl (by decide) (by simp [Try.ntmps22]) ?_
  simp only [Try.ntmps22, Try.results22]
  refine awp_sr rfl fun K hK => ?_
  simp -dsimp
  refine hK _ _ ?_; clear hK K
  refine awp_sr rfl fun K hK => ?_
  simp -dsimp
  refine callK_intro _ (hlen) (by simp) ?_
  simp -dsimp
  refine hK _ _ ?_; clear hK K
  refine awp_seq_k fun K1 hK1 => ?_
  refine awp_sr rfl fun K hK => ?_
  simp -dsimp
  refine hK _ _ ?_; clear hK K
  refine awp_block ?_
  refine awp_prune [1, 2, 4, 5, 6] ?_
  simp only [prune, List.map_cons, List.map_nil, Go.AM.look, Nat.reduceEqDiff, reduceIte]
  refine awp_loop_l [1, 2, 4, 5] (α := Nat) (fun a => [(6, I a)]) (fun a => [some (.els 6 [j.cells]), some (.els 3 [[I 0, .v (.slice none 0 0), .v (.slice none 0 0)]]), some (.els 3 [[I C, .row 3 0 (S a).length, .row 4 0 (S a).length]]), some (.els 1 ((mB j t (S a)).map nCell)), some (.els 1 ((mL j (S a)).map nCell))]) (fun a => a ≤ j.n) (fun a => j.n - a) 0 ?_ ?_ ?_
  · exact Nat.zero_le _
  · exact ((sub_nilc 2 0 1 1 (sz0 := 3) (by simp; rfl) (by simp; rfl) (by simp)).trans (sub_nilc 2 0 2 1 (sz0 := 3) (by simp; rfl) (by simp; rfl) (by simp))).trans (sub_rb [some 0, some 1, some 2, some 3, some 4] rfl (by simp) (by simp [hl0, mB, mL]))
  rintro a a1
  simp only [List.cons_append, List.nil_append, prune, List.map_cons, List.map_nil, Go.AM.look, Nat.reduceEqDiff, reduceIte]
  refine awp_seq_k fun K2 hK2 => ?_
  refine awp_sr rfl fun K hK => ?_
  simp -dsimp
  refine hK _ _ ?_; clear hK K
  refine awp_cond rfl (fun hc0 => ?_) (fun hc0 => ?_)
  · skip
    try simp at hc0
    have ha : a < j.n := hc0
    have wa : IntKind.i64.wrap ((a : Int) + 1) = (a : Int) + 1 := wrap_in (by omega) (by omega)
    have gs := strm_get (j := j) (s := (a : Int)) (by omega) (by omega)
    have hSl := hlow a
    have hSs := hls a
    simp only [Int.toNat_natCast] at gs
    generalize S a = P at hSl hSs ⊢
    obtain ⟨R, hR⟩ : ∃ R : Nat → List Int, ∀ i, R i = P ++ if (a : Int) ∈ t.take i then [(a : Int)] else [] := ⟨_, fun _ => rfl⟩
    have hR0 : R 0 = P := by rw [hR]; simp
    refine awp_skip ?_
    simp only [thenA, inBlockA, reduceIte, Nat.reduceEqDiff, eq_self]
    refine hK2 _ _ ?_
    refine awp_prune [1, 2, 4, 5, 6] ?_
    simp only [prune, List.map_cons, List.map_nil, Go.AM.look, Nat.reduceEqDiff, reduceIte]
    refine awp_seq_k fun K3 hK3 => ?_
    refine awp_block ?_
    refine awp_sr rfl fun K hK => ?_
    simp -dsimp
    refine hK _ _ ?_; clear hK K
    refine awp_sr rfl fun K hK => ?_
    simp -dsimp
    refine hK _ _ ?_; clear hK K
    refine awp_block ?_
    refine awp_prune [1, 2, 4, 5, 6, 7, 8] ?_
    simp only [prune, List.map_cons, List.map_nil, Go.AM.look, Nat.reduceEqDiff, reduceIte]
    refine awp_loop_l [1, 2, 4, 5, 6] (α := Nat) (fun i => [(7, I (lenTo j t i)), (8, I i)]) (fun i => [some (.els 6 [j.cells]), some (.els 3 [[I 0, .v (.slice none 0 0), .v (.slice none 0 0)]]), some (.els 3 [[I C, .row 3 0 (R i).length, .row 4 0 (R i).length]]), some (.els 1 ((mB j t (R i)).map nCell)), some (.els 1 ((mL j (R i)).map nCell))]) (fun i => i ≤ t.length) (fun i => t.length - i) 0 ?_ ?_ ?_
    · exact Nat.zero_le _
    · exact sub_rb [some 0, some 1, some 2, some 3, some 4] rfl (by simp [lenTo]) (by simp [hR0])
    rintro i i1
    simp only [List.cons_append, List.nil_append, prune, List.map_cons, List.map_nil, Go.AM.look, Nat.reduceEqDiff, reduceIte]
    refine awp_seq_k fun K4 hK4 => ?_
    refine awp_sr rfl fun K hK => ?_
    simp -dsimp
    refine hK _ _ ?_; clear hK K
    refine awp_cond rfl (fun hc1 => ?_) (fun hc1 => ?_)
    · skip
      try simp at hc1
      have ga := at0_nat hc1
      have hA := htb.2.2 _ (List.mem_of_getElem? ga)
      have hidx := idx_at hnd ga
      have hmlt : (i + 1) % t.length < t.length := Nat.mod_lt _ (by omega)
      have gb := at0_nat (l := t) (k := (i + 1) % t.length) hmlt
      have hB := htb.2.2 _ (List.mem_of_getElem? gb)
      have wk : IntKind.i64.wrap ((i : Int) + 1) = (i : Int) + 1 := wrap_in (by omega) (by omega)
      have hmm : ((i : Int) + 1).tmod (t.length : Int) = (((i + 1) % t.length : Nat) : Int) := by rw [Int.tmod_eq_emod_of_nonneg (by omega)]; rfl
      have hpt : partI j t i = (strm j (at0 t i)).Least + clr j (at0 t i) (at0 t ((i + 1) % t.length : Nat)) := rfl
      have hlbd := lenTo_bd ho htb.2.2 i i1
      have hlne : ¬ t = [] := by intro e; rw [e] at hc1; simp at hc1
      have hla : lenTo j t (i + 1) = lenTo j t i + partI j t i := rfl
      have hts : (a : Int) ∈ t.take (i + 1) ↔ (a : Int) ∈ t.take i ∨ (a : Int) = at0 t i := mem_take_succ ga
      have hnt : (a : Int) = at0 t i → (a : Int) ∉ t.take i := by
        intro e hm
        obtain ⟨q, hq⟩ := List.getElem?_of_mem hm
        have hql := (List.getElem?_eq_some_iff.1 hq).1
        rw [List.length_take] at hql
        rw [List.getElem?_take, if_pos (by omega), e] at hq
        have := idx_at hnd hq
        omega
      generalize (i + 1) % t.length = m at hmlt gb hB hmm hpt
      generalize at0 t m = b at gb hB hpt
      generalize at0 t i = y at ga hA hidx hpt hts hnt
      have gs2 := strm_get hA.1 hA.2
      have hs2 := ho.strm y hA.1 hA.2
      have gr := ho.sqr.row hA.1 hA.2
      have gc := ho.sqr.get hA.1 hA.2 hB.1 hB.2
      have hcl := ho.cl y b hA.1 hA.2 hB.1 hB.2
      have w1 : IntKind.i64.wrap (lenTo j t i + (strm j y).Least) = lenTo j t i + (strm j y).Least := wrap_in (by omega) (by omega)
      have w2 : IntKind.i64.wrap (lenTo j t i + (strm j y).Least + clr j y b) = lenTo j t (i + 1) := by rw [wrap_in (by omega) (by omega)]; omega
      refine awp_skip ?_
      simp only [thenA, inBlockA, reduceIte, Nat.reduceEqDiff, eq_self]
      refine hK4 _ _ ?_
      refine awp_prune [1, 2, 4, 5, 6, 7, 8] ?_
      simp only [prune, List.map_cons, List.map_nil, Go.AM.look, Nat.reduceEqDiff, reduceIte]
      refine awp_seq_k fun K5 hK5 => ?_
      refine awp_block ?_
      refine awp_seq_k fun K6 hK6 => ?_
      refine awp_sr rfl fun K hK => ?_
      simp -dsimp [ga]
      refine hK _ _ ?_; clear hK K
      refine awp_cond rfl (fun hc2 => ?_) (fun hc2 => ?_)
      · skip
        try simp [beq_d] at hc2
        have hni := hnt hc2.symm
        have hbe : begF j t a = lenTo j t i := by unfold begF; rw [← hc2, hidx]
        have f1 : Fits (P.length + 1) 9 := fits_of (by omega) (by omega)
        have hRi : R i = P := by rw [hR, if_neg hni]; simp
        have hRs : R (i + 1) = P ++ [(a : Int)] := by rw [hR, if_pos (hts.2 (Or.inr hc2.symm))]
        rw [hRi]
        have tB : List.take P.length ((mB j t P).map nCell) = (mB j t P).map nCell := List.take_of_length_le (by simp [mB_len])
        have tL : List.take P.length ((mL j P).map nCell) = (mL j P).map nCell := List.take_of_length_le (by simp [mL_len])
        have nB := mB_len j t P
        have nL := mL_len j P
        refine awp_sr rfl fun K hK => ?_
        simp -dsimp [f1, tB, nB]
        refine hK _ _ ?_; clear hK K
        refine awp_draw mixed rfl fun K hK => ?_
        simp -dsimp [f1, tL, nL, gs]
        refine hK _ _ _ (by decide +kernel) ?_; clear hK K
        simp only [thenA, inBlockA, reduceIte, Nat.reduceEqDiff, eq_self]
        refine hK6 _ _ ?_
        refine awp_prune [1, 2, 4, 5, 6, 7, 8] ?_
        simp only [prune, List.map_cons, List.map_nil, Go.AM.look, Nat.reduceEqDiff, reduceIte]
        refine awp_draw mixed rfl fun K hK => ?_
        simp -dsimp [ga, gb, gs2, gr.1, gc, w1, w2, wk, hmm, hlne, hA.1, hB.1]
        refine hK _ _ _ (by decide +kernel) ?_; clear hK K
        simp only [thenA, inBlockA, reduceIte, Nat.reduceEqDiff, eq_self]
        refine hK5 _ _ ?_
        refine awp_prune [1, 2, 4, 5, 6, 7, 8] ?_
        simp only [prune, List.map_cons, List.map_nil, Go.AM.look, Nat.reduceEqDiff, reduceIte]
        refine awp_r rfl fun K hK => ?_
        simp -dsimp [wk]
        refine hK _ _ ?_; clear hK K
        simp only [thenA, inBlockA, reduceIte, Nat.reduceEqDiff, eq_self]
        exact ⟨i + 1, by omega, by omega, sub_rb [some 0, some 1, some 2, some 5, some 6] rfl (by simp) (by simp [hRs, mB_snoc, mL_snoc, hbe])⟩
      · skip
        try simp [beq_d] at hc2
        have hRs : R (i + 1) = R i := by
          have hin : (a : Int) ∈ t.take (i + 1) ↔ (a : Int) ∈ t.take i := by rw [hts]; exact ⟨fun h => h.resolve_right (fun e => hc2 e.symm), Or.inl⟩
          rw [hR, hR]; simp only [hin]
        refine awp_skip ?_
        simp only [thenA, inBlockA, reduceIte, Nat.reduceEqDiff, eq_self]
        refine hK6 _ _ ?_
        refine awp_prune [1, 2, 4, 5, 6, 7, 8] ?_
        simp only [prune, List.map_cons, List.map_nil, Go.AM.look, Nat.reduceEqDiff, reduceIte]
        refine awp_draw mixed rfl fun K hK => ?_
        simp -dsimp [ga, gb, gs2, gr.1, gc, w1, w2, wk, hmm, hlne, hA.1, hB.1]
        refine hK _ _ _ (by decide +kernel) ?_; clear hK K
        simp only [thenA, inBlockA, reduceIte, Nat.reduceEqDiff, eq_self]
        refine hK5 _ _ ?_
        refine awp_prune [1, 2, 4, 5, 6, 7, 8] ?_
        simp only [prune, List.map_cons, List.map_nil, Go.AM.look, Nat.reduceEqDiff, reduceIte]
        refine awp_r rfl fun K hK => ?_
        simp -dsimp [wk]
        refine hK _ _ ?_; clear hK K
        simp only [thenA, inBlockA, reduceIte, Nat.reduceEqDiff, eq_self]
        exact ⟨i + 1, by omega, by omega, sub_rb [some 0, some 1, some 2, some 3, some 4] rfl (by simp) (by simp [hRs])⟩
    · skip
      try simp at hc1
      have hke : i = t.length := by omega
      subst hke
      have hte : t.take t.length = t := List.take_of_length_le (Nat.le_refl _)
      have hRe : R t.length = S (a + 1) := by rw [hR, hte, hSs]
      rw [hRe]
      refine awp_exit ?_
      simp only [thenA, inBlockA, reduceIte, Nat.reduceEqDiff, eq_self]
      refine hK3 _ _ ?_
      refine awp_prune [1, 2, 4, 5, 6] ?_
      simp only [prune, List.map_cons, List.map_nil, Go.AM.look, Nat.reduceEqDiff, reduceIte]
      refine awp_r rfl fun K hK => ?_
      simp -dsimp [wa]
      refine hK _ _ ?_; clear hK K
      simp only [thenA, inBlockA, reduceIte, Nat.reduceEqDiff, eq_self]
      exact ⟨a + 1, by omega, by omega, sub_rb [some 0, some 1, some 2, some 3, some 4] rfl (by simp) (by simp)⟩
  · skip
    try simp at hc0
    have han : a = j.n := by omega
    subst han
    generalize hQ : S j.n = Q
    have tB : List.take Q.length ((mB j t Q).map nCell) = (mB j t Q).map nCell := List.take_of_length_le (by simp [mB_len])
    have tL : List.take Q.length ((mL j Q).map nCell) = (mL j Q).map nCell := List.take_of_length_le (by simp [mL_len])
    have nB := mB_len j t Q
    have nL := mL_len j Q
    refine awp_exit ?_
    simp only [thenA, inBlockA, reduceIte, Nat.reduceEqDiff, eq_self]
    refine hK1 _ _ ?_
    refine awp_prune [4, 5] ?_
    simp only [prune, List.map_cons, List.map_nil, Go.AM.look, Nat.reduceEqDiff, reduceIte]
    refine awp_sr rfl fun K hK => ?_
    simp -dsimp [tB, tL, nB, nL]
    refine hK _ _ ?_; clear hK K
    have q1 : Q.length ≤ (mB j t Q).length := by omega
    have q2 : Q.length ≤ (mL j Q).length := by omega
    exact awp_ret (by simp [tB, tL, q1, q2, hQ])
end Go.Street
