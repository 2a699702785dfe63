/- Walks: the law StreetShort. -/
import Derived.Test.YtmenlmioccciiaaZW
import Derived.Test.YtmenlmioccciiaaZT
import Derived.Test.YtmenlmioccciiaaKB
namespace Go.Street
open Go.AM Go.Proofs
set_option maxRecDepth 100000
set_option maxHeartbeats 8000000
set_option linter.unusedVariables false
set_option linter.unusedSimpArgs false

theorem PureCall.argR2 {P : Program} {f : FuncId} {args args' : List AV} {res : AV} (h : PureCall P f args' res) (hl : args.length = args'.length)
    (hr : ∀ (i : Nat) c c', args[i]? = some c → args'[i]? = some c' → ∀ (w : World) (S : Nat → Prop) (y : Value), RepP w S c y → RepP w S c' y) : PureCall P f args res := by
  have key : ∀ {w : World} {S : Nat → Prop} {vs : List Value}, (∀ (i : Nat) c x, args[i]? = some c → vs[i]? = some x → RepP w S c x) → ∀ (i : Nat) c x, args'[i]? = some c → vs[i]? = some x → RepP w S c x := by
    intro w S vs h i c x h1 h2
    have hil : i < args.length := by rw [hl]; exact (List.getElem?_eq_some_iff.1 h1).1
    exact hr i _ c (List.getElem?_eq_getElem hil) h1 w S x (h i _ x (List.getElem?_eq_getElem hil) h2)
  rcases h with ⟨h1, h2⟩ | h2
  · exact Or.inl ⟨h1, fun S0 w vs a b c => h2 S0 w vs a (by rw [← hl]; exact b) (key c)⟩
  · exact Or.inr fun S0 w vs a b => h2 S0 w vs (by rw [← hl]; exact a) (key b)
theorem alone_arg {j : Jn} (hg : j.Gates = []) {p res : AV} {f : FuncId} (h : PureCall Try.prog f [j.av, p] res) : PureCall Try.prog f [.agg [.lst 2 (j.Streams.map Strm.cells), .lst 1 (j.Clears.map rCell), .lst 1 (j.Phases.map rCell), iL j.Longest, I j.Skips, .v (.slice none 0 0)], p] res := by
  refine PureCall.argR2 h rfl fun i c c' h1 h2 w S y hy => ?_
  match i, h1, h2 with
  | 0, h1, h2 =>
    simp only [List.getElem?_cons_zero, Option.some.injEq] at h1 h2
    subst h1 h2
    have := wkN_rep 3 1 _ _ hy
    simp only [wkN, List.map_cons, List.map_nil] at this
    rw [show j.av = .agg [.lst 2 (j.Streams.map Strm.cells), .lst 1 (j.Clears.map rCell), .lst 1 (j.Phases.map rCell), iL j.Longest, I j.Skips, .lst 3 []] by simp [hg]]
    exact this
  | 1, h1, h2 =>
    simp only [List.getElem?_cons_succ, List.getElem?_cons_zero, Option.some.injEq] at h1 h2
    subst h1 h2
    exact hy

theorem toured_of {j : Jn} {l : List Int} (h2 : 2 ≤ l.length) (h9 : l.length ≤ 9) (hn : l.Nodup) (hb : ∀ x ∈ l, 0 ≤ x ∧ x < j.n) (hc : ∀ a ∈ l, ∀ b ∈ l, a ≠ b → conf j a b = true) : touredB j l = true := by
  simp only [touredB, Bool.and_eq_true, List.all_eq_true, List.mem_range]
  refine ⟨fun i hi => ?_, by rw [inr_iff]; omega⟩
  have ga := at0_nat hi
  have ha := hb _ (List.mem_of_getElem? ga)
  simp only [tourEl, Bool.and_eq_true, inr_iff, Bool.not_eq_true', List.any_eq_false]
  refine ⟨by omega, fun x hx => ?_⟩
  obtain ⟨k, hk⟩ := List.getElem?_of_mem hx
  have hkl := (List.getElem?_eq_some_iff.1 hk).1
  rw [List.length_take] at hkl
  rw [List.getElem?_take, if_pos (by omega)] at hk
  have hne : at0 l i ≠ x := by
    intro e
    have := (List.getElem?_inj (l := l) (i := i) (j := k) hi hn).1 (by rw [ga, hk, e])
    omega
  have hcf := hc _ (List.mem_of_getElem? ga) x (List.mem_of_getElem? hk) hne
  simp [badP, hne, hcf]
theorem ris_least {l : List Int} {n : Int} (h : risB l n = true) : ∀ x ∈ l, at0 l 0 ≤ x := by
  intro x hx
  obtain ⟨i, hi⟩ := List.getElem?_of_mem hx
  have hil := (List.getElem?_eq_some_iff.1 hi).1
  simp only [risB, List.all_eq_true, List.mem_range, riseEl, Bool.and_eq_true, Bool.not_eq_true', Bool.and_eq_false_iff, decide_eq_false_iff_not] at h
  have mono : ∀ d : Nat, d < l.length → at0 l ((0 : Nat) : Int) ≤ at0 l d := by
    intro d
    induction d with
    | zero => intro _; exact Int.le_refl _
    | succ d ih =>
      intro hd
      have h1 := ih (by omega)
      have h2 := (h (d + 1) hd).2
      simp only [Nat.add_sub_cancel] at h2
      omega
  have := mono i hil
  rw [at0_of hi] at this
  exact this

theorem c_StreetShort (j : Jn) (p : Pg) (l : List Int) (hi : JnIn j) (hp : PgIn p) (hl : l.length ≤ maxLen) : PureCall Try.prog 10 [j.av, p.av, iL l] (Bo true) := by
  obtain ⟨b, hcf, hfit⟩ := c_fit j hi.s hi.c hi.p hi.l hi.g
  have hk := c_known
  cases b with
  | false =>
    refine PureCall.of_body Try.func10 rfl (by decide) (by simp [Try.ntmps10]) ?_
    simp only [Try.ntmps10, Try.results10]
    refine awp_sr rfl fun K hK => ?_
    simp -dsimp
    refine hK _ _ ?_; clear hK K
    refine awp_seq_k fun K1 hK1 => ?_
    refine awp_sr rfl fun K hK => ?_
    simp -dsimp
    refine callK_intro _ (hcf) (by simp) ?_
    simp -dsimp
    refine callK_may _ (fun hm => (absurd hm (by simp) : PureCall _ _ _ (Bo true))) (by simp) ?_
    simp -dsimp
    refine callK_may _ (fun hm => (absurd hm (by simp) : PureCall _ _ _ (Bo true))) (by simp) ?_
    simp -dsimp
    refine callK_may _ (fun hm => (absurd hm (by simp) : PureCall _ _ _ (Bo true))) (by simp) ?_
    simp -dsimp
    refine hK _ _ ?_; clear hK K
    refine awp_cond rfl (fun hc0 => ?_) (fun hc0 => ?_)
    · skip
      skip
      refine awp_sr rfl fun K hK => ?_
      simp -dsimp
      refine callK_intro _ (hk) (by simp) ?_
      simp -dsimp
      refine hK _ _ ?_; clear hK K
      exact awp_ret (by simp)
    · skip
      skip
      simp at hc0
  | true =>
    have hf := hfit rfl
    have hv := c_rValid j hf
    cases hj : jnB j with
    | false =>
      rw [hj] at hv
      refine PureCall.of_body Try.func10 rfl (by decide) (by simp [Try.ntmps10]) ?_
      simp only [Try.ntmps10, Try.results10]
      refine awp_sr rfl fun K hK => ?_
      simp -dsimp
      refine hK _ _ ?_; clear hK K
      refine awp_seq_k fun K1 hK1 => ?_
      refine awp_sr rfl fun K hK => ?_
      simp -dsimp
      refine callK_intro _ (hcf) (by simp) ?_
      simp -dsimp
      refine callK_may _ (fun hm => hv) (by simp) ?_
      simp -dsimp
      refine callK_may _ (fun hm => (absurd hm (by simp) : PureCall _ _ _ (Bo true))) (by simp) ?_
      simp -dsimp
      refine callK_may _ (fun hm => (absurd hm (by simp) : PureCall _ _ _ (Bo true))) (by simp) ?_
      simp -dsimp
      refine hK _ _ ?_; clear hK K
      refine awp_cond rfl (fun hc0 => ?_) (fun hc0 => ?_)
      · skip
        skip
        refine awp_sr rfl fun K hK => ?_
        simp -dsimp
        refine callK_intro _ (hk) (by simp) ?_
        simp -dsimp
        refine hK _ _ ?_; clear hK K
        exact awp_ret (by simp)
      · skip
        skip
        simp at hc0
    | true =>
      have ho := jnB_ok hj
      have hnl : j.n = j.Streams.length := rfl
      have hn1 := ho.n1; have hn2 := ho.n2
      rw [hj] at hv
      have hsl := fun h => c_rSet j l hf ho h
      have hrl := fun h => c_rRising l j.n h (by omega) (by omega)
      rw [hnl] at hrl
      have hrp := c_Right j p hf
      rw [hj] at hrp
      refine PureCall.of_body Try.func10 rfl (by decide) (by simp [Try.ntmps10]) ?_
      simp only [Try.ntmps10, Try.results10]
      refine awp_sr rfl fun K hK => ?_
      simp -dsimp
      refine hK _ _ ?_; clear hK K
      refine awp_seq_k fun K1 hK1 => ?_
      refine awp_sr rfl fun K hK => ?_
      simp -dsimp
      refine callK_intro _ (hcf) (by simp) ?_
      simp -dsimp
      refine callK_may _ (fun hm => hv) (by simp) ?_
      simp -dsimp
      refine callK_may _ (fun hm => hsl (by simp at hm; omega)) (by simp) ?_
      simp -dsimp
      refine callK_may _ (fun hm => hrl (by simp at hm; omega)) (by simp) ?_
      simp -dsimp
      refine hK _ _ ?_; clear hK K
      refine awp_cond rfl (fun hc0 => ?_) (fun hc0 => ?_)
      · skip
        skip
        refine awp_sr rfl fun K hK => ?_
        simp -dsimp
        refine callK_intro _ (hk) (by simp) ?_
        simp -dsimp
        refine hK _ _ ?_; clear hK K
        exact awp_ret (by simp)
      · skip
        skip
        simp at hc0
        obtain ⟨⟨⟨_, hl6'⟩, hto⟩, hris0⟩ := hc0
        have hl6 : l.length ≤ 6 := by omega
        have hris : risB l j.n = true := hris0
        have hso : sortedB l = true := by rw [sorted_ris hto]; exact hris
        have htb := toured_bd hto
        have hbest := (tour_best ho hto).resolve_right (by omega)
        have hct := c_Tour_t j l hf hj hto hso _ _ hbest rfl
        have g0l : l[0]? = some (at0 l 0) := at0_nat (l := l) (k := 0) (by omega)
        have et : l.take 1 = [at0 l 0] := by cases l with | nil => simp at g0l | cons x l => rfl
        have htne := toursF_ne (toured_nodup hto) 6 (l.take 1) (by rw [et]; simp) (fun x hx => List.mem_of_mem_take hx) (by rw [et]; simp; omega)
        have hbm := bestL_mem (j := j) htne
        have hbi := toursF_in (l := l) 6 (l.take 1) (fun x hx => List.mem_of_mem_take hx) _ hbm
        have hpre := toursF_pre 6 (l.take 1) (by rw [et]; simp) _ hbm
        have hge : RightP j p → lenF j (bestL j (toursF l 6 (l.take 1))) ≤ p.Cycle := fun h => right_ge ho h hto hl6
        simp only at hct
        generalize bestL j (toursF l 6 (l.take 1)) = B at hbi hpre hge hct
        obtain ⟨hBn, r, hBr⟩ := hpre
        have hB0 : at0 B 0 = at0 l 0 := by rw [hBr, et]; rfl
        have htB : touredB j B = true := toured_of (by omega) (by omega) hBn (fun x hx => htb.2.2 x (hbi.2 x hx)) (fun a ha b hb hab => toured_conf ho hto (hbi.2 a ha) (hbi.2 b hb) hab)
        have hmB : at0 B 0 = minOf B := by
          obtain ⟨m1, m2⟩ := minOf_spec (l := B) (by omega)
          have h1 := ris_least hris _ (hbi.2 _ m1)
          have h2 := m2 (at0 B 0) (List.mem_of_getElem? (at0_nat (l := B) (k := 0) (by omega)))
          omega
        have hcs := c_Spread_t j B hf hj htB hmB
        have hnr := c_near j l ho htb.2.2 (by omega)
        have hal := c_rAlone j l ho htb.2.2 (by omega)
        have hja := alone_ok ho hto
        have hfA : Fit (aloneJ j l) := ⟨by simp [aloneJ]; omega, by simp [aloneJ]; omega, by simp [aloneJ]; omega, by simp [aloneJ]; omega, by simp [aloneJ], by intro r hr; obtain ⟨a, _, rfl⟩ := List.mem_map.1 hr; simp; omega, by intro r hr; obtain ⟨a, _, rfl⟩ := List.mem_map.1 hr; simp⟩
        have hrA := c_Right (aloneJ j l) (spreadP j B) hfA
        rw [hja] at hrA
        have hrA2 : PureCall Try.prog 36 [.agg [.lst 2 ((aloneJ j l).Streams.map Strm.cells), .lst 1 ((aloneJ j l).Clears.map rCell), .lst 1 ((aloneJ j l).Phases.map rCell), iL (aloneJ j l).Longest, I 0, .v (.slice none 0 0)], (spreadP j B).av] _ := alone_arg (j := aloneJ j l) rfl hrA
        have har : NearP j l → RightP (aloneJ j l) (spreadP j B) := fun h => alone_right ho hto h hBn hbi.1 hbi.2 hris
        have hcy : (spreadP j B).Cycle = lenF j B := rfl
        rw [← hcy] at hct hge
        clear hcy
        generalize aloneJ j l = A at hal hrA2 har
        generalize spreadP j B = P at hcs hrA2 har hct hge
        refine awp_skip ?_
        simp only [thenA, inBlockA, reduceIte, Nat.reduceEqDiff, eq_self]
        refine hK1 _ _ ?_
        refine awp_prune [2, 3, 4] ?_
        simp only [prune, List.map_cons, List.map_nil, Go.AM.look, Nat.reduceEqDiff, reduceIte]
        refine awp_sr rfl fun K hK => ?_
        simp -dsimp
        refine callK_intro _ (hct) (by simp) ?_
        simp -dsimp
        refine hK _ _ ?_; clear hK K
        refine awp_seq_k fun K2 hK2 => ?_
        refine awp_sr rfl fun K hK => ?_
        simp -dsimp
        refine callK_may _ (fun hm => hrp) (by simp) ?_
        simp -dsimp
        refine hK _ _ ?_; clear hK K
        refine awp_cond rfl (fun hc1 => ?_) (fun hc1 => ?_)
        · skip
          skip
          exfalso
          simp at hc1
          have := hge hc1.1
          omega
        · skip
          skip
          refine awp_skip ?_
          simp only [thenA, inBlockA, reduceIte, Nat.reduceEqDiff, eq_self]
          refine hK2 _ _ ?_
          refine awp_prune [2, 3, 7, 8] ?_
          simp only [prune, List.map_cons, List.map_nil, Go.AM.look, Nat.reduceEqDiff, reduceIte]
          refine awp_sr rfl fun K hK => ?_
          simp -dsimp
          refine callK_intro _ (hcs) (by simp) ?_
          simp -dsimp
          refine hK _ _ ?_; clear hK K
          refine awp_sd mixed rfl fun K hK => ?_
          simp -dsimp
          refine callK_may _ (fun hm => hnr) (by simp) ?_
          simp -dsimp
          refine callK_may _ (fun hm => hal) (by simp) ?_
          simp -dsimp
          refine callK_may _ (fun hm => hrA2) (by simp) ?_
          simp -dsimp
          refine callK_may _ (fun hm => hk) (by simp) ?_
          simp -dsimp
          refine hK _ _ _ (by decide +kernel) ?_; clear hK K
          exact awp_ret (by by_cases h : NearP j l <;> simp [h, har])
end Go.Street
