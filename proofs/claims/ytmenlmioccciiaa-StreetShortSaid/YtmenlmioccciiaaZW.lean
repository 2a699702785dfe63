/- Walks: what is known of the example of the street; a signal's numbers from second to second. -/
import Derived.Test.YtmenlmioccciiaaZV
namespace Go.Street
open Go.AM Go.Proofs
set_option maxRecDepth 100000
set_option maxHeartbeats 8000000
set_option linter.unusedVariables false
set_option linter.unusedSimpArgs false

/-- Of an argument less may be said: nil, or a literal, as a list. -/
def wkA1 (c c' : AV) : Prop := c = c' ∨ (∃ sz, c = .v (.slice none 0 0) ∧ c' = .lst sz []) ∨ (∃ sz e, c = .full sz e ∧ c' = .lst sz e)
def wkL : List AV → List AV → Prop
  | [], [] => True
  | c :: cs, c' :: cs' => wkA1 c c' ∧ wkL cs cs'
  | _, _ => False
theorem wkL_spec : ∀ {xs ys : List AV}, wkL xs ys → xs.length = ys.length ∧ ∀ (i : Nat) c c', xs[i]? = some c → ys[i]? = some c' → wkA1 c c'
  | [], [], _ => ⟨rfl, fun i c c' h => by simp at h⟩
  | x :: xs, y :: ys, h => by
    obtain ⟨h1, h2⟩ := wkL_spec h.2
    refine ⟨by simp [h1], fun i c c' g1 g2 => ?_⟩
    cases i with
    | zero => simp at g1 g2; subst g1 g2; exact h.1
    | succ i => exact h2 i c c' (by simpa using g1) (by simpa using g2)
  | [], _ :: _, h => h.elim
  | _ :: _, [], h => h.elim
theorem wkA1_rep {w : World} {S : Nat → Prop} {ρ : Nat → Option AM.Loc} {L : Nat → Prop} {c c' : AV} {y : Value} (h : wkA1 c c') (hr : RepV w S ρ L c y) : RepV w S ρ L c' y := by
  rcases h with rfl | ⟨sz, rfl, rfl⟩ | ⟨sz, e, rfl, rfl⟩
  · exact hr
  · cases hr with
    | pure _ _ h => exact .pure _ _ (nil_lst h)
  · cases hr with
    | pure _ _ h =>
      have := wk_rep 1 _ _ h
      have e1 : AM.wk 1 (.full sz e) = .lst sz e := by
        simp only [AM.wk]
        simp
      rw [e1] at this
      exact .pure _ _ this
theorem MutCall.wkA {P : Program} {f : FuncId} {args args' : List AV} {Hk Hd Hk' Hn : Hp} {res : AV} (h : MutCall P f args' Hk Hd res Hk' Hn) (hw : wkL args args') : MutCall P f args Hk Hd res Hk' Hn := by
  obtain ⟨h1, h2, h3⟩ := h
  obtain ⟨hl, hi⟩ := wkL_spec hw
  refine ⟨h1, h2, fun S0 w ρ vs hh hlen hrep => h3 S0 w ρ vs hh (by rw [← hl]; exact hlen) fun i c x hc hx => ?_⟩
  have hil : i < args.length := by rw [hl]; exact (List.getElem?_eq_some_iff.1 hc).1
  exact wkA1_rep (hi i _ c (List.getElem?_eq_getElem hil) hc) (hrep i _ x (List.getElem?_eq_getElem hil) hx)

/-! A second keeps the numbers within bounds. -/
theorem arrF_in {j : Jn} {se A B : Int} (hA : A ≤ se) (hB : se ≤ B) (l : List Int) {ls : List Lt} (h : ∀ y ∈ ls, A ≤ y.Since ∧ y.Since ≤ B) : ∀ y ∈ (arrF j se l ls).1, A ≤ y.Since ∧ y.Since ≤ B := by
  have gen : ∀ (l : List Int) (st : List Lt × Bool), (∀ y ∈ st.1, A ≤ y.Since ∧ y.Since ≤ B) → ∀ y ∈ (l.foldl (arrStep j se) st).1, A ≤ y.Since ∧ y.Since ≤ B := by
    intro l
    induction l with
    | nil => intro st h; exact h
    | cons x l ih =>
      intro st h
      rw [List.foldl_cons]
      refine ih _ fun y hy => ?_
      unfold arrStep at hy
      split at hy
      · exact h y hy
      · split at hy
        · rcases List.mem_or_eq_of_mem_set hy with h1 | rfl
          · exact h y h1
          · exact ⟨hA, hB⟩
        · exact h y hy
  exact gen l (ls, true) h
theorem redF_in {j : Jn} {se q A B : Int} (hA : A ≤ se) (hB : se ≤ B) : ∀ (l : List Int) {ls : List Lt}, (∀ y ∈ ls, A ≤ y.Since ∧ y.Since ≤ B) → ∀ y ∈ redF j se q l ls, A ≤ y.Since ∧ y.Since ≤ B
  | [], ls, h => h
  | x :: l, ls, h => redF_in (j := j) (q := q) hA hB l (ls := redStep j se q ls x) (fun y hy => by
    unfold redStep at hy
    split at hy
    · rcases List.mem_or_eq_of_mem_set hy with h1 | rfl
      · exact h y h1
      · exact ⟨hA, hB⟩
    · exact h y hy)
theorem nextK_in {j : Jn} {ph : Int} {d p sk : List Int} {B : Int} (hp : j.Phases.length ≤ 12) (hB : 0 ≤ B) (h : ∀ x ∈ sk, 0 ≤ x ∧ x ≤ B) : ∀ x ∈ nextK j ph d p sk, 0 ≤ x ∧ x ≤ B + 12 := by
  intro x hx
  unfold nextK at hx
  rcases List.mem_or_eq_of_mem_set hx with h1 | rfl
  · have := incrs_bd (B := B) _ sk B hB h x h1
    have h2 : ((candL j ph d).takeWhile fun q => !decide (q = nextB j ph d p sk)).length ≤ (candL j ph d).length := (List.takeWhile_prefix _).length_le
    have h3 := candTo_len j ph d (j.Phases.length - 1)
    unfold candL at h2 this
    omega
  · omega
theorem arrS_in {j : Jn} {N : Int} {s : Sg} (h0 : -1 ≤ N) (h : SgIn j N s) (hl : ∀ l ∈ s.ls, -1 ≤ l.Since ∧ l.Since ≤ N + 1) : SgIn j N (arrS j s) := by
  refine ⟨by show (arrF _ _ _ _).1.length = _; rw [arrF_len]; exact h.l, h.k, h.kb, h.se, ?_, ?_, h.p0, h.p1⟩
  · show -1 ≤ (if (arrF j s.se (rowAt j.Phases s.ph) s.ls).2 then s.se else s.si) ∧ (if (arrF j s.se (rowAt j.Phases s.ph) s.ls).2 then s.se else s.si) ≤ N + 1
    have := h.si; have := h.se
    split <;> omega
  · exact arrF_in (A := -1) (B := N + 1) (by rw [h.se]; omega) (by rw [h.se]; omega) _ hl
theorem tick_in {j : Jn} (ho : JOk j) {N : Int} {s : Sg} {d p : List Int} (h0 : -1 ≤ N) (h : SgIn j N s) : SgIn j (N + 1) (tickS j d p s) := by
  have hn : SgIn j (N + 1) (nextS s) := by
    refine ⟨h.l, h.k, fun x hx => ?_, by show s.se + 1 = _; rw [h.se], ?_, fun l hl => ?_, h.p0, h.p1⟩
    · have := h.kb x hx; omega
    · have := h.si; show -1 ≤ s.si ∧ s.si ≤ _; omega
    · have := h.lb l hl; omega
  unfold tickS
  split
  · split
    · rename_i he
      have hne : candL j s.ph d ≠ [] := ends_ne he
      have hq := candL_bd (j := j) (ph := s.ph) (d := d) (by have := ho.p1; omega) _ (nextB_mem (p := p) (sk := s.sk) hne)
      have hlb : ∀ l ∈ (turnS j d p (nextS s)).ls, -1 ≤ l.Since ∧ l.Since ≤ N + 1 + 1 := redF_in (A := -1) (B := N + 1 + 1) (by show -1 ≤ s.se + 1; rw [h.se]; omega) (by show s.se + 1 ≤ _; rw [h.se]; omega) _ (fun l hl => hn.lb l hl)
      refine arrS_in (by omega) ⟨by show (redF _ _ _ _ _).length = _; rw [redF_len]; exact h.l, by show (nextK _ _ _ _ _).length = _; rw [nextK_len]; exact h.k, fun x hx => ?_, hn.se, hn.si, hlb, hq.1, hq.2⟩ hlb
      have := nextK_in (j := j) (ph := s.ph) (d := d) (p := p) (sk := s.sk) (B := 20 * (N + 1)) ho.p2 (by omega) h.kb x hx
      omega
    · exact hn
  · exact arrS_in (by omega) hn hn.lb
theorem open_in {j : Jn} (ho : JOk j) : SgIn j (-1) (openS j) := by
  have h := openS_ok ho
  refine ⟨h.l, h.k, fun x hx => ?_, rfl, by simp [openS], fun l hl => ?_, h.p0, h.p1⟩
  · simp only [openS, List.mem_replicate] at hx; omega
  · have := grF_bd (rowAt j.Phases 0) (List.replicate j.n ⟨false, 0⟩) (by intro x hx; simp only [List.mem_replicate] at hx; rw [hx.2]) l hl
    omega

theorem m_Lights (j : Jn) (s : Sg) (hs : SgOk j s) (hn : j.n ≤ 1000) :
    MutCall Try.prog 32 [.ptr 0 0 0] [sgRow j s s.ls.length s.sk.length .any .any] [rRow s.ls, kRow s.sk] (.row 3 0 s.ls.length) [sgRow j s s.ls.length s.sk.length .any .any] [rRow s.ls, kRow s.sk, rRow s.ls] := by
  have hl := hs.l
  obtain ⟨se, ph, si, on, ls, sk⟩ := s
  simp only at hl ⊢
  have hr := fun (R Sk Dm Pr : AV) => c_ready j (I se) (I ph) (Bo on) (I si) R Sk Dm Pr true
  refine MutCall.of_bodyG [0] Try.func32 rfl (by decide) (by simp [Try.ntmps32]) rfl rfl ?_
  intro J hJ
  simp only [Try.ntmps32, Try.results32]
  refine gwp_sr rfl (by decide) rfl rfl fun K hK => ?_
  simp -dsimp
  refine hK _ _ ?_; clear hK K
  refine gwp_seq_k fun K1 hK1 => ?_
  refine gwp_sr rfl (by decide) rfl rfl fun K hK => ?_
  simp -dsimp
  refine callK_intro _ (hr _ _ _ _) (by simp) ?_
  simp -dsimp
  refine hK _ _ ?_; clear hK K
  refine gwp_cond rfl (fun hc0 => ?_) (fun hc0 => ?_)
  · skip
    skip
    simp at hc0
  · skip
    skip
    refine gwp_skip ?_
    simp only [thenA, inBlockA, reduceIte, Nat.reduceEqDiff, eq_self]
    refine hK1 _ _ ?_
    refine gwp_prune [0] (Or.inr (by simp)) ?_
    simp only [prune, List.map_cons, List.map_nil, Go.AM.look, Nat.reduceEqDiff, reduceIte]
    refine gwp_sr rfl (by decide) rfl rfl fun K hK => ?_
    simp -dsimp
    refine hK _ _ ?_; clear hK K
    refine gwp_seq_k fun K2 hK2 => ?_
    refine gwp_sr rfl (by decide) rfl rfl fun K hK => ?_
    simp -dsimp
    refine hK _ _ ?_; clear hK K
    refine gwp_block ?_
    refine gwp_prune [0, 3, 12, 13, 14] (Or.inr (by simp)) ?_
    simp only [prune, List.map_cons, List.map_nil, Go.AM.look, Nat.reduceEqDiff, reduceIte]
    refine gwp_loop_l [0, 12, 13] (α := Nat) (fun k => [(3, .row 3 0 k), (14, I k)]) (fun k => [some (.els 15 [sC j (Bo true) (I se) (I ph) (Bo on) (I si) (.row 1 0 ls.length) (.row 2 0 sk.length) .any .any]), rRow ls, kRow sk, some (.els 2 ((ls.take k).map Lt.cells))]) (fun k => k ≤ ls.length) (fun k => ls.length - k) 0 ?_ ?_ ?_
    · exact Nat.zero_le _
    · exact gsub ((sub_nil 3 2 (by simp)).trans (sub_rb [some 0, some 1, some 2, some 3] rfl (by simp) (by simp))) (by simp)
    rintro k k1
    simp only [List.cons_append, List.nil_append, prune, List.map_cons, List.map_nil, Go.AM.look, Nat.reduceEqDiff, reduceIte]
    refine gwp_sr rfl (by decide) rfl rfl fun K hK => ?_
    simp -dsimp
    refine hK _ _ ?_; clear hK K
    refine gwp_seq_k fun K3 hK3 => ?_
    refine gwp_cond rfl (fun hc1 => ?_) (fun hc1 => ?_)
    · skip
      skip
      have hkl : k < ls.length := by simpa using hc1
      obtain ⟨r, hk⟩ : ∃ r, ls[k]? = some r := ⟨_, List.getElem?_eq_getElem hkl⟩
      have wk : IntKind.i64.wrap ((k : Int) + 1) = (k : Int) + 1 := wrap_in (by omega) (by omega)
      have f1 : Fits (k + 1) 17 := fits_of (by omega) (by omega)
      have hm : min k ls.length = k := Nat.min_eq_left (by omega)
      refine gwp_skip ?_
      simp only [thenA, inBlockA, reduceIte, Nat.reduceEqDiff, eq_self]
      refine hK3 _ _ ?_
      refine gwp_prune [0, 3, 12, 13, 14] (Or.inr (by simp)) ?_
      simp only [prune, List.map_cons, List.map_nil, Go.AM.look, Nat.reduceEqDiff, reduceIte]
      refine gwp_seq_k fun K4 hK4 => ?_
      refine gwp_block ?_
      refine gwp_sr rfl (by decide) rfl rfl fun K hK => ?_
      simp -dsimp [hk]
      refine ⟨hkl, ?_⟩
      refine hK _ _ ?_; clear hK K
      refine gwp_r rfl (by decide) rfl rfl fun K hK => ?_
      simp -dsimp [hm, f1]
      refine hK _ _ ?_; clear hK K
      simp only [thenA, inBlockA, reduceIte, Nat.reduceEqDiff, eq_self]
      refine hK4 _ _ ?_
      refine gwp_prune [0, 3, 12, 13, 14] (Or.inr (by simp)) ?_
      simp only [prune, List.map_cons, List.map_nil, Go.AM.look, Nat.reduceEqDiff, reduceIte]
      refine gwp_r rfl (by decide) rfl rfl fun K hK => ?_
      simp -dsimp [wk]
      refine hK _ _ ?_; clear hK K
      simp only [thenA, inBlockA, reduceIte, Nat.reduceEqDiff, eq_self]
      exact ⟨k + 1, by omega, by omega, gsub (sub_rb [some 0, some 1, some 2, some 5] rfl (by simp) (by simp [List.take_add_one, hk, hm])) (by simp)⟩
    · skip
      skip
      have hkl : ¬ k < ls.length := by simpa using hc1
      have hkk : k = ls.length := by omega
      subst hkk
      refine gwp_exit ?_
      simp only [thenA, inBlockA, reduceIte, Nat.reduceEqDiff, eq_self]
      refine hK2 _ _ ?_
      refine gwp_prune [0, 3] (Or.inr (by simp)) ?_
      simp only [prune, List.map_cons, List.map_nil, Go.AM.look, Nat.reduceEqDiff, reduceIte]
      refine gwp_sr rfl (by decide) rfl rfl fun K hK => ?_
      simp -dsimp
      refine hK _ _ ?_; clear hK K
      exact gwp_ret ⟨[some 0, some 1, some 2, some 3], rfl, by simp, by simp, by simp, by simp [resP, tupOf]⟩

/-! The example. -/
def exJ : Jn := ⟨[⟨1, 5⟩, ⟨2, 8⟩, ⟨3, 6⟩], [[-1, 3, -1], [4, -1, 2], [-1, 7, -1]], [[0, 2], [1]], [20, 30], 1, []⟩
def exLit : AV := .agg [.full 2 [[I 1, I 5], [I 2, I 8], [I 3, I 6]], .full 1 [[.full 1 [[I (-1)], [I 3], [I (-1)]]], [.full 1 [[I 4], [I (-1)], [I 2]]], [.full 1 [[I (-1)], [I 7], [I (-1)]]]], .full 1 [[.full 1 [[I 0], [I 2]]], [.full 1 [[I 1]]]], .full 1 [[I 20], [I 30]], I 1, .v (.slice none 0 0)]
theorem c_ExLit : PureCall Try.prog 44 [] exLit := by
  have wm1 : IntKind.i64.wrap (-1) = -1 := wrap_in (by omega) (by omega)
  refine PureCall.of_body Try.func44 rfl (by decide) (by simp [Try.ntmps44]) ?_
  simp only [Try.ntmps44, Try.results44]
  refine awp_sr rfl fun K hK => ?_
  simp -dsimp [wm1]
  refine hK _ _ ?_; clear hK K
  refine awp_sr rfl fun K hK => ?_
  simp -dsimp [wm1]
  refine hK _ _ ?_; clear hK K
  exact awp_ret (by simp [exLit])
theorem c_Example : PureCall Try.prog 44 [] exJ.av := by
  have e : wkN 3 6 exLit = exJ.av := by rfl
  refine c_ExLit.res fun w S y h => ?_
  rw [← e]
  exact wkN_rep 3 6 _ _ h
theorem ex_fit : Fit exJ := ⟨by decide, by decide, by decide, by decide, by decide, by decide, by decide⟩
theorem ex_jn : jnB exJ = true := by decide +kernel
def exS : Nat → Sg
  | 0 => openS exJ
  | k + 1 => tickS exJ [1] [] (exS k)
theorem exS_in : ∀ k : Nat, SgIn exJ ((k : Int) - 1) (exS k)
  | 0 => open_in (jnB_ok ex_jn)
  | k + 1 => by
    have := tick_in (jnB_ok ex_jn) (d := [1]) (p := []) (by omega) (exS_in k)
    rw [show ((k : Int) - 1 + 1) = ((k + 1 : Nat) : Int) - 1 by omega] at this
    exact this

theorem c_known : PureCall Try.prog 13 [] (Bo true) := by
  have h0 := c_Example
  have hj := ex_jn
  have hf := ex_fit
  have h1 := c_Bound_t exJ hf hj
  rw [show boundJ exJ = 185 by decide +kernel] at h1
  have h2 := c_Tour_t exJ [1, 2] hf hj (by decide +kernel) (by decide +kernel) ⟨some [1, 2], 23⟩ [1, 2] (by kernel_rfl) rfl
  have h2' := h2.wk (args := [exJ.av, .full 1 [[I 1], [I 2]]]) (by rfl)
  have h3 := c_Spread_t exJ [1, 2] hf hj (by decide +kernel) (by decide +kernel)
  rw [show spreadP exJ [1, 2] = ⟨23, [0, 10], [8, 6]⟩ by kernel_rfl] at h3
  have h3' := h3.wk (args := [exJ.av, .full 1 [[I 1], [I 2]]]) (by rfl)
  have h4 := m_Open exJ hf hj
  have e0 : openS exJ = exS 0 := rfl
  rw [e0] at h4
  have ho := jnB_ok hj
  have hti : ∀ k : Nat, k ≤ 20 → MutCall Try.prog 28 [.ptr 0 0 0, .full 1 [[I 1]], .v (.slice none 0 0)] [sgRow exJ (exS k) exJ.n exJ.Phases.length .any .any] [rRow (exS k).ls, kRow (exS k).sk] (I 0) [sgRow exJ (exS (k + 1)) exJ.n exJ.Phases.length .any .any] [rRow (exS (k + 1)).ls, kRow (exS (k + 1)).sk] := by
    intro k hk
    have hin := exS_in k
    have := m_Tick exJ [1] [] (exS k) hf ho (hin.ok (by omega) (by omega)) (by simp) (by simp) (by decide +kernel)
    rw [hin.l, hin.k] at this
    exact MutCall.wkA this ⟨Or.inl rfl, Or.inr (Or.inr ⟨1, _, rfl, rfl⟩), Or.inr (Or.inl ⟨1, rfl, rfl⟩), trivial⟩
  have hp := fun (R Sk Dm Pr : AV) => c_Phase exJ (I (exS 14).se) (I (exS 14).si) R Sk Dm Pr (exS 14).ph (exS 14).on
  have hl := m_Lights exJ (exS 14) ((exS_in 14).ok (by omega) (by omega)) (by decide)
  rw [(exS_in 14).l, (exS_in 14).k] at hl
  have e1 : (exS 14).ph = 1 := by decide +kernel
  have e2 : (exS 14).on = true := by decide +kernel
  have e3 : (exS 14).ls = [⟨false, 6⟩, ⟨true, 13⟩, ⟨false, 6⟩] := by decide +kernel
  have en : exJ.n = 3 := rfl
  have ep : exJ.Phases.length = 2 := rfl
  rw [en, ep] at h4 hti hl
  have s1 := (c_rSame [1, 2] [1, 2] (by simp)).wk (args := [iL [1, 2], .full 1 [[I 1], [I 2]]]) (by rfl)
  have s2 := (c_rSame [0, 10] [0, 10] (by simp)).wk (args := [iL [0, 10], .full 1 [[I 0], [I 10]]]) (by rfl)
  have s3 := (c_rSame [8, 6] [8, 6] (by simp)).wk (args := [iL [8, 6], .full 1 [[I 8], [I 6]]]) (by rfl)
  generalize exJ = j at *
  simp only [List.map_cons, List.map_nil] at h2' h3' s1 s2 s3
  refine PureCall.of_bodyG Try.func13 rfl (by decide) (by simp [Try.ntmps13]) ?_
  intro J hJ
  simp only [Try.ntmps13, Try.results13]
  refine gwp_sr rfl (by decide) rfl rfl fun K hK => ?_
  simp -dsimp
  refine hK _ _ ?_; clear hK K
  refine gwp_sr rfl (by decide) rfl rfl fun K hK => ?_
  simp -dsimp
  refine callK_intro _ (h0) (by simp) ?_
  simp -dsimp
  refine hK _ _ ?_; clear hK K
  refine gwp_sr rfl (by decide) rfl rfl fun K hK => ?_
  simp -dsimp
  refine callK_intro _ (h1) (by simp) ?_
  simp -dsimp
  refine hK _ _ ?_; clear hK K
  refine gwp_sr rfl (by decide) rfl rfl fun K hK => ?_
  simp -dsimp
  refine callK_intro _ (h2') (by simp) ?_
  simp -dsimp
  refine hK _ _ ?_; clear hK K
  refine gwp_sr rfl (by decide) rfl rfl fun K hK => ?_
  simp -dsimp
  refine callK_intro _ (h3') (by simp) ?_
  simp -dsimp
  refine hK _ _ ?_; clear hK K
  refine gwp_sr rfl (by decide) rfl rfl fun K hK => ?_
  simp -dsimp
  refine callK_mut [] [] [none, none, some 0, some 1, some 2] (h4) (by decide) rfl (by simp) (by simp) rfl (by simp) ?_
  simp -dsimp
  refine hK _ _ ?_; clear hK K
  refine gwp_seq_k fun K1 hK1 => ?_
  refine gwp_sr rfl (by decide) rfl rfl fun K hK => ?_
  simp -dsimp
  refine hK _ _ ?_; clear hK K
  refine gwp_cond rfl (fun hc0 => ?_) (fun hc0 => ?_)
  · skip
    skip
    simp at hc0
  · skip
    skip
    refine gwp_skip ?_
    simp only [thenA, inBlockA, reduceIte, Nat.reduceEqDiff, eq_self]
    refine hK1 _ _ ?_
    refine gwp_prune [2, 4, 5, 7, 9] (Or.inr (by simp)) ?_
    simp only [prune, List.map_cons, List.map_nil, Go.AM.look, Nat.reduceEqDiff, reduceIte]
    refine gwp_seq_k fun K2 hK2 => ?_
    refine gwp_sr rfl (by decide) rfl rfl fun K hK => ?_
    simp -dsimp
    refine hK _ _ ?_; clear hK K
    refine gwp_block ?_
    refine gwp_prune [2, 4, 5, 7, 9, 11] (Or.inr (by simp)) ?_
    simp only [prune, List.map_cons, List.map_nil, Go.AM.look, Nat.reduceEqDiff, reduceIte]
    refine gwp_loop_l [2, 4, 5, 7, 9] (α := Nat) (fun k => [(11, I k)]) (fun k => [some (.els 6 [j.cells]), some (.els 3 [[I 23, iL [0, 10], iL [8, 6]]]), some (.els 15 [sC j (Bo true) (I (exS k).se) (I (exS k).ph) (Bo (exS k).on) (I (exS k).si) (.row 3 0 3) (.row 4 0 2) .any .any]), rRow (exS k).ls, kRow (exS k).sk]) (fun k => k ≤ 14) (fun k => 14 - k) 0 ?_ ?_ ?_
    · exact Nat.zero_le _
    · exact gsub (sub_rb [some 0, some 1, some 2, some 3, some 4] rfl (by simp) (by simp)) (by simp)
    rintro k k1
    simp only [List.cons_append, List.nil_append, prune, List.map_cons, List.map_nil, Go.AM.look, Nat.reduceEqDiff, reduceIte]
    refine gwp_seq_k fun K3 hK3 => ?_
    refine gwp_sr rfl (by decide) rfl rfl fun K hK => ?_
    simp -dsimp
    refine hK _ _ ?_; clear hK K
    refine gwp_cond rfl (fun hc1 => ?_) (fun hc1 => ?_)
    · skip
      try simp at hc1
      have wk : IntKind.i64.wrap ((k : Int) + 1) = (k : Int) + 1 := wrap_in (by omega) (by omega)
      refine gwp_skip ?_
      simp only [thenA, inBlockA, reduceIte, Nat.reduceEqDiff, eq_self]
      refine hK3 _ _ ?_
      refine gwp_prune [2, 4, 5, 7, 9, 11] (Or.inr (by simp)) ?_
      simp only [prune, List.map_cons, List.map_nil, Go.AM.look, Nat.reduceEqDiff, reduceIte]
      refine gwp_seq_k fun K4 hK4 => ?_
      refine gwp_block ?_
      refine gwp_sr rfl (by decide) rfl rfl fun K hK => ?_
      simp -dsimp
      refine callK_mut [2] [3, 4] [none, none, some 0, none, none, some 1, some 2] (hti k (by omega)) (by decide) rfl (by simp) (by simp) rfl (by simp) ?_
      simp -dsimp
      refine hK _ _ ?_; clear hK K
      refine gwp_cond rfl (fun hc2 => ?_) (fun hc2 => ?_)
      · skip
        skip
        simp at hc2
      · skip
        skip
        refine gwp_skip ?_
        simp only [thenA, inBlockA, reduceIte, Nat.reduceEqDiff, eq_self]
        refine hK4 _ _ ?_
        refine gwp_prune [2, 4, 5, 7, 9, 11] (Or.inr (by simp)) ?_
        simp only [prune, List.map_cons, List.map_nil, Go.AM.look, Nat.reduceEqDiff, reduceIte]
        refine gwp_r rfl (by decide) rfl rfl fun K hK => ?_
        simp -dsimp [wk]
        refine hK _ _ ?_; clear hK K
        simp only [thenA, inBlockA, reduceIte, Nat.reduceEqDiff, eq_self]
        exact ⟨k + 1, by omega, by omega, gsub (sub_rb [some 0, some 1, some 2, some 5, some 6] rfl (by simp) (by simp)) (by simp)⟩
    · skip
      try simp at hc1
      have hk14 : k = 14 := by omega
      subst hk14
      have wx : IntKind.i64.wrap 3 = 3 := wrap_in (by omega) (by omega)
      refine gwp_exit ?_
      simp only [thenA, inBlockA, reduceIte, Nat.reduceEqDiff, eq_self]
      refine hK2 _ _ ?_
      refine gwp_prune [2, 4, 5, 7, 9] (Or.inr (by simp)) ?_
      simp only [prune, List.map_cons, List.map_nil, Go.AM.look, Nat.reduceEqDiff, reduceIte]
      refine gwp_sr rfl (by decide) rfl rfl fun K hK => ?_
      simp -dsimp
      refine callK_intro _ (hp _ _ _ _) (by simp) ?_
      simp -dsimp
      refine hK _ _ ?_; clear hK K
      refine gwp_sr rfl (by decide) rfl rfl fun K hK => ?_
      simp -dsimp
      refine callK_mut [2] [3, 4] [none, none, some 0, none, none, some 1, some 2, some 3] (hl) (by decide) rfl (by simp) (by simp) rfl (by simp) ?_
      simp -dsimp
      refine hK _ _ ?_; clear hK K
      refine gwp_seq_k fun K5 hK5 => ?_
      refine gwp_sr rfl (by decide) rfl rfl fun K hK => ?_
      simp -dsimp
      refine callK_may _ (fun hm => s1) (by simp) ?_
      simp -dsimp
      refine callK_may _ (fun hm => s2) (by simp) ?_
      simp -dsimp
      refine callK_may _ (fun hm => s3) (by simp) ?_
      simp -dsimp
      refine hK _ _ ?_; clear hK K
      refine gwp_cond rfl (fun hc3 => ?_) (fun hc3 => ?_)
      · skip
        skip
        simp at hc3
      · skip
        skip
        refine gwp_skip ?_
        simp only [thenA, inBlockA, reduceIte, Nat.reduceEqDiff, eq_self]
        refine hK5 _ _ ?_
        refine gwp_prune [2, 12, 13, 14] (Or.inr (by simp)) ?_
        simp only [prune, List.map_cons, List.map_nil, Go.AM.look, Nat.reduceEqDiff, reduceIte]
        refine gwp_sr rfl (by decide) rfl rfl fun K hK => ?_
        simp -dsimp [e1, e2, e3]
        refine hK _ _ ?_; clear hK K
        exact gwp_ret (by simp [e1, e2, e3, resP, tupOf])
end Go.Street
