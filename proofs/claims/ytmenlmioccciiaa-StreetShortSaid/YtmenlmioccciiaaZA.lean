/- Walks: a second of a signal. -/
import Derived.Test.YtmenlmioccciiaaZ9
namespace Go.Street
open Go.AM Go.Proofs
set_option maxRecDepth 10000
set_option maxHeartbeats 8000000
set_option linter.unusedVariables false
set_option linter.unusedSimpArgs false

def wkC : List AV → List AV → Prop
  | [], [] => True
  | x :: xs, y :: ys => (y = .any ∨ y = x) ∧ wkC xs ys
  | _, _ => False
def wkE : List (List AV) → List (List AV) → Prop
  | [], [] => True
  | x :: xs, y :: ys => wkC x y ∧ wkE xs ys
  | _, _ => False
attribute [simp] wkC wkE
theorem wkC_spec : ∀ {xs ys : List AV}, wkC xs ys → xs.length = ys.length ∧ ∀ (i : Nat) y, ys[i]? = some y → ∃ x, xs[i]? = some x ∧ (y = .any ∨ y = x)
  | [], [], _ => ⟨rfl, by simp⟩
  | x :: xs, y :: ys, h => by
    obtain ⟨h1, h2⟩ := wkC_spec h.2
    refine ⟨by simp [h1], fun i z hz => ?_⟩
    cases i with
    | zero => simp only [List.getElem?_cons_zero, Option.some.injEq] at hz; subst hz; exact ⟨x, rfl, h.1⟩
    | succ i => exact h2 i z (by simpa using hz)
  | [], _ :: _, h => h.elim
  | _ :: _, [], h => h.elim
theorem wkE_spec : ∀ {es fs : List (List AV)}, wkE es fs → es.length = fs.length ∧ (∀ sz, (∀ e ∈ es, e.length = sz) → ∀ e ∈ fs, e.length = sz) ∧ ∀ (i : Nat) y, fs.flatten[i]? = some y → ∃ x, es.flatten[i]? = some x ∧ (y = .any ∨ y = x)
  | [], [], _ => ⟨rfl, by simp, by simp⟩
  | e :: es, f :: fs, h => by
    obtain ⟨h1, h2, h3⟩ := wkE_spec h.2
    obtain ⟨g1, g2⟩ := wkC_spec h.1
    refine ⟨by simp [h1], fun sz he x hx => ?_, fun i y hy => ?_⟩
    · rcases List.mem_cons.1 hx with rfl | hx
      · rw [← g1]; exact he e (by simp)
      · exact h2 sz (fun z hz => he z (by simp [hz])) x hx
    · simp only [List.flatten_cons, List.getElem?_append] at hy ⊢
      rw [g1]
      split at hy
      · rename_i hi; rw [if_pos hi]; exact g2 i y hy
      · rename_i hi; rw [if_neg hi]; exact h3 _ y hy
  | [], _ :: _, h => h.elim
  | _ :: _, [], h => h.elim
/-- Of some cells of a row less is said. -/
theorem sub_anyR {nt : Nat} {T : Tm} {H : Hp} (r : Nat) {sz : Nat} {es : List (List AV)} (fs : List (List AV)) (hr : hget H r = some (.els sz es)) (h : wkE es fs) : Go.AM.Sub nt T H T (H.set r (some (.els sz fs))) := by
  rintro w0 B S0 a w ⟨⟨ρ, L, hc, hL⟩, hext⟩
  have hrl := hget_lt hr
  obtain ⟨h1, h2, h3⟩ := wkE_spec h
  refine ⟨⟨ρ, L, ⟨hc.wf, hc.size, hc.defers, hc.tmps, fun q row hq => ?_, fun q hq => ?_⟩, fun q hq => by rw [List.length_set]; exact hL q hq⟩, hext⟩
  · rw [hget_set H r _ q hrl] at hq
    split at hq
    · rename_i e
      subst e
      simp only [Option.some.injEq] at hq
      subst hq
      obtain ⟨l, hl, g1, g2, g3, g4⟩ := hc.rows q _ hr
      refine ⟨l, hl, g1, h2 _ g2, fun hb => ?_, fun b hb => ?_⟩
      · have := g3 hb
        subst this
        cases fs with
        | nil => rfl
        | cons => exact h.elim
      · obtain ⟨c, t, k1, k2, k3, k4⟩ := g4 b hb
        refine ⟨c, t, k1, k2, by rw [← h1]; exact k3, fun i y hy => ?_⟩
        obtain ⟨x, hx, hxy⟩ := h3 i y hy
        obtain ⟨u, p1, p2, p3⟩ := k4 i x hx
        refine ⟨u, p1, p2, ?_⟩
        rcases hxy with rfl | rfl
        · exact .pure _ _ (.any _)
        · exact p3
    · exact hc.rows q row hq
  · rw [hget_set H r _ q hrl] at hq
    split at hq
    · cases hq
    · exact hc.dead q hq

/-- A signal's state. -/
structure Sg where
  se : Int
  ph : Int
  si : Int
  on : Bool
  ls : List Lt
  sk : List Int
def arrS (j : Jn) (s : Sg) : Sg :=
  { s with si := if (arrF j s.se (rowAt j.Phases s.ph) s.ls).2 then s.se else s.si, on := (arrF j s.se (rowAt j.Phases s.ph) s.ls).2 || s.on, ls := (arrF j s.se (rowAt j.Phases s.ph) s.ls).1 }
def turnS (j : Jn) (d p : List Int) (s : Sg) : Sg :=
  { s with ph := nextB j s.ph d p s.sk, on := false, ls := redF j s.se (nextB j s.ph d p s.sk) (rowAt j.Phases s.ph) s.ls, sk := nextK j s.ph d p s.sk }
def endS (j : Jn) (d p : List Int) (s : Sg) : Bool := endsB j s.se s.ph s.si s.ls d p
def nextS (s : Sg) : Sg := { s with se := s.se + 1 }
def tickS (j : Jn) (d p : List Int) (s : Sg) : Sg :=
  if s.on then (if endS j d p (nextS s) then arrS j (turnS j d p (nextS s)) else nextS s) else arrS j (nextS s)
def okT (j : Jn) (d p : List Int) : Bool := toldB j.n d && toldB j.n p && !p.any (notPr j d)

/-- Its numbers. -/
structure SgOk (j : Jn) (s : Sg) : Prop where
  l : s.ls.length = j.n
  k : s.sk.length = j.Phases.length
  kb : ∀ x ∈ s.sk, 0 ≤ x ∧ x ≤ 1000000
  se0 : -1 ≤ s.se
  se1 : s.se ≤ 999999
  si : smallT s.si
  lb : ∀ l ∈ s.ls, smallT l.Since
  p0 : 0 ≤ s.ph
  p1 : s.ph < j.Phases.length

abbrev sgRow (j : Jn) (s : Sg) (nR nK : Nat) (Dm Pr : AV) : Option ARow := sRow j s.se s.ph s.si s.on nR nK Dm Pr

theorem m_Tick_f (j : Jn) (d p : List Int) (s : Sg) (hf : Fit j) (ho : JOk j) (hs : SgOk j s) (hd : d.length ≤ 1000) (hp : p.length ≤ 1000) (h : okT j d p = false) :
    MutCall Try.prog 28 [.ptr 0 0 0, iL d, iL p] [sgRow j s s.ls.length s.sk.length .any .any] [rRow s.ls, kRow s.sk] (I 2) [sgRow j s s.ls.length s.sk.length .any .any] [rRow s.ls, kRow s.sk] := by
  have hn1 := ho.n1; have hn2 := ho.n2
  have hsl := hs.l
  have hr := c_ready j (I s.se) (I s.ph) (Bo s.on) (I s.si) (lL s.ls) (iL s.sk) .any .any true
  have ht1 := c_told j (Bo true) (I s.se) (I s.ph) (Bo s.on) (I s.si) (iL s.sk) .any .any s.ls d (by omega) hd
  have ht2 := c_told j (Bo true) (I s.se) (I s.ph) (Bo s.on) (I s.si) (iL s.sk) .any .any s.ls p (by omega) hp
  have hc1 := fun x x0 x1 => c_Tick1 j (Bo true) (I s.se) (I s.ph) (Bo s.on) (I s.si) .any .any .any .any d x hd x0 x1
  rw [hsl] at ht1 ht2
  refine MutCall.of_bodyG [0] Try.func28 rfl (by decide) (by simp [Try.ntmps28]) rfl rfl ?_
  intro J hJ
  simp only [Try.ntmps28, Try.results28]
  refine gwp_sr rfl (by decide) rfl rfl fun K hK => ?_
  simp -dsimp
  refine hK _ _ ?_; clear hK K
  refine gwp_seq_k fun K1 hK1 => ?_
  refine gwp_sr rfl (by decide) rfl rfl fun K hK => ?_
  simp -dsimp
  refine callK_intro _ (hr) (by simp) ?_
  simp -dsimp
  refine hK _ _ ?_; clear hK K
  refine gwp_cond rfl (fun hc0 => ?_) (fun hc0 => ?_)
  · skip
    skip
    simp at hc0
  · skip
    skip
    refine gwp_skip ?_
    simp only [thenA, inBlockA, reduceIte, Nat.reduceEqDiff, eq_self]
    refine hK1 _ _ ?_
    refine gwp_prune [0, 2, 3, 4] (Or.inr (by simp)) ?_
    simp only [prune, List.map_cons, List.map_nil, Go.AM.look, Nat.reduceEqDiff, reduceIte]
    refine gwp_seq_k fun K2 hK2 => ?_
    refine gwp_sr rfl (by decide) rfl rfl fun K hK => ?_
    simp -dsimp
    refine callK_intro _ (ht1) (by simp) ?_
    simp -dsimp
    refine callK_may _ (fun hm => ht2) (by simp) ?_
    simp -dsimp
    refine callK_may _ (fun hm => c_Cont_i p 65 [[.iptr (sC j (Bo true) (I s.se) (I s.ph) (Bo s.on) (I s.si) .any .any .any .any)], [iL d]] (notPr j d) (fun x hx => by have hb := toldB_bd (n := j.n) (l := p) (by simp at hm; exact hm.2) x hx; exact hc1 x hb.1 hb.2) (by omega)) (by simp) ?_
    simp -dsimp
    refine hK _ _ ?_; clear hK K
    refine gwp_cond rfl (fun hc1 => ?_) (fun hc1 => ?_)
    · skip
      skip
      refine gwp_sr rfl (by decide) rfl rfl fun K hK => ?_
      simp -dsimp
      refine hK _ _ ?_; clear hK K
      exact gwp_ret ⟨[some 0, some 1, some 2], rfl, by simp, by simp, by simp, by simp [resP, tupOf]⟩
    · skip
      skip
      exfalso; simp only [okT] at h; cases h1 : toldB j.n d <;> cases h2 : toldB j.n p <;> cases h3 : p.any (notPr j d) <;> simp_all

theorem arrS_len {j : Jn} {s : Sg} : (arrS j s).ls.length = s.ls.length := arrF_len _ _ _ _
theorem turnS_len {j : Jn} {d p : List Int} {s : Sg} : (turnS j d p s).ls.length = s.ls.length := redF_len _ _ _ _ _

/-- The signal's states between its three points. -/
def stU (u v w : Sg) : Nat → Sg
  | 0 => u
  | 1 => u
  | 2 => v
  | _ => w
@[simp] theorem stU0 (u v w : Sg) : stU u v w 0 = u := rfl
@[simp] theorem stU1 (u v w : Sg) : stU u v w 1 = u := rfl
@[simp] theorem stU2 (u v w : Sg) : stU u v w 2 = v := rfl
@[simp] theorem stU3 (u v w : Sg) : stU u v w 3 = w := rfl

theorem m_Tick (j : Jn) (d p : List Int) (s : Sg) (hf : Fit j) (ho : JOk j) (hs : SgOk j s) (hd : d.length ≤ 1000) (hp : p.length ≤ 1000) (h : okT j d p = true) :
    MutCall Try.prog 28 [.ptr 0 0 0, iL d, iL p] [sgRow j s s.ls.length s.sk.length .any .any] [rRow s.ls, kRow s.sk] (I 0) [sgRow j (tickS j d p s) s.ls.length s.sk.length .any .any] [rRow (tickS j d p s).ls, kRow (tickS j d p s).sk] := by
  have hn1 := ho.n1; have hn2 := ho.n2
  have hsl := hs.l
  have hr := c_ready j (I s.se) (I s.ph) (Bo s.on) (I s.si) (lL s.ls) (iL s.sk) .any .any true
  have ht1 := c_told j (Bo true) (I s.se) (I s.ph) (Bo s.on) (I s.si) (iL s.sk) .any .any s.ls d (by omega) hd
  have ht2 := c_told j (Bo true) (I s.se) (I s.ph) (Bo s.on) (I s.si) (iL s.sk) .any .any s.ls p (by omega) hp
  have hc1 := fun x x0 x1 => c_Tick1 j (Bo true) (I s.se) (I s.ph) (Bo s.on) (I s.si) .any .any .any .any d x hd x0 x1
  rw [hsl] at ht1 ht2
  simp only [okT, Bool.and_eq_true, Bool.not_eq_true'] at h
  rw [h.1.1] at ht1
  rw [h.1.2] at ht2
  have hct := c_Cont_i p 65 [[.iptr (sC j (Bo true) (I s.se) (I s.ph) (Bo s.on) (I s.si) .any .any .any .any)], [iL d]] (notPr j d) (fun x hx => hc1 x (toldB_bd h.1.2 x hx).1 (toldB_bd h.1.2 x hx).2) (by omega)
  rw [h.2] at hct
  have h0 := hs.se0; have h1 := hs.se1
  have ws : IntKind.i64.wrap (s.se + 1) = s.se + 1 := wrap_in (by omega) (by omega)
  obtain ⟨u, hu⟩ : ∃ u, u = nextS s := ⟨_, rfl⟩
  have hse' : smallT u.se := by rw [hu]; unfold smallT nextS; simp only; omega
  have hul : u.ls.length = j.n := by rw [hu]; exact hs.l
  have huk : u.sk.length = j.Phases.length := by rw [hu]; exact hs.k
  have hukb : ∀ x ∈ u.sk, 0 ≤ x ∧ x ≤ 1000000 := by rw [hu]; exact hs.kb
  have husi : smallT u.si := by rw [hu]; exact hs.si
  have hulb : ∀ l ∈ u.ls, smallT l.Since := by rw [hu]; exact hs.lb
  have hup : 0 ≤ u.ph ∧ u.ph < j.Phases.length := by rw [hu]; exact ⟨hs.p0, hs.p1⟩
  have hlu : s.ls.length = u.ls.length := by rw [hu]; rfl
  have hku : s.sk.length = u.sk.length := by rw [hu]; rfl
  have hon : s.on = u.on := by rw [hu]; rfl
  have htick : tickS j d p s = if u.on then (if endS j d p u then arrS j (turnS j d p u) else u) else arrS j u := by rw [hu]; rfl
  have hen := c_ends j (Bo true) (Bo u.on) (iL u.sk) u.se u.ph u.si u.ls d p hf ho hul hse' husi hulb hup.1 hup.2
  have har := m_arrive j u.se u.ph u.si u.on u.ls d p u.sk hf ho hul huk hse' hulb hup.1 hup.2
  have w1 : IntKind.i64.wrap 1 = 1 := wrap_in (by omega) (by omega)
  have w2 : IntKind.i64.wrap 2 = 2 := wrap_in (by omega) (by omega)
  have w3 : IntKind.i64.wrap 3 = 3 := wrap_in (by omega) (by omega)
  have hene : endS j d p u = true → candL j u.ph d ≠ [] := by
    intro he hc
    simp [endS, endsB, hc] at he
  have hes : endS j d p u = endsB j u.se u.ph u.si u.ls d p := rfl
  rw [← hes] at hen
  have htu := fun hne => m_turn j u.se u.ph u.si u.on u.ls d p u.sk hf ho hul huk hukb hse' hup.1 hup.2 hne
  have hqb : endS j d p u = true → 0 ≤ nextB j u.ph d p u.sk ∧ nextB j u.ph d p u.sk < j.Phases.length := fun he => candL_bd (j := j) (ph := u.ph) (d := d) (by omega) _ (nextB_mem (p := p) (sk := u.sk) (hene he))
  obtain ⟨v, hv⟩ : ∃ v, v = turnS j d p u := ⟨_, rfl⟩
  obtain ⟨w, hw⟩ : ∃ w, w = arrS j v := ⟨_, rfl⟩
  have hvl : v.ls.length = u.ls.length := by rw [hv]; exact turnS_len
  have hvk : v.sk.length = u.sk.length := by rw [hv]; exact nextK_len _ _ _ _ _
  have hvse : v.se = u.se := by rw [hv]; rfl
  have hvb : ∀ l ∈ v.ls, smallT l.Since := by rw [hv]; exact redF_bd hse' _ hulb
  have har2 : endS j d p u = true → _ := fun he => m_arrive j v.se v.ph v.si v.on v.ls d p v.sk hf ho (by omega) (by omega) (by rw [hvse]; exact hse') hvb (by rw [hv]; exact (hqb he).1) (by rw [hv]; exact (hqb he).2)
  rw [hvl, hvk] at har2
  rw [htick, ← hv, ← hw]
  clear hs
  refine MutCall.of_bodyG [0] Try.func28 rfl (by decide) (by simp [Try.ntmps28]) rfl rfl ?_
  intro J hJ
  simp only [Try.ntmps28, Try.results28]
  refine gwp_sr rfl (by decide) rfl rfl fun K hK => ?_
  simp -dsimp
  refine hK _ _ ?_; clear hK K
  refine gwp_seq_k fun K1 hK1 => ?_
  refine gwp_sr rfl (by decide) rfl rfl fun K hK => ?_
  simp -dsimp
  refine callK_intro _ (hr) (by simp) ?_
  simp -dsimp
  refine hK _ _ ?_; clear hK K
  refine gwp_cond rfl (fun hc0 => ?_) (fun hc0 => ?_)
  · skip
    skip
    simp at hc0
  · skip
    skip
    refine gwp_skip ?_
    simp only [thenA, inBlockA, reduceIte, Nat.reduceEqDiff, eq_self]
    refine hK1 _ _ ?_
    refine gwp_prune [0, 2, 3, 4] (Or.inr (by simp)) ?_
    simp only [prune, List.map_cons, List.map_nil, Go.AM.look, Nat.reduceEqDiff, reduceIte]
    refine gwp_seq_k fun K2 hK2 => ?_
    refine gwp_sr rfl (by decide) rfl rfl fun K hK => ?_
    simp -dsimp
    refine callK_intro _ (ht1) (by simp) ?_
    simp -dsimp
    refine callK_may _ (fun hm => ht2) (by simp) ?_
    simp -dsimp
    refine callK_may _ (fun hm => hct) (by simp) ?_
    simp -dsimp
    refine hK _ _ ?_; clear hK K
    refine gwp_cond rfl (fun hc1 => ?_) (fun hc1 => ?_)
    · skip
      skip
      simp at hc1
    · skip
      skip
      refine gwp_skip ?_
      simp only [thenA, inBlockA, reduceIte, Nat.reduceEqDiff, eq_self]
      refine hK2 _ _ ?_
      refine gwp_prune [0, 2, 3, 4] (Or.inr (by simp)) ?_
      simp only [prune, List.map_cons, List.map_nil, Go.AM.look, Nat.reduceEqDiff, reduceIte]
      refine gwp_sr rfl (by decide) rfl rfl fun K hK => ?_
      simp -dsimp [ws]
      refine hK _ _ ?_; clear hK K
      refine gwp_sd mixed rfl (by decide) rfl rfl fun K hK => ?_
      simp -dsimp
      refine hK _ _ _ (by decide +kernel) ?_; clear hK K
      refine gwp_seq_k fun K3 hK3 => ?_
      refine gwp_sr rfl (by decide) rfl rfl fun K hK => ?_
      simp -dsimp
      refine hK _ _ ?_; clear hK K
      refine gwp_block ?_
      refine gwp_prune [0, 2, 3, 46, 47, 48] (Or.inr (by simp)) ?_
      simp only [prune, List.map_cons, List.map_nil, Go.AM.look, Nat.reduceEqDiff, reduceIte]
      refine gwp_loop_l [0, 2, 3, 46, 47] (α := Nat) (fun k => [(48, I k)]) (fun k => [sgRow j (nextS s) s.ls.length s.sk.length (.mp 5) (.mp 6), rRow s.ls, kRow s.sk, some (.els 1 [[.ptr 0 0 0]]), some (.els 1 [[iL d]]), some (.map false [.i .i64] (metK (d.take k))), some (.map false [.i .i64] [])]) (fun k => k ≤ d.length) (fun k => d.length - k) 0 ?_ ?_ ?_
      · exact Nat.zero_le _
      · exact gsub (sub_rb [some 0, some 1, some 2, some 3, some 4, some 5, some 6] rfl (by simp [nextS]) (by simp [nextS])) (by simp)
      rintro k k1
      simp only [List.cons_append, List.nil_append, prune, List.map_cons, List.map_nil, Go.AM.look, Nat.reduceEqDiff, reduceIte]
      refine gwp_sr rfl (by decide) rfl rfl fun K hK => ?_
      simp -dsimp
      refine hK _ _ ?_; clear hK K
      refine gwp_seq_k fun K4 hK4 => ?_
      refine gwp_cond rfl (fun hc2 => ?_) (fun hc2 => ?_)
      · skip
        skip
        have hkl : k < d.length := by simpa using hc2
        have gx := at0_nat hkl
        have wk : IntKind.i64.wrap ((k : Int) + 1) = (k : Int) + 1 := wrap_in (by omega) (by omega)
        refine gwp_skip ?_
        simp only [thenA, inBlockA, reduceIte, Nat.reduceEqDiff, eq_self]
        refine hK4 _ _ ?_
        refine gwp_prune [0, 2, 3, 46, 47, 48] (Or.inr (by simp)) ?_
        simp only [prune, List.map_cons, List.map_nil, Go.AM.look, Nat.reduceEqDiff, reduceIte]
        refine gwp_seq_k fun K5 hK5 => ?_
        refine gwp_block ?_
        refine gwp_sr rfl (by decide) rfl rfl fun K hK => ?_
        simp -dsimp [gx]
        refine hK _ _ ?_; clear hK K
        refine gwp_r rfl (by decide) rfl rfl fun K hK => ?_
        simp -dsimp [metK_snoc]
        refine hK _ _ ?_; clear hK K
        simp only [thenA, inBlockA, reduceIte, Nat.reduceEqDiff, eq_self]
        refine hK5 _ _ ?_
        refine gwp_prune [0, 2, 3, 46, 47, 48] (Or.inr (by simp)) ?_
        simp only [prune, List.map_cons, List.map_nil, Go.AM.look, Nat.reduceEqDiff, reduceIte]
        refine gwp_r rfl (by decide) rfl rfl fun K hK => ?_
        simp -dsimp [wk]
        refine hK _ _ ?_; clear hK K
        simp only [thenA, inBlockA, reduceIte, Nat.reduceEqDiff, eq_self]
        exact ⟨k + 1, by omega, by omega, gsub (sub_rb [some 0, some 1, some 2, some 3, some 4, some 5, some 6] rfl (by simp) (by simp [List.take_add_one, gx])) (by simp)⟩
      · skip
        skip
        have hkk : ¬ k < d.length := by simpa using hc2
        have htd : d.take k = d := List.take_of_length_le (by omega)
        rw [htd]
        refine gwp_exit ?_
        simp only [thenA, inBlockA, reduceIte, Nat.reduceEqDiff, eq_self]
        refine hK3 _ _ ?_
        refine gwp_prune [0, 2, 3] (Or.inr (by simp)) ?_
        simp only [prune, List.map_cons, List.map_nil, Go.AM.look, Nat.reduceEqDiff, reduceIte]
        refine gwp_seq_k fun K6 hK6 => ?_
        refine gwp_sr rfl (by decide) rfl rfl fun K hK => ?_
        simp -dsimp
        refine hK _ _ ?_; clear hK K
        refine gwp_block ?_
        refine gwp_prune [0, 3, 58, 59, 60] (Or.inr (by simp)) ?_
        simp only [prune, List.map_cons, List.map_nil, Go.AM.look, Nat.reduceEqDiff, reduceIte]
        refine gwp_loop_l [0, 3, 58, 59] (α := Nat) (fun k => [(60, I k)]) (fun k => [sgRow j (nextS s) s.ls.length s.sk.length (.mp 5) (.mp 6), rRow s.ls, kRow s.sk, some (.els 1 [[.ptr 0 0 0]]), some (.els 1 [[iL d]]), some (.map false [.i .i64] (metK d)), some (.map false [.i .i64] (metK (p.take k)))]) (fun k => k ≤ p.length) (fun k => p.length - k) 0 ?_ ?_ ?_
        · exact Nat.zero_le _
        · exact gsub (sub_rb [some 0, some 1, some 2, some 3, some 4, some 5, some 6] rfl (by simp) (by simp)) (by simp)
        rintro k' k1'
        simp only [List.cons_append, List.nil_append, prune, List.map_cons, List.map_nil, Go.AM.look, Nat.reduceEqDiff, reduceIte]
        refine gwp_sr rfl (by decide) rfl rfl fun K hK => ?_
        simp -dsimp
        refine hK _ _ ?_; clear hK K
        refine gwp_seq_k fun K7 hK7 => ?_
        refine gwp_cond rfl (fun hc3 => ?_) (fun hc3 => ?_)
        · skip
          skip
          have hkl' : k' < p.length := by simpa using hc3
          have gx' := at0_nat hkl'
          have wk' : IntKind.i64.wrap ((k' : Int) + 1) = (k' : Int) + 1 := wrap_in (by omega) (by omega)
          refine gwp_skip ?_
          simp only [thenA, inBlockA, reduceIte, Nat.reduceEqDiff, eq_self]
          refine hK7 _ _ ?_
          refine gwp_prune [0, 3, 58, 59, 60] (Or.inr (by simp)) ?_
          simp only [prune, List.map_cons, List.map_nil, Go.AM.look, Nat.reduceEqDiff, reduceIte]
          refine gwp_seq_k fun K8 hK8 => ?_
          refine gwp_block ?_
          refine gwp_sr rfl (by decide) rfl rfl fun K hK => ?_
          simp -dsimp [gx']
          refine hK _ _ ?_; clear hK K
          refine gwp_r rfl (by decide) rfl rfl fun K hK => ?_
          simp -dsimp [metK_snoc]
          refine hK _ _ ?_; clear hK K
          simp only [thenA, inBlockA, reduceIte, Nat.reduceEqDiff, eq_self]
          refine hK8 _ _ ?_
          refine gwp_prune [0, 3, 58, 59, 60] (Or.inr (by simp)) ?_
          simp only [prune, List.map_cons, List.map_nil, Go.AM.look, Nat.reduceEqDiff, reduceIte]
          refine gwp_r rfl (by decide) rfl rfl fun K hK => ?_
          simp -dsimp [wk']
          refine hK _ _ ?_; clear hK K
          simp only [thenA, inBlockA, reduceIte, Nat.reduceEqDiff, eq_self]
          exact ⟨k' + 1, by omega, by omega, gsub (sub_rb [some 0, some 1, some 2, some 3, some 4, some 5, some 6] rfl (by simp) (by simp [List.take_add_one, gx'])) (by simp)⟩
        · skip
          skip
          have hkk' : ¬ k' < p.length := by simpa using hc3
          have htp : p.take k' = p := List.take_of_length_le (by omega)
          rw [htp]
          refine gwp_weak (gsub (sub_rf (T' := [(0, .ptr 0 0 0), (3, .ptr 3 0 0)]) (H' := [sgRow j u u.ls.length u.sk.length (mp d) (mp p), rRow u.ls, kRow u.sk, some (.els 1 [[.ptr 0 0 0]]), some (.els 1 [[iL d]])]) [some 0, some 1, some 2, some 3, some 4] rfl (by simp) (by simp [hu, nextS])) (by simp)) ?_
          refine gwp_exit ?_
          simp only [thenA, inBlockA, reduceIte, Nat.reduceEqDiff, eq_self]
          refine hK6 _ _ ?_
          refine gwp_prune [0, 3] (Or.inr (by simp)) ?_
          simp only [prune, List.map_cons, List.map_nil, Go.AM.look, Nat.reduceEqDiff, reduceIte]
          refine gwp_seq_k fun K9 hK9 => ?_
          refine gwp_sr rfl (by decide) rfl rfl fun K hK => ?_
          simp -dsimp
          refine hK _ _ ?_; clear hK K
          refine gwp_cond rfl (fun hc4 => ?_) (fun hc4 => ?_)
          · skip
            simp only [Bool.not_eq_true', Bool.not_eq_false'] at hc4
            refine gwp_sr rfl (by decide) rfl rfl fun K hK => ?_
            simp -dsimp
            refine callK_mut [0] [1, 2] [some 0, none, none, none, none, some 1, some 2] (har) (by decide) rfl (by simp) (by simp) rfl (by simp) ?_
            simp -dsimp
            refine hK _ _ ?_; clear hK K
            refine gwp_sr rfl (by decide) rfl rfl fun K hK => ?_
            simp -dsimp
            refine hK _ _ ?_; clear hK K
            refine gwp_weak (gsub (sub_anyR 0 [sC j (Bo true) (I u.se) (I u.ph) (Bo ((arrF j u.se (rowAt j.Phases u.ph) u.ls).2 || u.on)) (I (if (arrF j u.se (rowAt j.Phases u.ph) u.ls).2 then u.se else u.si)) (.row 5 0 u.ls.length) (.row 6 0 u.sk.length) .any .any] rfl (by simp)) (by simp)) ?_
            exact gwp_ret ⟨[some 0, some 5, some 6], rfl, by simp, by simp [hc4, arrS, hlu, hku], by simp, by simp [resP, tupOf]⟩
          · skip
            simp only [Bool.not_eq_true', Bool.not_eq_false'] at hc4
            refine gwp_skip ?_
            simp only [thenA, inBlockA, reduceIte, Nat.reduceEqDiff, eq_self]
            refine hK9 _ _ ?_
            refine gwp_prune [0, 3] (Or.inr (by simp)) ?_
            simp only [prune, List.map_cons, List.map_nil, Go.AM.look, Nat.reduceEqDiff, reduceIte]
            refine gwp_seq_k fun K10 hK10 => ?_
            refine gwp_flag (by decide) ?_
            refine gwp_sr rfl (by decide) rfl rfl fun K hK => ?_
            simp -dsimp
            refine hK _ _ ?_; clear hK K
            refine gwp_block ?_
            refine gwp_prune [0, 83, 84, 85] (Or.inr (by simp)) ?_
            simp only [prune, List.map_cons, List.map_nil, Go.AM.look, Nat.reduceEqDiff, reduceIte]
            refine gwp_loop_l [0, 83, 84] (α := Nat) (fun k => [(85, I k)]) (fun k => [sgRow j (stU u v w k) u.ls.length u.sk.length (mp d) (mp p), rRow (stU u v w k).ls, kRow (stU u v w k).sk, some (.els 1 [[.ptr 0 0 0]]), some (.els 1 [[iL d]]), some (.els 1 [[.bnd 67 [.ptr 0 0 0]], [.bnd 68 [.ptr 0 0 0]], [.bnd 66 [.ptr 0 0 0]]])]) (fun k => k ≤ 3 ∧ (1 ≤ k → endS j d p u = true)) (fun k => 3 - k) 0 ?_ ?_ ?_
            · exact ⟨by omega, by omega⟩
            · exact gsub (sub_rb [some 0, some 1, some 2, some 3, some 4, some 5] rfl (by simp) (by simp)) (by simp)
            rintro k ⟨k1, k2⟩
            have hk : k = 0 ∨ k = 1 ∨ k = 2 ∨ k = 3 := by omega
            rcases hk with rfl | rfl | rfl | rfl
            · skip
              simp only [List.cons_append, List.nil_append, prune, List.map_cons, List.map_nil, Go.AM.look, Nat.reduceEqDiff, reduceIte]
              refine gwp_sr rfl (by decide) rfl rfl fun K hK => ?_
              simp -dsimp
              refine hK _ _ ?_; clear hK K
              refine gwp_seq_k fun K11 hK11 => ?_
              refine gwp_cond rfl (fun hc5 => ?_) (fun hc5 => ?_)
              · skip
                skip
                refine gwp_skip ?_
                simp only [thenA, inBlockA, reduceIte, Nat.reduceEqDiff, eq_self]
                refine hK11 _ _ ?_
                refine gwp_prune [0, 83, 84, 85] (Or.inr (by simp)) ?_
                simp only [prune, List.map_cons, List.map_nil, Go.AM.look, Nat.reduceEqDiff, reduceIte]
                refine gwp_seq_k fun K12 hK12 => ?_
                refine gwp_block ?_
                refine gwp_sr rfl (by decide) rfl rfl fun K hK => ?_
                simp -dsimp
                refine hK _ _ ?_; clear hK K
                refine gwp_sr rfl (by decide) rfl rfl fun K hK => ?_
                simp -dsimp
                refine callK_intro _ (hen) (by simp) ?_
                simp -dsimp
                refine hK _ _ ?_; clear hK K
                refine gwp_cond rfl (fun hc6 => ?_) (fun hc6 => ?_)
                · skip
                  skip
                  refine gwp_exit ?_
                  simp only [thenA, inBlockA, reduceIte, Nat.reduceEqDiff, eq_self]
                  refine hK10 _ _ ?_
                  refine gwp_prune [0] (Or.inr (by simp)) ?_
                  simp only [prune, List.map_cons, List.map_nil, Go.AM.look, Nat.reduceEqDiff, reduceIte]
                  refine gwp_sr rfl (by decide) rfl rfl fun K hK => ?_
                  simp -dsimp
                  refine hK _ _ ?_; clear hK K
                  have he : endS j d p u = false := by simpa using hc6
                  refine gwp_weak (gsub (sub_anyR 0 [sC j (Bo true) (I u.se) (I u.ph) (Bo u.on) (I u.si) (.row 1 0 u.ls.length) (.row 2 0 u.sk.length) .any .any] rfl (by simp)) (by simp)) ?_
                  exact gwp_ret ⟨[some 0, some 1, some 2], rfl, by simp, by simp [hc4, he, hlu, hku], by simp, by simp [resP, tupOf]⟩
                · skip
                  skip
                  refine gwp_skip ?_
                  simp only [thenA, inBlockA, reduceIte, Nat.reduceEqDiff, eq_self]
                  refine hK12 _ _ ?_
                  refine gwp_prune [0, 83, 84, 85] (Or.inr (by simp)) ?_
                  simp only [prune, List.map_cons, List.map_nil, Go.AM.look, Nat.reduceEqDiff, reduceIte]
                  refine gwp_r rfl (by decide) rfl rfl fun K hK => ?_
                  simp -dsimp [w1, w2, w3]
                  refine hK _ _ ?_; clear hK K
                  simp only [thenA, inBlockA, reduceIte, Nat.reduceEqDiff, eq_self]
                  have he : endS j d p u = true := by simpa using hc6
                  exact ⟨1, ⟨by omega, fun _ => he⟩, by omega, gsub (sub_rb [some 0, some 1, some 2, some 3, some 4, some 5] rfl (by simp) (by simp)) (by simp)⟩
              · skip
                skip
                simp at hc5
            · skip
              simp only [List.cons_append, List.nil_append, prune, List.map_cons, List.map_nil, Go.AM.look, Nat.reduceEqDiff, reduceIte]
              refine gwp_sr rfl (by decide) rfl rfl fun K hK => ?_
              simp -dsimp
              refine hK _ _ ?_; clear hK K
              refine gwp_seq_k fun K13 hK13 => ?_
              refine gwp_cond rfl (fun hc5 => ?_) (fun hc5 => ?_)
              · skip
                skip
                have he := k2 (by omega)
                refine gwp_skip ?_
                simp only [thenA, inBlockA, reduceIte, Nat.reduceEqDiff, eq_self]
                refine hK13 _ _ ?_
                refine gwp_prune [0, 83, 84, 85] (Or.inr (by simp)) ?_
                simp only [prune, List.map_cons, List.map_nil, Go.AM.look, Nat.reduceEqDiff, reduceIte]
                refine gwp_seq_k fun K14 hK14 => ?_
                refine gwp_block ?_
                refine gwp_sr rfl (by decide) rfl rfl fun K hK => ?_
                simp -dsimp
                refine hK _ _ ?_; clear hK K
                refine gwp_sr rfl (by decide) rfl rfl fun K hK => ?_
                simp -dsimp
                refine callK_mut [0] [1, 2] [some 0, none, none, none, none, none, some 1, some 2] (htu (hene he)) (by decide) rfl (by simp) (by simp) rfl (by simp) ?_
                simp -dsimp
                refine hK _ _ ?_; clear hK K
                refine gwp_cond rfl (fun hc6 => ?_) (fun hc6 => ?_)
                · skip
                  skip
                  simp at hc6
                · skip
                  skip
                  refine gwp_skip ?_
                  simp only [thenA, inBlockA, reduceIte, Nat.reduceEqDiff, eq_self]
                  refine hK14 _ _ ?_
                  refine gwp_prune [0, 83, 84, 85] (Or.inr (by simp)) ?_
                  simp only [prune, List.map_cons, List.map_nil, Go.AM.look, Nat.reduceEqDiff, reduceIte]
                  refine gwp_r rfl (by decide) rfl rfl fun K hK => ?_
                  simp -dsimp [w1, w2, w3]
                  refine hK _ _ ?_; clear hK K
                  simp only [thenA, inBlockA, reduceIte, Nat.reduceEqDiff, eq_self]
                  exact ⟨2, ⟨by omega, fun _ => he⟩, by omega, gsub (sub_rb [some 0, some 6, some 7, some 3, some 4, some 5] rfl (by simp) (by simp [hv, turnS])) (by simp)⟩
              · skip
                skip
                simp at hc5
            · skip
              simp only [List.cons_append, List.nil_append, prune, List.map_cons, List.map_nil, Go.AM.look, Nat.reduceEqDiff, reduceIte]
              refine gwp_sr rfl (by decide) rfl rfl fun K hK => ?_
              simp -dsimp
              refine hK _ _ ?_; clear hK K
              refine gwp_seq_k fun K15 hK15 => ?_
              refine gwp_cond rfl (fun hc5 => ?_) (fun hc5 => ?_)
              · skip
                skip
                have he := k2 (by omega)
                refine gwp_skip ?_
                simp only [thenA, inBlockA, reduceIte, Nat.reduceEqDiff, eq_self]
                refine hK15 _ _ ?_
                refine gwp_prune [0, 83, 84, 85] (Or.inr (by simp)) ?_
                simp only [prune, List.map_cons, List.map_nil, Go.AM.look, Nat.reduceEqDiff, reduceIte]
                refine gwp_seq_k fun K16 hK16 => ?_
                refine gwp_block ?_
                refine gwp_sr rfl (by decide) rfl rfl fun K hK => ?_
                simp -dsimp
                refine hK _ _ ?_; clear hK K
                refine gwp_sr rfl (by decide) rfl rfl fun K hK => ?_
                simp -dsimp
                refine callK_mut [0] [1, 2] [some 0, none, none, none, none, none, some 1, some 2] (har2 he) (by decide) rfl (by simp) (by simp) rfl (by simp) ?_
                simp -dsimp
                refine hK _ _ ?_; clear hK K
                refine gwp_cond rfl (fun hc6 => ?_) (fun hc6 => ?_)
                · skip
                  skip
                  refine gwp_exit ?_
                  simp only [thenA, inBlockA, reduceIte, Nat.reduceEqDiff, eq_self]
                  refine hK10 _ _ ?_
                  refine gwp_prune [0] (Or.inr (by simp)) ?_
                  simp only [prune, List.map_cons, List.map_nil, Go.AM.look, Nat.reduceEqDiff, reduceIte]
                  refine gwp_sr rfl (by decide) rfl rfl fun K hK => ?_
                  simp -dsimp
                  refine hK _ _ ?_; clear hK K
                  refine gwp_weak (gsub (sub_anyR 0 [sC j (Bo true) (I v.se) (I v.ph) (Bo ((arrF j v.se (rowAt j.Phases v.ph) v.ls).2 || v.on)) (I (if (arrF j v.se (rowAt j.Phases v.ph) v.ls).2 then v.se else v.si)) (.row 6 0 u.ls.length) (.row 7 0 u.sk.length) .any .any] rfl (by simp)) (by simp)) ?_
                  exact gwp_ret ⟨[some 0, some 6, some 7], rfl, by simp, by simp [hc4, he, hw, arrS, hlu, hku], by simp, by simp [resP, tupOf]⟩
                · skip
                  skip
                  refine gwp_skip ?_
                  simp only [thenA, inBlockA, reduceIte, Nat.reduceEqDiff, eq_self]
                  refine hK16 _ _ ?_
                  refine gwp_prune [0, 83, 84, 85] (Or.inr (by simp)) ?_
                  simp only [prune, List.map_cons, List.map_nil, Go.AM.look, Nat.reduceEqDiff, reduceIte]
                  refine gwp_r rfl (by decide) rfl rfl fun K hK => ?_
                  simp -dsimp [w1, w2, w3]
                  refine hK _ _ ?_; clear hK K
                  simp only [thenA, inBlockA, reduceIte, Nat.reduceEqDiff, eq_self]
                  exact ⟨3, ⟨by omega, fun _ => he⟩, by omega, gsub (sub_rb [some 0, some 6, some 7, some 3, some 4, some 5] rfl (by simp) (by simp [hw, arrS])) (by simp)⟩
              · skip
                skip
                simp at hc5
            · skip
              simp only [List.cons_append, List.nil_append, prune, List.map_cons, List.map_nil, Go.AM.look, Nat.reduceEqDiff, reduceIte]
              refine gwp_sr rfl (by decide) rfl rfl fun K hK => ?_
              simp -dsimp
              refine hK _ _ ?_; clear hK K
              refine gwp_seq_k fun K17 hK17 => ?_
              refine gwp_cond rfl (fun hc5 => ?_) (fun hc5 => ?_)
              · skip
                skip
                simp at hc5
              · skip
                skip
                refine gwp_exit ?_
                simp only [thenA, inBlockA, reduceIte, Nat.reduceEqDiff, eq_self]
                refine hK10 _ _ ?_
                refine gwp_prune [0] (Or.inr (by simp)) ?_
                simp only [prune, List.map_cons, List.map_nil, Go.AM.look, Nat.reduceEqDiff, reduceIte]
                refine gwp_sr rfl (by decide) rfl rfl fun K hK => ?_
                simp -dsimp
                refine hK _ _ ?_; clear hK K
                have he := k2 (by omega)
                refine gwp_weak (gsub (sub_anyR 0 [sC j (Bo true) (I w.se) (I w.ph) (Bo w.on) (I w.si) (.row 1 0 u.ls.length) (.row 2 0 u.sk.length) .any .any] rfl (by simp)) (by simp)) ?_
                exact gwp_ret ⟨[some 0, some 1, some 2], rfl, by simp, by simp [hc4, he, hlu, hku], by simp, by simp [resP, tupOf]⟩
end Go.Street
