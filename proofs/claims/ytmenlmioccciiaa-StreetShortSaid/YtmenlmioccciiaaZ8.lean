/- Walks: a signal turns, and arrives. -/
import Derived.Test.YtmenlmioccciiaaZ7
namespace Go.Street
open Go.AM Go.Proofs
set_option maxRecDepth 10000
set_option maxHeartbeats 4000000
set_option linter.unusedVariables false
set_option linter.unusedSimpArgs false

abbrev sRow (j : Jn) (se ph si : Int) (on : Bool) (nR nK : Nat) (Dm Pr : AV) : Option ARow := some (.els 15 [sC j (Bo true) (I se) (I ph) (Bo on) (I si) (.row 1 0 nR) (.row 2 0 nK) Dm Pr])
abbrev rRow (ls : List Lt) : Option ARow := some (.els 2 (ls.map Lt.cells))
abbrev kRow (sk : List Int) : Option ARow := some (.els 1 (sk.map nCell))

def arrStep (j : Jn) (se : Int) (st : List Lt × Bool) (x : Int) : List Lt × Bool :=
  if (ltAt st.1 x).Green then st else if clearB j se st.1 x then (st.1.set x.toNat ⟨true, se⟩, st.2) else (st.1, false)
def arrF (j : Jn) (se : Int) (l : List Int) (ls : List Lt) : List Lt × Bool := l.foldl (arrStep j se) (ls, true)
theorem arrStep_len (j : Jn) (se : Int) (st : List Lt × Bool) (x : Int) : (arrStep j se st x).1.length = st.1.length := by
  unfold arrStep
  split
  · rfl
  · split <;> simp
theorem arrF_len (j : Jn) (se : Int) (l : List Int) (ls : List Lt) : (arrF j se l ls).1.length = ls.length := by
  have gen : ∀ (l : List Int) (st : List Lt × Bool), (l.foldl (arrStep j se) st).1.length = st.1.length := by
    intro l
    induction l with
    | nil => intro st; rfl
    | cons x l ih => intro st; rw [List.foldl_cons, ih, arrStep_len]
  exact gen l (ls, true)
theorem arrF_snoc {j : Jn} {se : Int} {l : List Int} {ls : List Lt} {k : Nat} {x : Int} (h : l[k]? = some x) : arrF j se (l.take (k + 1)) ls = arrStep j se (arrF j se (l.take k) ls) x := by
  unfold arrF
  rw [List.take_add_one, h]; simp
theorem lt_set_bd {ls : List Lt} {i : Nat} {l : Lt} (h : ∀ x ∈ ls, smallT x.Since) (hl : smallT l.Since) : ∀ x ∈ ls.set i l, smallT x.Since := by
  intro x hx
  rcases List.mem_or_eq_of_mem_set hx with h1 | rfl
  · exact h x h1
  · exact hl
theorem arrStep_bd {j : Jn} {se : Int} {st : List Lt × Bool} {x : Int} (hse : smallT se) (h : ∀ y ∈ st.1, smallT y.Since) : ∀ y ∈ (arrStep j se st x).1, smallT y.Since := by
  unfold arrStep
  split
  · exact h
  · split
    · exact lt_set_bd h hse
    · exact h
theorem arrF_bd {j : Jn} {se : Int} (hse : smallT se) (l : List Int) {ls : List Lt} (h : ∀ y ∈ ls, smallT y.Since) : ∀ y ∈ (arrF j se l ls).1, smallT y.Since := by
  have gen : ∀ (l : List Int) (st : List Lt × Bool), (∀ y ∈ st.1, smallT y.Since) → ∀ y ∈ (l.foldl (arrStep j se) st).1, smallT y.Since := by
    intro l
    induction l with
    | nil => intro st h; exact h
    | cons x l ih => intro st h; exact ih _ (arrStep_bd hse h)
  exact gen l (ls, true) h

theorem m_arrive (j : Jn) (se ph si : Int) (on : Bool) (ls : List Lt) (d p sk : List Int) (hf : Fit j) (ho : JOk j) (hl : ls.length = j.n) (hk : sk.length = j.Phases.length) (hse : smallT se) (hlt : ∀ l ∈ ls, smallT l.Since) (p0 : 0 ≤ ph) (p1 : ph < j.Phases.length) :
    MutCall Try.prog 66 [.ptr 0 0 0] [sRow j se ph si on ls.length sk.length (mp d) (mp p)] [rRow ls, kRow sk] (Bo (arrF j se (rowAt j.Phases ph) ls).2)
      [sRow j se ph (if (arrF j se (rowAt j.Phases ph) ls).2 then se else si) ((arrF j se (rowAt j.Phases ph) ls).2 || on) ls.length sk.length (mp d) (mp p)] [rRow (arrF j se (rowAt j.Phases ph) ls).1, kRow sk] := by
  have hph := ho.phase p0 p1
  have hpl := hf.ps _ (List.mem_of_getElem? hph.1)
  have hn2 := ho.n2
  refine MutCall.of_bodyG [0] Try.func66 rfl (by decide) (by simp [Try.ntmps66]) rfl rfl ?_
  intro J hJ
  simp only [Try.ntmps66, Try.results66]
  refine gwp_sr rfl (by decide) rfl rfl fun K hK => ?_
  simp -dsimp
  refine hK _ _ ?_; clear hK K
  refine gwp_sr rfl (by decide) rfl rfl fun K hK => ?_
  simp -dsimp
  refine hK _ _ ?_; clear hK K
  refine gwp_seq_k fun K1 hK1 => ?_
  refine gwp_sd mixed rfl (by decide) rfl rfl fun K hK => ?_
  simp -dsimp [hph.1, p0]
  refine hK _ _ _ (by decide +kernel) ?_; clear hK K
  refine gwp_block ?_
  refine gwp_prune [0, 3, 18, 19, 20] (Or.inr (by simp)) ?_
  simp only [prune, List.map_cons, List.map_nil, Go.AM.look, Nat.reduceEqDiff, reduceIte]
  refine gwp_loop_l [0, 18, 19] (α := Nat) (fun k => [(3, Bo (arrF j se ((rowAt j.Phases ph).take k) ls).2), (20, I k)]) (fun k => [sRow j se ph si on ls.length sk.length (mp d) (mp p), rRow (arrF j se ((rowAt j.Phases ph).take k) ls).1, kRow sk]) (fun k => k ≤ (rowAt j.Phases ph).length) (fun k => (rowAt j.Phases ph).length - k) 0 ?_ ?_ ?_
  · exact Nat.zero_le _
  · exact gsub (sub_rb [some 0, some 1, some 2] rfl (by simp [arrF]) (by simp [arrF])) (by simp)
  rintro k k1
  simp only [List.cons_append, List.nil_append, prune, List.map_cons, List.map_nil, Go.AM.look, Nat.reduceEqDiff, reduceIte]
  refine gwp_sr rfl (by decide) rfl rfl fun K hK => ?_
  simp -dsimp
  refine hK _ _ ?_; clear hK K
  refine gwp_seq_k fun K2 hK2 => ?_
  refine gwp_cond rfl (fun hc0 => ?_) (fun hc0 => ?_)
  · skip
    skip
    have hkl : k < (rowAt j.Phases ph).length := by simpa using hc0
    have gx := at0_nat hkl
    have hxb := hph.2.2.1 _ (List.mem_of_getElem? gx)
    have wk : IntKind.i64.wrap ((k : Int) + 1) = (k : Int) + 1 := wrap_in (by omega) (by omega)
    generalize at0 (rowAt j.Phases ph) k = x at gx hxb
    have hsn := arrF_snoc (j := j) (se := se) (ls := ls) gx
    have hln := arrF_len j se ((rowAt j.Phases ph).take k) ls
    have hbd := arrF_bd (j := j) hse ((rowAt j.Phases ph).take k) hlt
    generalize arrF j se ((rowAt j.Phases ph).take k) ls = st at hsn hln hbd ⊢
    obtain ⟨L, al⟩ := st
    simp only at hsn hln hbd ⊢
    have gl := ltAt_get (l := L) (i := x) hxb.1 (by omega)
    have hxl : x < (ls.length : Int) := by omega
    have htL : List.take ls.length (L.map Lt.cells) = L.map Lt.cells := List.take_of_length_le (by simp; omega)
    simp only [arrStep] at hsn
    have hcl := fun (Sk Dm Pr : AV) => c_clear j (Bo true) (I ph) (Bo on) (I si) Sk Dm Pr se L x ho.sqr (by omega) (by omega) hse hbd hxb.1 hxb.2
    have hLle : ls.length ≤ L.length := by omega
    refine gwp_skip ?_
    simp only [thenA, inBlockA, reduceIte, Nat.reduceEqDiff, eq_self]
    refine hK2 _ _ ?_
    refine gwp_prune [0, 3, 18, 19, 20] (Or.inr (by simp)) ?_
    simp only [prune, List.map_cons, List.map_nil, Go.AM.look, Nat.reduceEqDiff, reduceIte]
    refine gwp_seq_k fun K3 hK3 => ?_
    refine gwp_block ?_
    refine gwp_sr rfl (by decide) rfl rfl fun K hK => ?_
    simp -dsimp [gx]
    refine hK _ _ ?_; clear hK K
    refine gwp_sr rfl (by decide) rfl rfl fun K hK => ?_
    simp -dsimp [hxb.1, hxl]
    refine hK _ _ ?_; clear hK K
    refine gwp_seq_k fun K4 hK4 => ?_
    refine gwp_sr rfl (by decide) rfl rfl fun K hK => ?_
    simp -dsimp [gl]
    refine hK _ _ ?_; clear hK K
    refine gwp_cond rfl (fun hc1 => ?_) (fun hc1 => ?_)
    · skip
      skip
      refine gwp_exit ?_
      simp only [thenA, inBlockA, reduceIte, Nat.reduceEqDiff, eq_self]
      refine hK3 _ _ ?_
      refine gwp_prune [0, 3, 18, 19, 20] (Or.inr (by simp)) ?_
      simp only [prune, List.map_cons, List.map_nil, Go.AM.look, Nat.reduceEqDiff, reduceIte]
      refine gwp_r rfl (by decide) rfl rfl fun K hK => ?_
      simp -dsimp [wk]
      refine hK _ _ ?_; clear hK K
      simp only [thenA, inBlockA, reduceIte, Nat.reduceEqDiff, eq_self]
      have hst : arrF j se ((rowAt j.Phases ph).take (k + 1)) ls = (L, al) := by rw [hsn, if_pos hc1]
      exact ⟨k + 1, by omega, by omega, gsub (sub_rb [some 0, some 1, some 2] rfl (by simp [hst]) (by simp [hst])) (by simp)⟩
    · skip
      skip
      refine gwp_skip ?_
      simp only [thenA, inBlockA, reduceIte, Nat.reduceEqDiff, eq_self]
      refine hK4 _ _ ?_
      refine gwp_prune [0, 3, 5, 6, 18, 19, 20] (Or.inr (by simp)) ?_
      simp only [prune, List.map_cons, List.map_nil, Go.AM.look, Nat.reduceEqDiff, reduceIte]
      refine gwp_sr rfl (by decide) rfl rfl fun K hK => ?_
      simp -dsimp [htL, hLle]
      refine callK_intro _ (hcl _ _ _) (by simp) ?_
      simp -dsimp [htL, hLle]
      refine hK _ _ ?_; clear hK K
      refine gwp_cond rfl (fun hc2 => ?_) (fun hc2 => ?_)
      · skip
        skip
        refine gwp_r rfl (by decide) rfl rfl fun K hK => ?_
        simp -dsimp [hxb.1, hxl, gl]
        refine hK _ _ ?_; clear hK K
        simp only [thenA, inBlockA, reduceIte, Nat.reduceEqDiff, eq_self]
        refine hK3 _ _ ?_
        refine gwp_prune [0, 3, 18, 19, 20] (Or.inr (by simp)) ?_
        simp only [prune, List.map_cons, List.map_nil, Go.AM.look, Nat.reduceEqDiff, reduceIte]
        refine gwp_r rfl (by decide) rfl rfl fun K hK => ?_
        simp -dsimp [wk]
        refine hK _ _ ?_; clear hK K
        simp only [thenA, inBlockA, reduceIte, Nat.reduceEqDiff, eq_self]
        have hst : arrF j se ((rowAt j.Phases ph).take (k + 1)) ls = (L.set x.toNat ⟨true, se⟩, al) := by rw [hsn, if_neg (by simp [hc1]), if_pos hc2]
        exact ⟨k + 1, by omega, by omega, gsub (sub_rb [some 0, some 1, some 2] rfl (by simp [hst]) (by simp [hst, List.map_set])) (by simp)⟩
      · skip
        skip
        refine gwp_r rfl (by decide) rfl rfl fun K hK => ?_
        simp -dsimp
        refine hK _ _ ?_; clear hK K
        simp only [thenA, inBlockA, reduceIte, Nat.reduceEqDiff, eq_self]
        refine hK3 _ _ ?_
        refine gwp_prune [0, 3, 18, 19, 20] (Or.inr (by simp)) ?_
        simp only [prune, List.map_cons, List.map_nil, Go.AM.look, Nat.reduceEqDiff, reduceIte]
        refine gwp_r rfl (by decide) rfl rfl fun K hK => ?_
        simp -dsimp [wk]
        refine hK _ _ ?_; clear hK K
        simp only [thenA, inBlockA, reduceIte, Nat.reduceEqDiff, eq_self]
        have hst : arrF j se ((rowAt j.Phases ph).take (k + 1)) ls = (L, false) := by rw [hsn, if_neg (by simp [hc1]), if_neg (by simp [hc2])]
        exact ⟨k + 1, by omega, by omega, gsub (sub_rb [some 0, some 1, some 2] rfl (by simp [hst]) (by simp [hst])) (by simp)⟩
  · skip
    skip
    have hkk : ¬ k < (rowAt j.Phases ph).length := by simpa using hc0
    have htk : (rowAt j.Phases ph).take k = rowAt j.Phases ph := List.take_of_length_le (by omega)
    rw [htk]
    generalize hst : arrF j se (rowAt j.Phases ph) ls = st
    obtain ⟨L, al⟩ := st
    simp only
    refine gwp_exit ?_
    simp only [thenA, inBlockA, reduceIte, Nat.reduceEqDiff, eq_self]
    refine hK1 _ _ ?_
    refine gwp_prune [0, 3] (Or.inr (by simp)) ?_
    simp only [prune, List.map_cons, List.map_nil, Go.AM.look, Nat.reduceEqDiff, reduceIte]
    refine gwp_seq_k fun K5 hK5 => ?_
    refine gwp_sr rfl (by decide) rfl rfl fun K hK => ?_
    simp -dsimp
    refine hK _ _ ?_; clear hK K
    refine gwp_cond rfl (fun hc3 => ?_) (fun hc3 => ?_)
    · skip
      skip
      refine gwp_r rfl (by decide) rfl rfl fun K hK => ?_
      simp -dsimp
      refine hK _ _ ?_; clear hK K
      simp only [thenA, inBlockA, reduceIte, Nat.reduceEqDiff, eq_self]
      refine hK5 _ _ ?_
      refine gwp_prune [0, 3] (Or.inr (by simp)) ?_
      simp only [prune, List.map_cons, List.map_nil, Go.AM.look, Nat.reduceEqDiff, reduceIte]
      refine gwp_sr rfl (by decide) rfl rfl fun K hK => ?_
      simp -dsimp
      refine hK _ _ ?_; clear hK K
      obtain rfl : al = true := by simpa using hc3
      exact gwp_ret ⟨[some 0, some 1, some 2], rfl, by simp, by simp [hst], by simp, by simp [resP, tupOf, hst]⟩
    · skip
      skip
      refine gwp_skip ?_
      simp only [thenA, inBlockA, reduceIte, Nat.reduceEqDiff, eq_self]
      refine hK5 _ _ ?_
      refine gwp_prune [0, 3] (Or.inr (by simp)) ?_
      simp only [prune, List.map_cons, List.map_nil, Go.AM.look, Nat.reduceEqDiff, reduceIte]
      refine gwp_sr rfl (by decide) rfl rfl fun K hK => ?_
      simp -dsimp
      refine hK _ _ ?_; clear hK K
      obtain rfl : al = false := by simpa using hc3
      exact gwp_ret ⟨[some 0, some 1, some 2], rfl, by simp, by simp [hst], by simp, by simp [resP, tupOf, hst]⟩

/-- The lights when a phase gives way: what the next one does not have becomes red. -/
def redStep (j : Jn) (se q : Int) (ls : List Lt) (x : Int) : List Lt := if (ltAt ls x).Green && !hasB j q x then ls.set x.toNat ⟨false, se⟩ else ls
def redF (j : Jn) (se q : Int) (l : List Int) (ls : List Lt) : List Lt := l.foldl (redStep j se q) ls
theorem redF_len (j : Jn) (se q : Int) (l : List Int) (ls : List Lt) : (redF j se q l ls).length = ls.length := by
  unfold redF
  induction l generalizing ls with
  | nil => rfl
  | cons x l ih =>
    rw [List.foldl_cons, ih]
    unfold redStep
    split <;> simp
theorem redF_snoc {j : Jn} {se q : Int} {l : List Int} {ls : List Lt} {k : Nat} {x : Int} (h : l[k]? = some x) : redF j se q (l.take (k + 1)) ls = redStep j se q (redF j se q (l.take k) ls) x := by
  unfold redF
  rw [List.take_add_one, h]; simp
theorem redF_bd {j : Jn} {se q : Int} (hse : smallT se) (l : List Int) {ls : List Lt} (h : ∀ y ∈ ls, smallT y.Since) : ∀ y ∈ redF j se q l ls, smallT y.Since := by
  unfold redF
  induction l generalizing ls with
  | nil => exact h
  | cons x l ih =>
    rw [List.foldl_cons]
    refine ih ?_
    unfold redStep
    split
    · exact lt_set_bd h hse
    · exact h

theorem nextK_len (j : Jn) (ph : Int) (d p sk : List Int) : (nextK j ph d p sk).length = sk.length := by simp [nextK, incrs_len]

theorem m_turn (j : Jn) (se ph si : Int) (on : Bool) (ls : List Lt) (d p sk : List Int) (hf : Fit j) (ho : JOk j) (hl : ls.length = j.n) (hk : sk.length = j.Phases.length) (hkb : ∀ x ∈ sk, 0 ≤ x ∧ x ≤ 1000000) (hse : smallT se) (p0 : 0 ≤ ph) (p1 : ph < j.Phases.length) (hne : candL j ph d ≠ []) :
    MutCall Try.prog 68 [.ptr 0 0 0] [sRow j se ph si on ls.length sk.length (mp d) (mp p)] [rRow ls, kRow sk] (Bo true)
      [sRow j se (nextB j ph d p sk) si false ls.length sk.length (mp d) (mp p)] [rRow (redF j se (nextB j ph d p sk) (rowAt j.Phases ph) ls), kRow (nextK j ph d p sk)] := by
  have hph := ho.phase p0 p1
  have hpl := hf.ps _ (List.mem_of_getElem? hph.1)
  have hnx := m_next j se ph si on ls d p sk hf ho hk hkb p0 p1 hne
  have hqb := candL_bd (j := j) (ph := ph) (d := d) (by omega) _ (nextB_mem (p := p) (sk := sk) hne)
  have hKl := nextK_len j ph d p sk
  generalize nextB j ph d p sk = q at hnx hqb ⊢
  generalize nextK j ph d p sk = K' at hnx hKl ⊢
  have htK : List.take sk.length (K'.map nCell) = K'.map nCell := List.take_of_length_le (by simp; omega)
  have hKle : sk.length ≤ K'.length := by omega
  refine MutCall.of_bodyG [0] Try.func68 rfl (by decide) (by simp [Try.ntmps68]) rfl rfl ?_
  intro J hJ
  simp only [Try.ntmps68, Try.results68]
  refine gwp_sr rfl (by decide) rfl rfl fun K hK => ?_
  simp -dsimp
  refine hK _ _ ?_; clear hK K
  refine gwp_sr rfl (by decide) rfl rfl fun K hK => ?_
  simp -dsimp
  refine callK_mutF [2] [] [none, none, some 0] (hnx) (by decide) rfl (by simp) (by simp) rfl (by simp) (by simp) (by simp) ?_
  simp -dsimp
  refine hK _ _ ?_; clear hK K
  refine gwp_seq_k fun K1 hK1 => ?_
  refine gwp_sd mixed rfl (by decide) rfl rfl fun K hK => ?_
  simp -dsimp [hph.1, p0]
  refine hK _ _ _ (by decide +kernel) ?_; clear hK K
  refine gwp_block ?_
  refine gwp_prune [0, 3, 20, 21, 22] (Or.inr (by simp)) ?_
  simp only [prune, List.map_cons, List.map_nil, Go.AM.look, Nat.reduceEqDiff, reduceIte]
  refine gwp_loop_l [0, 3, 20, 21] (α := Nat) (fun k => [(22, I k)]) (fun k => [sRow j se ph si on ls.length sk.length (mp d) (mp p), rRow (redF j se q ((rowAt j.Phases ph).take k) ls), kRow K']) (fun k => k ≤ (rowAt j.Phases ph).length) (fun k => (rowAt j.Phases ph).length - k) 0 ?_ ?_ ?_
  · exact Nat.zero_le _
  · exact gsub (sub_rb [some 0, some 1, some 2] rfl (by simp) (by simp [redF])) (by simp)
  rintro k k1
  simp only [List.cons_append, List.nil_append, prune, List.map_cons, List.map_nil, Go.AM.look, Nat.reduceEqDiff, reduceIte]
  refine gwp_sr rfl (by decide) rfl rfl fun K hK => ?_
  simp -dsimp
  refine hK _ _ ?_; clear hK K
  refine gwp_seq_k fun K2 hK2 => ?_
  refine gwp_cond rfl (fun hc0 => ?_) (fun hc0 => ?_)
  · skip
    skip
    have hkl : k < (rowAt j.Phases ph).length := by simpa using hc0
    have gx := at0_nat hkl
    have hxb := hph.2.2.1 _ (List.mem_of_getElem? gx)
    have wk : IntKind.i64.wrap ((k : Int) + 1) = (k : Int) + 1 := wrap_in (by omega) (by omega)
    generalize at0 (rowAt j.Phases ph) k = x at gx hxb
    have hsn := redF_snoc (j := j) (se := se) (q := q) (ls := ls) gx
    have hln := redF_len j se q ((rowAt j.Phases ph).take k) ls
    generalize redF j se q ((rowAt j.Phases ph).take k) ls = L at hsn hln ⊢
    have gl := ltAt_get (l := L) (i := x) hxb.1 (by omega)
    have hxl : x < (ls.length : Int) := by omega
    have htL : List.take ls.length (L.map Lt.cells) = L.map Lt.cells := List.take_of_length_le (by simp; omega)
    have hLle : ls.length ≤ L.length := by omega
    simp only [redStep] at hsn
    have hha := fun (R Sk Dm Pr : AV) => c_has j (Bo true) (I se) (I ph) (Bo on) (I si) R Sk Dm Pr q x hf hqb.1 hqb.2
    refine gwp_skip ?_
    simp only [thenA, inBlockA, reduceIte, Nat.reduceEqDiff, eq_self]
    refine hK2 _ _ ?_
    refine gwp_prune [0, 3, 20, 21, 22] (Or.inr (by simp)) ?_
    simp only [prune, List.map_cons, List.map_nil, Go.AM.look, Nat.reduceEqDiff, reduceIte]
    refine gwp_seq_k fun K3 hK3 => ?_
    refine gwp_block ?_
    refine gwp_sr rfl (by decide) rfl rfl fun K hK => ?_
    simp -dsimp [gx]
    refine hK _ _ ?_; clear hK K
    refine gwp_sr rfl (by decide) rfl rfl fun K hK => ?_
    simp -dsimp [hxb.1, hxl]
    refine hK _ _ ?_; clear hK K
    refine gwp_sr rfl (by decide) rfl rfl fun K hK => ?_
    simp -dsimp [gl, htL, hLle, htK, hKle]
    refine callK_may _ (fun hm => hha _ _ _ _) (by simp) ?_
    simp -dsimp [gl, htL, hLle, htK, hKle]
    refine hK _ _ ?_; clear hK K
    refine gwp_cond rfl (fun hc1 => ?_) (fun hc1 => ?_)
    · skip
      skip
      refine gwp_r rfl (by decide) rfl rfl fun K hK => ?_
      simp -dsimp [hxb.1, hxl, gl]
      refine hK _ _ ?_; clear hK K
      simp only [thenA, inBlockA, reduceIte, Nat.reduceEqDiff, eq_self]
      refine hK3 _ _ ?_
      refine gwp_prune [0, 3, 20, 21, 22] (Or.inr (by simp)) ?_
      simp only [prune, List.map_cons, List.map_nil, Go.AM.look, Nat.reduceEqDiff, reduceIte]
      refine gwp_r rfl (by decide) rfl rfl fun K hK => ?_
      simp -dsimp [wk]
      refine hK _ _ ?_; clear hK K
      simp only [thenA, inBlockA, reduceIte, Nat.reduceEqDiff, eq_self]
      have hst : redF j se q ((rowAt j.Phases ph).take (k + 1)) ls = L.set x.toNat ⟨false, se⟩ := by rw [hsn, if_pos hc1]
      exact ⟨k + 1, by omega, by omega, gsub (sub_rb [some 0, some 1, some 2] rfl (by simp) (by simp [hst, List.map_set])) (by simp)⟩
    · skip
      skip
      refine gwp_skip ?_
      simp only [thenA, inBlockA, reduceIte, Nat.reduceEqDiff, eq_self]
      refine hK3 _ _ ?_
      refine gwp_prune [0, 3, 20, 21, 22] (Or.inr (by simp)) ?_
      simp only [prune, List.map_cons, List.map_nil, Go.AM.look, Nat.reduceEqDiff, reduceIte]
      refine gwp_r rfl (by decide) rfl rfl fun K hK => ?_
      simp -dsimp [wk]
      refine hK _ _ ?_; clear hK K
      simp only [thenA, inBlockA, reduceIte, Nat.reduceEqDiff, eq_self]
      have hst : redF j se q ((rowAt j.Phases ph).take (k + 1)) ls = L := by rw [hsn, if_neg (by rw [hc1]; simp)]
      exact ⟨k + 1, by omega, by omega, gsub (sub_rb [some 0, some 1, some 2] rfl (by simp) (by simp [hst])) (by simp)⟩
  · skip
    skip
    have hkk : ¬ k < (rowAt j.Phases ph).length := by simpa using hc0
    have htk : (rowAt j.Phases ph).take k = rowAt j.Phases ph := List.take_of_length_le (by omega)
    rw [htk]
    refine gwp_exit ?_
    simp only [thenA, inBlockA, reduceIte, Nat.reduceEqDiff, eq_self]
    refine hK1 _ _ ?_
    refine gwp_prune [0, 3] (Or.inr (by simp)) ?_
    simp only [prune, List.map_cons, List.map_nil, Go.AM.look, Nat.reduceEqDiff, reduceIte]
    refine gwp_sr rfl (by decide) rfl rfl fun K hK => ?_
    simp -dsimp
    refine hK _ _ ?_; clear hK K
    refine gwp_sr rfl (by decide) rfl rfl fun K hK => ?_
    simp -dsimp
    refine hK _ _ ?_; clear hK K
    exact gwp_ret ⟨[some 0, some 1, some 2], rfl, by simp, by simp, by simp, by simp [resP, tupOf]⟩
end Go.Street
