/- Walks: the search for the shortest tour, whole. -/
import Derived.Test.YtmenlmioccciiaaZF
namespace Go.Street
open Go.AM Go.Proofs
set_option maxRecDepth 10000
set_option maxHeartbeats 8000000
set_option linter.unusedVariables false
set_option linter.unusedSimpArgs false

theorem m_branch (j : Jn) (l : List Int) (hf : Fit j) (ho : JOk j) (hl : ∀ x ∈ l, 0 ≤ x ∧ x < j.n) (hll : l.length ≤ 9) (n : Nat) :
    ∀ s t len s', orG s len (srF j l n s t len) = some s' → BsOk s → TrOk j t len → t.length + n ≤ 10 → MutCall Try.prog 47 (brArgs j l t len (bAV j l n)) [bRow s, lRow s] [] (.tup []) [bRow s', lRow s'] [] := by
  induction n with
  | zero =>
    intro s t len s' h hs ht hn
    cases hh : hopeB s len with
    | true =>
      have e : s = s' := by simpa [orG, hh] using h
      subst e
      exact m_branch_of (x0 := iL t) (x1 := I len) (caps := [.ptr 0 0 0, .ptr 1 0 0, .iptr [iL l], .iptr j.cells, bAV j l 0]) (Or.inr (m_searchP j l _ (bAV_ren j l _ rfl rfl 0 40 (by omega)) s t len hs ht hh))
    | false =>
      have h' : srF j l 0 s t len = some s' := by simpa [orG, hh] using h
      cases h'
  | succ n ih =>
    intro s t len s' h hs ht hn
    cases hh : hopeB s len with
    | true =>
      have e : s = s' := by simpa [orG, hh] using h
      subst e
      exact m_branch_of (x0 := iL t) (x1 := I len) (caps := [.ptr 0 0 0, .ptr 1 0 0, .iptr [iL l], .iptr j.cells, bAV j l (n + 1)]) (Or.inr (m_searchP j l _ (bAV_ren j l _ rfl rfl (n + 1) 40 (by have := ht.n1; omega)) s t len hs ht hh))
    | false =>
      have h' : srF j l (n + 1) s t len = some s' := by simpa [orG, hh] using h
      exact m_branch_of (x0 := iL t) (x1 := I len) (caps := [.ptr 0 0 0, .ptr 1 0 0, .iptr [iL l], .iptr j.cells, bAV j l (n + 1)]) (Or.inl (m_search j l n hf ho hl hll ih s t len s' h' hs ht hn))

theorem lpF_some {g : Bs → Int → Option Bs} (hg : ∀ s x, ∃ s', g s x = some s') : ∀ (l : List Int) (s : Bs), ∃ s', lpF g l s = some s'
  | [], s => ⟨s, rfl⟩
  | x :: l, s => by
    obtain ⟨s1, h1⟩ := hg s x
    obtain ⟨s2, h2⟩ := lpF_some hg l s1
    exact ⟨s2, by simp [lpF, h1, h2]⟩
/-- Deep enough, the search ends. -/
theorem srF_some (j : Jn) (l : List Int) : ∀ (n : Nat) (s : Bs) (t : List Int) (len : Int), t.length ≤ l.length → l.length < t.length + n → ∃ s', orG s len (srF j l n s t len) = some s'
  | 0, s, t, len, h1, h2 => by omega
  | n + 1, s, t, len, h1, h2 => by
    unfold orG
    split
    · exact ⟨s, rfl⟩
    · rename_i hh
      simp only [srF, if_neg hh]
      split
      · exact ⟨_, rfl⟩
      · rename_i hne
        refine lpF_some (fun s x => ?_) l s
        split
        · exact ⟨s, rfl⟩
        · exact srF_some j l n s (t ++ [x]) _ (by simp; omega) (by simp; omega)

/-- The rows of the search: the variables of the search and of the branch, and the tour's first stream. -/
abbrev srRow (l : List Int) (c : List AV) : Option ARow := some (.els 1 [[.clo 49 [.ptr 0 0 0, .ptr 1 0 0, .iptr [iL l], .iptr c, .ptr 3 0 0]]])
abbrev vbRow : Option ARow := some (.els 1 [[.clo 47 [.ptr 2 0 0]]])
theorem renC_ptr3 (H : Nat → Option ARow) (h3 : H 3 = vbRow) (k : Nat) : renC H [0, 1] (k + 1) (.ptr 3 0 0) = .vptr [renC H [0, 1] k (.clo 47 [.ptr 2 0 0])] := by
  have e : newName ([0, 1].map some) 3 = none := by decide
  simp only [renC, e, h3]; rfl
theorem renC_ptr2 (l : List Int) (c : List AV) (H : Nat → Option ARow) (h2 : H 2 = srRow l c) (k : Nat) : renC H [0, 1] (k + 1) (.ptr 2 0 0) = .vptr [renC H [0, 1] k (.clo 49 [.ptr 0 0 0, .ptr 1 0 0, .iptr [iL l], .iptr c, .ptr 3 0 0])] := by
  have e : newName ([0, 1].map some) 2 = none := by decide
  simp only [renC, e, h2]; rfl
theorem renC_clo (H : Nat → Option ARow) (g : List Nat) (k : Nat) (f : FuncId) (cs : List AV) : renC H g (k + 1) (.clo f cs) = .clo f (cs.map (renC H g k)) := rfl
theorem renC_iptr (H : Nat → Option ARow) (g : List Nat) (k : Nat) (cs : List AV) : renC H g k (.iptr cs) = .iptr cs := by cases k <;> rfl
theorem renC_ptr01 (H : Nat → Option ARow) (k : Nat) : renC H [0, 1] (k + 1) (.ptr 0 0 0) = .ptr 0 0 0 ∧ renC H [0, 1] (k + 1) (.ptr 1 0 0) = .ptr 1 0 0 := ⟨rfl, rfl⟩
theorem renC_search (j : Jn) (l : List Int) (H : Nat → Option ARow) (h2 : H 2 = srRow l j.cells) (k : Nat) : renC H [0, 1] (k + 3) (.ptr 2 0 0) = .vptr [.clo 49 [.ptr 0 0 0, .ptr 1 0 0, .iptr [iL l], .iptr j.cells, renC H [0, 1] (k + 1) (.ptr 3 0 0)]] := by
  rw [renC_ptr2 l j.cells H h2 (k + 2), renC_clo]
  simp only [List.map_cons, List.map_nil, renC_iptr, (renC_ptr01 H k).1, (renC_ptr01 H k).2]
theorem eat_bAV (j : Jn) (l : List Int) (H : Nat → Option ARow) (h2 : H 2 = srRow l j.cells) (h3 : H 3 = vbRow) : ∀ n, renC H [0, 1] (4 * n + 1) (.ptr 3 0 0) = bAV j l n
  | 0 => by rw [renC_ptr3 H h3]; rfl
  | n + 1 => by
    have ih := eat_bAV j l H h2 h3 n
    rw [show 4 * (n + 1) + 1 = (4 * n + 4) + 1 by omega, renC_ptr3 H h3, renC_clo]
    simp only [List.map_cons, List.map_nil]
    rw [renC_search j l H h2 (4 * n), ih]
    rfl
theorem br_eat0 (j : Jn) (l : List Int) (x : Int) (len : Int) (s s' : Bs)
    (h : MutCall Try.prog 47 (brArgs j l [x] len (bAV j l 9)) [bRow s, lRow s] [] (.tup []) [bRow s', lRow s'] []) :
    MutCall Try.prog 47 [.row 4 0 1, I len, .ptr 2 0 0] [bRow s, lRow s] [srRow l j.cells, vbRow, some (.els 1 [nCell x])] (.tup []) [bRow s', lRow s'] [] := by
  refine MutCall.eat 39 2 rfl ?_ ?_ h
  · simp [List.range, List.range.loop]
  · have e := renC_search j l (hget ([bRow s, lRow s] ++ [srRow l j.cells, vbRow, some (.els 1 [nCell x])])) rfl 36
    have e2 := eat_bAV j l (hget ([bRow s, lRow s] ++ [srRow l j.cells, vbRow, some (.els 1 [nCell x])])) rfl rfl 9
    rw [show 4 * 9 + 1 = 36 + 1 by omega] at e2
    rw [e2] at e
    show [renC _ [0, 1] 39 (.row 4 0 1), renC _ [0, 1] 39 (I len), renC _ [0, 1] 39 (.ptr 2 0 0)] = _
    rw [show (39 : Nat) = 36 + 3 by omega, e]
    rfl
end Go.Street
