/- Walks: what has been found, the best one first: put in, taken out. -/
import Derived.Test.YtdabjdajemiagaaD1
namespace Go.Tram
open Go.AM Go.Proofs
set_option maxRecDepth 10000
set_option maxHeartbeats 4000000
set_option linter.unusedVariables false
set_option linter.unusedSimpArgs false

abbrev fAV (x : Fnd) : AV := .ifc 116 x.av
abbrev hrow (r n : Nat) : Option ARow := some (.els 1 [[.row r 0 n]])
abbrev frow (l : List Fnd) : Option ARow := some (.els 3 (l.map Fnd.cells))

theorem m_lPush (l : List Fnd) (n : Nat) (x : Fnd) (hn : n ≤ l.length) (hb : l.length ≤ 900000) :
    MutCall Try.prog 111 [.ptr 0 0 0, fAV x] [hrow 1 n] [frow l] (.tup []) [hrow 1 (n + 1)] [frow (l.take n ++ [x])] := by
  have f1 : Fits (n + 1) 25 := fits_of (by omega) (by omega)
  refine MutCall.of_bodyG [0] Try.func111 rfl (by decide) (by simp [Try.ntmps111]) rfl rfl ?_
  intro J hJ
  simp only [Try.ntmps111, Try.results111]
  refine gwp_draw mixed rfl (by decide) rfl rfl fun K hK => ?_
  simp -dsimp [f1, hn]
  refine hK _ _ _ (by decide +kernel) ?_; clear hK K
  try simp only [thenA, inBlockA, reduceIte, Nat.reduceEqDiff, eq_self]
  exact ⟨[some 0, some 3], rfl, by simp, by simp, by simp, by simp [resP, tupOf]⟩

theorem m_lPop (l : List Fnd) (n : Nat) (x : Fnd) (h1 : 1 ≤ n) (hn : n ≤ l.length) (hb : l.length ≤ 900000) (hx : l[n - 1]? = some x) :
    MutCall Try.prog 119 [.ptr 0 0 0] [hrow 1 n] [frow l] (fAV x) [hrow 1 (n - 1)] [frow l] := by
  have w1 : IntKind.i64.wrap ((n : Int) - 1) = ((n - 1 : Nat) : Int) := by rw [wrap_in (by omega) (by omega)]; omega
  have h2 : n - 1 < n := by omega
  have h3 : n - 1 ≤ l.length := by omega
  have h4 : n - 1 ≤ n := by omega
  have h5 : ¬ n = 0 := by omega
  refine MutCall.of_bodyG [0] Try.func119 rfl (by decide) (by simp [Try.ntmps119]) rfl rfl ?_
  intro J hJ
  simp only [Try.ntmps119, Try.results119]
  refine gwp_sr rfl (by decide) rfl rfl fun K hK => ?_
  simp -dsimp
  refine hK _ _ ?_; clear hK K
  refine gwp_sd mixed rfl (by decide) rfl rfl fun K hK => ?_
  simp -dsimp [w1, hx, h2, hn]
  refine hK _ _ _ (by decide +kernel) ?_; clear hK K
  refine gwp_sd mixed rfl (by decide) rfl rfl fun K hK => ?_
  simp -dsimp [w1, h2, h3, h4, h5, hn]
  refine hK _ _ _ (by decide +kernel) ?_; clear hK K
  refine gwp_sr rfl (by decide) rfl rfl fun K hK => ?_
  simp -dsimp
  refine hK _ _ ?_; clear hK K
  exact gwp_ret ⟨[some 0, some 1], rfl, by simp, by simp, by simp, by simp [resP, tupOf]⟩

theorem m_hPush (l : List Fnd) (n : Nat) (x : Fnd) (hn : n ≤ l.length) (hb : l.length ≤ 900000) :
    MutCall Try.prog 60 [qAV, fAV x] [hrow 1 n] [frow l] (.tup []) [hrow 1 (n + 1)] [frow (pushL ltF (l.take n) x)] := by
  have hp := m_lPush l n x hn hb
  have hlen : (l.take n ++ [x]).length = n + 1 := by simp; omega
  have hl := c_lLenT (l.take n ++ [x]) (n + 1) (by omega)
  have w1 : IntKind.i64.wrap (n : Int) = n := wrap_in (by omega) (by omega)
  have hu := m_up (l.take n ++ [x]) (n + 1) n (n + 1) (by omega) (by omega) (by omega) (by omega)
  have hpu : pushL ltF (l.take n) x = upL ltF (n + 1) (l.take n ++ [x]) n := by unfold pushL; rw [List.length_take, Nat.min_eq_left hn]
  rw [hpu]
  generalize l.take n ++ [x] = l' at hp hl hu hlen ⊢
  refine MutCall.of_bodyG [0] Try.func60 rfl (by decide) (by simp [Try.ntmps60]) rfl rfl ?_
  intro J hJ
  simp only [Try.ntmps60, Try.results60]
  refine gwp_sr rfl (by decide) rfl rfl fun K hK => ?_
  simp -dsimp
  refine callK_mut [0] [1] [some 0, none, some 1] (hp) (by decide) rfl (by simp) (by simp) rfl (by simp) ?_
  simp -dsimp
  refine hK _ _ ?_; clear hK K
  refine gwp_r rfl (by decide) rfl rfl fun K hK => ?_
  simp -dsimp [w1]
  refine callK_intro _ (hl) (by simp) ?_
  simp -dsimp [w1]
  refine callK_mut [0] [2] [some 0, none, none, some 1] (hu) (by decide) rfl (by simp) (by simp) rfl (by simp) ?_
  simp -dsimp [w1]
  refine hK _ _ ?_; clear hK K
  try simp only [thenA, inBlockA, reduceIte, Nat.reduceEqDiff, eq_self]
  exact ⟨[some 0, some 3], rfl, by simp, by simp, by simp, by simp [resP, tupOf]⟩

/-- The list behind a taking out, its last element being the one that is taken. -/
def popE (l : List Fnd) (n : Nat) : List Fnd := downL ltF n (swpG l 0 (n - 1)) 0 (n - 1)
theorem popE_len (l : List Fnd) (n : Nat) : (popE l n).length = l.length := by unfold popE; rw [downL_len, swpG_len]

theorem m_hPop (l : List Fnd) (n : Nat) (h1 : 1 ≤ n) (hn : n ≤ l.length) (hb : l.length ≤ 900000) :
    MutCall Try.prog 116 [qAV] [hrow 1 n] [frow l] (fAV (gd (popE l n) (n - 1))) [hrow 1 (n - 1)] [frow (popE l n)] := by
  have hl := c_lLenT l n hn
  have w1 : IntKind.i64.wrap ((n : Int) - 1) = ((n - 1 : Nat) : Int) := by rw [wrap_in (by omega) (by omega)]; omega
  have hs := m_lSwap' l n 0 (n - 1) 0 ((n - 1 : Nat) : Int) rfl rfl (by omega) (by omega) hn
  have hsl := swpG_len l 0 (n - 1)
  obtain ⟨b, hd⟩ := m_down (swpG l 0 (n - 1)) n (n - 1) 0 n (by omega) (by omega) (by omega) (by omega) (by omega)
  have hp := m_lPop (popE l n) n (gd (popE l n) (n - 1)) h1 (by rw [popE_len]; omega) (by rw [popE_len]; omega) (getD_at (by rw [popE_len]; omega))
  have he : downL ltF n (swpG l 0 (n - 1)) 0 (n - 1) = popE l n := rfl
  rw [he] at hd
  generalize gd (popE l n) (n - 1) = x at hp ⊢
  generalize popE l n = l' at hp hd ⊢
  generalize swpG l 0 (n - 1) = l'' at hs hd ⊢
  refine MutCall.of_bodyG [0] Try.func116 rfl (by decide) (by simp [Try.ntmps116]) rfl rfl ?_
  intro J hJ
  simp only [Try.ntmps116, Try.results116]
  refine gwp_sr rfl (by decide) rfl rfl fun K hK => ?_
  simp -dsimp
  refine hK _ _ ?_; clear hK K
  refine gwp_sr rfl (by decide) rfl rfl fun K hK => ?_
  simp -dsimp [w1]
  refine callK_intro _ (hl) (by simp) ?_
  simp -dsimp [w1]
  refine hK _ _ ?_; clear hK K
  refine gwp_sr rfl (by decide) rfl rfl fun K hK => ?_
  simp -dsimp
  refine callK_mut [1] [] [none, some 0] (hs) (by decide) rfl (by simp) (by simp) rfl (by simp) ?_
  simp -dsimp
  refine hK _ _ ?_; clear hK K
  refine gwp_sr rfl (by decide) rfl rfl fun K hK => ?_
  simp -dsimp
  refine callK_mut [0] [1] [some 0, none, some 1] (hd) (by decide) rfl (by simp) (by simp) rfl (by simp) ?_
  simp -dsimp
  refine hK _ _ ?_; clear hK K
  refine gwp_sr rfl (by decide) rfl rfl fun K hK => ?_
  simp -dsimp
  refine callK_mut [0] [2] [some 0, none, none, some 1] (hp) (by decide) rfl (by simp) (by simp) rfl (by simp) ?_
  simp -dsimp
  refine hK _ _ ?_; clear hK K
  exact gwp_ret ⟨[some 0, some 3], rfl, by simp, by simp, by simp, by simp [resP, tupOf]⟩

theorem m_best (l : List Fnd) (n : Nat) (h1 : 1 ≤ n) (hn : n ≤ l.length) (hb : l.length ≤ 900000) :
    MutCall Try.prog 113 [.ptr 0 0 0] [hrow 1 n] [frow l] (gd (popE l n) (n - 1)).av [hrow 1 (n - 1)] [frow (popE l n), frow [gd (popE l n) (n - 1)]] := by
  have hp := m_hPop l n h1 hn hb
  generalize gd (popE l n) (n - 1) = x at hp ⊢
  generalize popE l n = l' at hp ⊢
  refine MutCall.of_bodyG [0] Try.func113 rfl (by decide) (by simp [Try.ntmps113]) rfl rfl ?_
  intro J hJ
  simp only [Try.ntmps113, Try.results113]
  refine gwp_sr rfl (by decide) rfl rfl fun K hK => ?_
  simp -dsimp
  refine hK _ _ ?_; clear hK K
  refine gwp_sr rfl (by decide) rfl rfl fun K hK => ?_
  simp -dsimp
  refine callK_mut [0] [1] [some 0, none, none, some 1] (hp) (by decide) rfl (by simp) (by simp) rfl (by simp) ?_
  simp -dsimp
  refine hK _ _ ?_; clear hK K
  exact gwp_ret ⟨[some 0, some 3, some 2], rfl, by simp, by simp, by simp, by simp [resP, tupOf]⟩
end Go.Tram
