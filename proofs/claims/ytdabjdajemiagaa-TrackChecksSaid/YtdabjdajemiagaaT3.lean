/- Readings of moves and ways. No condition. -/
import Derived.Test.YtdabjdajemiagaaT2
import Derived.Test.YtdabjdajemiagaaY2
namespace Go.Tram
open Go.AM Go.Proofs Go.ChangeShapes Go.WideShapes
set_option maxRecDepth 100000
set_option linter.unusedVariables false
set_option linter.unusedSimpArgs false

theorem sh_bool {n : Nat} {avs : List AV} (h : Shaped Try.prog (n + 1) 4 avs) : ∃ b, avs = [Bo b] := shaped_bool k_bool h
theorem sh_move {n : Nat} {avs : List AV} (h : Shaped Try.prog (n + 2) 52 avs) : ∃ s : Move, avs = s.cells ∧ I64 s.Rail := by
  obtain ⟨h1, h2⟩ := shaped_agg (by kernel_rfl) td52 h
  obtain ⟨a, b, rfl⟩ := list2 h1
  obtain ⟨x, hx, bx⟩ := sh_int (h2 (0, 1, 3) (by simp))
  obtain ⟨y, hy⟩ := sh_bool (h2 (1, 1, 4) (by simp))
  simp at hx hy
  subst hx hy
  exact ⟨⟨x, y⟩, rfl, bx⟩
theorem sh_moves {n : Nat} {avs : List AV} (h : Shaped Try.prog (n + 3) 48 avs) : ∃ l : List Move, avs = [.lst 2 (l.map Move.cells)] ∧ l.length ≤ maxLen ∧ ∀ s ∈ l, I64 s.Rail := by
  obtain ⟨els, hl, hb, he⟩ := shaped_slice (by kernel_rfl) td48 h
  obtain ⟨l, rfl, hR⟩ := list_of (c := Move.cells) (R := fun s => I64 s.Rail) (fun el hel => sh_move (he el hel))
  simp at hl hb
  exact ⟨l, hl, hb, hR⟩
end Go.Tram
