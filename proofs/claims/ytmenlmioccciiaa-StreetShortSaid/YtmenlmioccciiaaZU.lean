/- Walks: sorting few numbers in place, searching in a sorted list. -/
import Derived.Test.YtmenlmioccciiaaZS
namespace Go.Street
open Go.AM Go.Proofs
set_option maxRecDepth 10000
set_option maxHeartbeats 8000000
set_option linter.unusedVariables false
set_option linter.unusedSimpArgs false

def ins (x : Int) : List Int → List Int
  | [] => [x]
  | y :: l => if x < y then x :: y :: l else y :: ins x l
def srt (l : List Int) : List Int := l.foldl (fun s x => ins x s) []
theorem ins_len (x : Int) : ∀ l, (ins x l).length = l.length + 1
  | [] => rfl
  | y :: l => by
    simp only [ins]
    split
    · rfl
    · simp [ins_len x l]
theorem ins_mem (x z : Int) : ∀ l, z ∈ ins x l ↔ z = x ∨ z ∈ l
  | [] => by simp [ins]
  | y :: l => by
    simp only [ins]
    split
    · simp
    · simp only [List.mem_cons, ins_mem x z l]
      constructor
      · rintro (h | h | h) <;> simp [h]
      · rintro (h | h | h) <;> simp [h]
theorem ins_sorted (x : Int) : ∀ l : List Int, l.Pairwise (· ≤ ·) → (ins x l).Pairwise (· ≤ ·)
  | [], _ => by simp [ins]
  | y :: l, h => by
    rw [List.pairwise_cons] at h
    simp only [ins]
    split
    · rename_i hx
      rw [List.pairwise_cons, List.pairwise_cons]
      refine ⟨fun z hz => ?_, h⟩
      rcases List.mem_cons.1 hz with rfl | hz
      · omega
      · have := h.1 z hz; omega
    · rename_i hx
      rw [List.pairwise_cons]
      refine ⟨fun z hz => ?_, ins_sorted x l h.2⟩
      rcases (ins_mem x z l).1 hz with rfl | hz
      · omega
      · exact h.1 z hz
theorem ins_split (x : Int) (B : List Int) (hB : ∀ y ∈ B, x < y) : ∀ A : List Int, (∀ y ∈ A, y ≤ x) → ins x (A ++ B) = A ++ x :: B
  | [], _ => by
    cases B with
    | nil => rfl
    | cons y B => simp only [List.nil_append, ins]; rw [if_pos (hB y (by simp))]
  | a :: A, h => by
    simp only [List.cons_append, ins]
    rw [if_neg (by have := h a (by simp); omega), ins_split x B hB A fun y hy => h y (by simp [hy])]
theorem srt_take {l : List Int} {i : Nat} {x : Int} (h : l[i]? = some x) : srt (l.take (i + 1)) = ins x (srt (l.take i)) := by
  rw [List.take_add_one, h]; simp [srt]
theorem srt_len (l : List Int) : (srt l).length = l.length := by
  have gen : ∀ (l s : List Int), (l.foldl (fun s x => ins x s) s).length = s.length + l.length := by
    intro l
    induction l with
    | nil => simp
    | cons x l ih => intro s; rw [List.foldl_cons, ih, ins_len]; simp; omega
  have := gen l []
  simpa [srt] using this
theorem srt_sorted (l : List Int) : (srt l).Pairwise (· ≤ ·) := by
  have gen : ∀ (l s : List Int), s.Pairwise (· ≤ ·) → (l.foldl (fun s x => ins x s) s).Pairwise (· ≤ ·) := by
    intro l
    induction l with
    | nil => intro s h; exact h
    | cons x l ih => intro s h; exact ih _ (ins_sorted x s h)
  exact gen l [] List.Pairwise.nil

theorem srt_le {L : List Int} (h : L.Pairwise (· ≤ ·)) {j : Nat} {y : Int} (hy : L[j]? = some y) : ∀ a ∈ L.take (j + 1), a ≤ y := by
  intro a ha
  obtain ⟨hj, he⟩ := List.getElem?_eq_some_iff.1 hy
  rw [List.take_add_one, hy] at ha
  rcases List.mem_append.1 ha with ha | ha
  · have hs : L = L.take j ++ y :: L.drop (j + 1) := by rw [← he, List.getElem_cons_drop, List.take_append_drop]
    rw [hs, List.pairwise_append] at h
    exact h.2.2 a ha y (by simp)
  · simp at ha; omega

/-- A number on its way down. -/
def wayL (L : List Int) (x : Int) (R : List Int) (j : Nat) : List Int := L.take j ++ x :: (L.drop j ++ R)
theorem wayL_at {L : List Int} {x : Int} {R : List Int} {j : Nat} (h : j ≤ L.length) : (wayL L x R j)[j]? = some x := by
  unfold wayL
  rw [List.getElem?_append_right (by simp; omega)]
  simp [Nat.min_eq_left h]
theorem wayL_before {L : List Int} {x y : Int} {R : List Int} {j : Nat} (h : L[j]? = some y) : (wayL L x R (j + 1))[j]? = some y := by
  have hj := (List.getElem?_eq_some_iff.1 h).1
  unfold wayL
  rw [List.getElem?_append_left (by simp; omega), List.getElem?_take]
  simp [h]
theorem wayL_swap {L : List Int} {x y : Int} {R : List Int} {j : Nat} (h : L[j]? = some y) : ((wayL L x R (j + 1)).set (j + 1) y).set j x = wayL L x R j := by
  obtain ⟨hj, hy⟩ := List.getElem?_eq_some_iff.1 h
  have h1 : L.take (j + 1) = L.take j ++ [y] := by rw [List.take_add_one, h]; rfl
  have h2 : L.drop j = y :: L.drop (j + 1) := by rw [List.drop_eq_getElem_cons hj, hy]
  have hl : (L.take j).length = j := by rw [List.length_take]; omega
  unfold wayL
  rw [h1, h2, List.append_assoc, List.set_append, if_neg (by omega), List.set_append, if_neg (by omega), hl]
  simp
theorem wayL_len {L : List Int} {x : Int} {R : List Int} {j : Nat} : (wayL L x R j).length = L.length + 1 + R.length := by
  unfold wayL
  simp only [List.length_append, List.length_take, List.length_cons, List.length_drop]; omega

theorem m_isort (xs : List Int) (h1 : 1 ≤ xs.length) (hn : xs.length ≤ 1000) : MutCall Try.prog 106 [.row 0 0 xs.length, I 0, I xs.length] [some (.els 1 (xs.map nCell))] [] (.tup []) [some (.els 1 ((srt xs).map nCell))] [] := by
  have w01 : IntKind.i64.wrap 1 = 1 := wrap_in (by omega) (by omega)
  have wm1 : IntKind.i64.wrap (-1) = -1 := wrap_in (by omega) (by omega)
  refine MutCall.of_bodyG [0] Try.func106 rfl (by decide) (by simp [Try.ntmps106]) rfl rfl ?_
  intro J hJ
  simp only [Try.ntmps106, Try.results106]
  refine gwp_sr rfl (by decide) rfl rfl fun K hK => ?_
  simp -dsimp [w01]
  refine hK _ _ ?_; clear hK K
  refine gwp_block ?_
  refine gwp_prune [0, 1, 2, 6] (Or.inr (by simp)) ?_
  simp only [prune, List.map_cons, List.map_nil, Go.AM.look, Nat.reduceEqDiff, reduceIte]
  refine gwp_loop_l [0, 1, 2] (α := Nat) (fun i => [(6, I i)]) (fun i => [some (.els 1 ((srt (xs.take i) ++ xs.drop i).map nCell))]) (fun i => 1 ≤ i ∧ i ≤ xs.length) (fun i => xs.length - i) 1 ?_ ?_ ?_
  · exact ⟨Nat.le_refl _, h1⟩
  · refine gsub (sub_rb [some 0] rfl (by simp) ?_) (by simp)
    obtain ⟨x, l, rfl⟩ : ∃ x l, xs = x :: l := by cases xs with | nil => simp at h1 | cons x l => exact ⟨x, l, rfl⟩
    simp [srt, ins]
  rintro i ⟨i1, i2⟩
  simp only [List.cons_append, List.nil_append, prune, List.map_cons, List.map_nil, Go.AM.look, Nat.reduceEqDiff, reduceIte]
  refine gwp_seq_k fun K1 hK1 => ?_
  refine gwp_sr rfl (by decide) rfl rfl fun K hK => ?_
  simp -dsimp
  refine hK _ _ ?_; clear hK K
  refine gwp_cond rfl (fun hc0 => ?_) (fun hc0 => ?_)
  · skip
    try simp at hc0
    have wi : IntKind.i64.wrap ((i : Int) + 1) = (i : Int) + 1 := wrap_in (by omega) (by omega)
    obtain ⟨x, hx⟩ : ∃ x, xs[i]? = some x := ⟨_, List.getElem?_eq_getElem hc0⟩
    obtain ⟨hxi, hxe⟩ := List.getElem?_eq_some_iff.1 hx
    have hdr : xs.drop i = x :: xs.drop (i + 1) := by rw [List.drop_eq_getElem_cons hxi, hxe]
    have hdm : (xs.map nCell).drop i = [I x] :: (xs.drop (i + 1)).map nCell := by rw [← List.map_drop, hdr]; rfl
    have hst := srt_take hx
    have hsl : (srt (xs.take i)).length = i := by rw [srt_len, List.length_take]; omega
    have hso := srt_sorted (xs.take i)
    generalize srt (xs.take i) = L at hst hsl hso ⊢
    generalize hR : xs.drop (i + 1) = R at hdr hdm ⊢
    have hRl : R.length = xs.length - (i + 1) := by rw [← hR, List.length_drop]
    refine gwp_skip ?_
    simp only [thenA, inBlockA, reduceIte, Nat.reduceEqDiff, eq_self]
    refine hK1 _ _ ?_
    refine gwp_prune [0, 1, 2, 6] (Or.inr (by simp)) ?_
    simp only [prune, List.map_cons, List.map_nil, Go.AM.look, Nat.reduceEqDiff, reduceIte]
    refine gwp_seq_k fun K2 hK2 => ?_
    refine gwp_block ?_
    refine gwp_sr rfl (by decide) rfl rfl fun K hK => ?_
    simp -dsimp
    refine hK _ _ ?_; clear hK K
    refine gwp_block ?_
    refine gwp_prune [0, 1, 2, 6, 7] (Or.inr (by simp)) ?_
    simp only [prune, List.map_cons, List.map_nil, Go.AM.look, Nat.reduceEqDiff, reduceIte]
    refine gwp_loop_l [0, 1, 2, 6] (α := Nat) (fun j => [(7, I j)]) (fun j => [some (.els 1 ((wayL L x R j).map nCell))]) (fun j => j ≤ i ∧ ∀ y ∈ L.drop j, x < y) (fun j => j) i ?_ ?_ ?_
    · exact ⟨Nat.le_refl _, by rw [List.drop_of_length_le (by omega)]; simp⟩
    · refine gsub (sub_rb [some 0] rfl (by simp) ?_) (by simp)
      simp [wayL, hdm, List.take_of_length_le (show L.length ≤ i by omega), List.drop_of_length_le (show L.length ≤ i by omega)]
    rintro j ⟨j1, j2⟩
    rcases j with _ | j
    rotate_left
    obtain ⟨y, hy⟩ : ∃ y, L[j]? = some y := ⟨_, List.getElem?_eq_getElem (by omega)⟩
    have gj := wayL_at (L := L) (x := x) (R := R) (j := j + 1) (by omega)
    have gb := wayL_before (x := x) (R := R) hy
    have wj : IntKind.i64.wrap (j : Int) = j := wrap_in (by omega) (by omega)
    have hj1 : j + 1 < xs.length := by omega
    have hj0 : j < xs.length := by omega
    have hdj : L.drop j = y :: L.drop (j + 1) := by obtain ⟨hh, he⟩ := List.getElem?_eq_some_iff.1 hy; rw [List.drop_eq_getElem_cons hh, he]
    rotate_left
    · skip
      simp only [List.cons_append, List.nil_append, prune, List.map_cons, List.map_nil, Go.AM.look, Nat.reduceEqDiff, reduceIte]
      refine gwp_seq_k fun K3 hK3 => ?_
      refine gwp_sd mixed rfl (by decide) rfl rfl fun K hK => ?_
      simp -dsimp [wayL_at (L := L) (x := x) (R := R) (Nat.zero_le _), wm1]
      refine callK_may _ (fun hm => c_Less x x) (by simp) ?_
      simp -dsimp [wayL_at (L := L) (x := x) (R := R) (Nat.zero_le _), wm1]
      refine hK _ _ _ (by decide +kernel) ?_; clear hK K
      refine gwp_cond rfl (fun hc1 => ?_) (fun hc1 => ?_)
      · skip
        skip
        simp at hc1
      · skip
        skip
        have hfin : ins x L = x :: L := by have := ins_split x L (by simpa using j2) [] (by simp); simpa using this
        have he : srt (xs.take (i + 1)) ++ xs.drop (i + 1) = wayL L x R 0 := by rw [hst, hR, hfin]; simp [wayL]
        refine gwp_exit ?_
        simp only [thenA, inBlockA, reduceIte, Nat.reduceEqDiff, eq_self]
        refine hK2 _ _ ?_
        refine gwp_prune [0, 1, 2, 6] (Or.inr (by simp)) ?_
        simp only [prune, List.map_cons, List.map_nil, Go.AM.look, Nat.reduceEqDiff, reduceIte]
        refine gwp_r rfl (by decide) rfl rfl fun K hK => ?_
        simp -dsimp [wi]
        refine hK _ _ ?_; clear hK K
        simp only [thenA, inBlockA, reduceIte, Nat.reduceEqDiff, eq_self]
        exact ⟨i + 1, ⟨by omega, by omega⟩, by omega, gsub (sub_rb [some 0] rfl (by simp) (by simp only [he]; simp)) (by simp)⟩
    · skip
      simp only [List.cons_append, List.nil_append, prune, List.map_cons, List.map_nil, Go.AM.look, Nat.reduceEqDiff, reduceIte]
      refine gwp_seq_k fun K4 hK4 => ?_
      refine gwp_sd mixed rfl (by decide) rfl rfl fun K hK => ?_
      simp -dsimp [gj, gb, wj, hj1, hj0]
      refine ⟨by omega, ?_⟩
      try simp -dsimp [gj, gb, wj, hj1, hj0]
      refine callK_may _ (fun hm => c_Less x y) (by simp) ?_
      simp -dsimp [gj, gb, wj, hj1, hj0]
      refine hK _ _ _ (by decide +kernel) ?_; clear hK K
      refine gwp_cond rfl (fun hc1 => ?_) (fun hc1 => ?_)
      · skip
        skip
        try simp at hc1
        refine gwp_skip ?_
        simp only [thenA, inBlockA, reduceIte, Nat.reduceEqDiff, eq_self]
        refine hK4 _ _ ?_
        refine gwp_prune [0, 1, 2, 6, 7] (Or.inr (by simp)) ?_
        simp only [prune, List.map_cons, List.map_nil, Go.AM.look, Nat.reduceEqDiff, reduceIte]
        refine gwp_seq_k fun K5 hK5 => ?_
        refine gwp_block ?_
        refine gwp_draw mixed rfl (by decide) rfl rfl fun K hK => ?_
        simp -dsimp [gj, gb, wj, hj1, hj0]
        repeat (refine ⟨by omega, ?_⟩; try simp -dsimp [gj, gb, wj, hj1, hj0])
        refine hK _ _ _ (by decide +kernel) ?_; clear hK K
        simp only [thenA, inBlockA, reduceIte, Nat.reduceEqDiff, eq_self]
        refine hK5 _ _ ?_
        refine gwp_prune [0, 1, 2, 6, 7] (Or.inr (by simp)) ?_
        simp only [prune, List.map_cons, List.map_nil, Go.AM.look, Nat.reduceEqDiff, reduceIte]
        refine gwp_r rfl (by decide) rfl rfl fun K hK => ?_
        simp -dsimp [wj]
        refine hK _ _ ?_; clear hK K
        simp only [thenA, inBlockA, reduceIte, Nat.reduceEqDiff, eq_self]
        have hsw : (((wayL L x R (j + 1)).map nCell).set (j + 1) [I y]).set j [I x] = (wayL L x R j).map nCell := by rw [← wayL_swap hy, List.map_set, List.map_set]; rfl
        exact ⟨j, ⟨by omega, by intro z hz; rw [hdj] at hz; rcases List.mem_cons.1 hz with rfl | hz; exact hc1; exact j2 z hz⟩, by omega, gsub (sub_rb [some 0] rfl (by simp) (by simp [hsw])) (by simp)⟩
      · skip
        skip
        try simp at hc1
        have hfin : ins x L = L.take (j + 1) ++ x :: L.drop (j + 1) := by have := ins_split x (L.drop (j + 1)) j2 (L.take (j + 1)) (fun a ha => Int.le_trans (srt_le hso hy a ha) hc1); rwa [List.take_append_drop] at this
        have he : srt (xs.take (i + 1)) ++ xs.drop (i + 1) = wayL L x R (j + 1) := by rw [hst, hR, hfin]; simp [wayL]
        refine gwp_exit ?_
        simp only [thenA, inBlockA, reduceIte, Nat.reduceEqDiff, eq_self]
        refine hK2 _ _ ?_
        refine gwp_prune [0, 1, 2, 6] (Or.inr (by simp)) ?_
        simp only [prune, List.map_cons, List.map_nil, Go.AM.look, Nat.reduceEqDiff, reduceIte]
        refine gwp_r rfl (by decide) rfl rfl fun K hK => ?_
        simp -dsimp [wi]
        refine hK _ _ ?_; clear hK K
        simp only [thenA, inBlockA, reduceIte, Nat.reduceEqDiff, eq_self]
        exact ⟨i + 1, ⟨by omega, by omega⟩, by omega, gsub (sub_rb [some 0] rfl (by simp) (by simp only [he]; simp)) (by simp)⟩
  · skip
    try simp at hc0
    have hie : i = xs.length := by omega
    subst hie
    refine gwp_exit ?_
    try simp only [thenA, inBlockA, reduceIte, Nat.reduceEqDiff, eq_self]
    exact ⟨[some 0], rfl, by simp, by simp, by simp [h1], by simp [resP, tupOf]⟩

theorem und_int : (Try.prog).underlying 3 = some (.int .i64) := by kernel_rfl
theorem und_u64 : (Try.prog).underlying 146 = some (.int .u64) := by kernel_rfl
theorem und_str : (Try.prog).underlying 9 = some .string := by kernel_rfl
theorem und_u8 : (Try.prog).underlying 5 = some (.int .u8) := by kernel_rfl
theorem und_uint : (Try.prog).underlying 120 = some (.int .u64) := by kernel_rfl
theorem str_index (s : ByteArray) (n : Int) (h0 : 0 ≤ n) (h1 : n.toNat < s.size) (w : World) : (Instr.index 9 (.string s) (.int .u8 n)).run Try.prog w = .ok (.int .u8 (s[n.toNat]).toNat) w := by
  have hs : s[n.toNat]? = some s[n.toNat] := getElem?_pos s n.toNat h1
  simp [Instr.index, asIntOf, run_underlying und_str, h0, hs]
theorem conv_in (n : Int) (w : World) : (convert 3 120 (.int .i64 n)).run Try.prog w = .ok (.int .u64 (IntKind.u64.wrap n)) w := by
  simp [convert, run_underlying und_int, run_underlying und_uint, Conv.intToInt]
theorem conv_u8 (n : Int) (w : World) : (convert 146 5 (.int .u64 n)).run Try.prog w = .ok (.int .u8 (IntKind.u8.wrap n)) w := by
  simp [convert, run_underlying und_u64, run_underlying und_u8, Conv.intToInt]
theorem conv_8i (n : Int) (w : World) : (convert 5 3 (.int .u8 n)).run Try.prog w = .ok (.int .i64 (IntKind.i64.wrap n)) w := by
  simp [convert, run_underlying und_int, run_underlying und_u8, Conv.intToInt]

abbrev U (n : Int) : AV := .v (.int .u64 n)
theorem u64_in {n : Int} (h0 : 0 ≤ n) (h1 : n < 18446744073709551616) : IntKind.u64.wrap n = n := by rw [IntKind.wrap_u64]; omega
theorem c_Len64 (n : Int) (h0 : 0 ≤ n) (h1 : n ≤ 200) : ∃ k, PureCall Try.prog 115 [U n] (I k) := by
  have w8 : IntKind.u8.wrap n = n := by rw [IntKind.wrap_u8]; omega
  have h2 : ¬ 4294967296 ≤ n := by omega
  have h3 : ¬ 65536 ≤ n := by omega
  have h4 : ¬ 256 ≤ n := by omega
  apply Exists.intro
  refine PureCall.of_body Try.func115 rfl (by decide) (by simp [Try.ntmps115]) ?_
  simp only [Try.ntmps115, Try.results115]
  refine awp_sr rfl fun K hK => ?_
  simp -dsimp
  refine hK _ _ ?_; clear hK K
  refine awp_seq_k fun K1 hK1 => ?_
  refine awp_sr rfl fun K hK => ?_
  simp -dsimp
  refine hK _ _ ?_; clear hK K
  refine awp_cond rfl (fun hc0 => ?_) (fun hc0 => ?_)
  · skip
    try simp at hc0
    omega
  · skip
    try simp at hc0
    refine awp_skip ?_
    simp only [thenA, inBlockA, reduceIte, Nat.reduceEqDiff, eq_self]
    refine hK1 _ _ ?_
    refine awp_prune [0, 2] ?_
    simp only [prune, List.map_cons, List.map_nil, Go.AM.look, Nat.reduceEqDiff, reduceIte]
    refine awp_seq_k fun K2 hK2 => ?_
    refine awp_sr rfl fun K hK => ?_
    simp -dsimp
    refine hK _ _ ?_; clear hK K
    refine awp_cond rfl (fun hc1 => ?_) (fun hc1 => ?_)
    · skip
      try simp at hc1
      omega
    · skip
      try simp at hc1
      refine awp_skip ?_
      simp only [thenA, inBlockA, reduceIte, Nat.reduceEqDiff, eq_self]
      refine hK2 _ _ ?_
      refine awp_prune [0, 2] ?_
      simp only [prune, List.map_cons, List.map_nil, Go.AM.look, Nat.reduceEqDiff, reduceIte]
      refine awp_seq_k fun K3 hK3 => ?_
      refine awp_sr rfl fun K hK => ?_
      simp -dsimp
      refine hK _ _ ?_; clear hK K
      refine awp_cond rfl (fun hc2 => ?_) (fun hc2 => ?_)
      · skip
        try simp at hc2
        omega
      · skip
        try simp at hc2
        refine awp_skip ?_
        simp only [thenA, inBlockA, reduceIte, Nat.reduceEqDiff, eq_self]
        refine hK3 _ _ ?_
        refine awp_prune [0, 2] ?_
        simp only [prune, List.map_cons, List.map_nil, Go.AM.look, Nat.reduceEqDiff, reduceIte]
        refine awp_sr rfl fun K hK => ?_
        simp -dsimp
        refine ⟨_, conv_u8 n, ?_⟩
        try simp -dsimp [w8]
        refine ⟨_, str_index _ n h0 (Nat.lt_of_lt_of_le (show n.toNat < 256 by omega) (by decide +kernel)), ?_⟩
        try simp -dsimp
        refine ⟨_, conv_8i _, ?_⟩
        try simp -dsimp
        refine hK _ _ ?_; clear hK K
        exact awp_ret rfl
theorem c_Len (n : Int) (h0 : 0 ≤ n) (h1 : n ≤ 200) : ∃ k, PureCall Try.prog 101 [U n] (I k) := by
  obtain ⟨k, hk⟩ := c_Len64 n h0 h1
  refine ⟨k, ?_⟩
  refine PureCall.of_body Try.func101 rfl (by decide) (by simp [Try.ntmps101]) ?_
  simp only [Try.ntmps101, Try.results101]
  refine awp_sr rfl fun K hK => ?_
  simp -dsimp
  refine hK _ _ ?_; clear hK K
  refine awp_seq_k fun K1 hK1 => ?_
  refine awp_cond rfl (fun hc0 => ?_) (fun hc0 => ?_)
  · skip
    skip
    simp at hc0
  · skip
    skip
    refine awp_skip ?_
    simp only [thenA, inBlockA, reduceIte, Nat.reduceEqDiff, eq_self]
    refine hK1 _ _ ?_
    refine awp_prune [0] ?_
    simp only [prune, List.map_cons, List.map_nil, Go.AM.look, Nat.reduceEqDiff, reduceIte]
    refine awp_sr rfl fun K hK => ?_
    simp -dsimp
    refine callK_intro _ (hk) (by simp) ?_
    simp -dsimp
    refine hK _ _ ?_; clear hK K
    exact awp_ret (by simp)

theorem m_pdq (xs : List Int) (k : Int) (h1 : 1 ≤ xs.length) (hn : xs.length ≤ 12) : MutCall Try.prog 100 [.row 0 0 xs.length, I 0, I xs.length, I k] [some (.els 1 (xs.map nCell))] [] (.tup []) [some (.els 1 ((srt xs).map nCell))] [] := by
  have hs := m_isort xs h1 (by omega)
  have wl : IntKind.i64.wrap (xs.length : Int) = xs.length := wrap_in (by omega) (by omega)
  refine MutCall.of_bodyG [0] Try.func100 rfl (by decide) (by simp [Try.ntmps100]) rfl rfl ?_
  intro J hJ
  simp only [Try.ntmps100, Try.results100]
  refine gwp_sr rfl (by decide) rfl rfl fun K hK => ?_
  simp -dsimp
  refine hK _ _ ?_; clear hK K
  refine gwp_sr rfl (by decide) rfl rfl fun K hK => ?_
  simp -dsimp
  refine hK _ _ ?_; clear hK K
  refine gwp_block ?_
  refine gwp_prune [0, 1, 2, 3, 8, 9] (Or.inr (by simp)) ?_
  simp only [prune, List.map_cons, List.map_nil, Go.AM.look, Nat.reduceEqDiff, reduceIte]
  refine gwp_loop_l [0] (α := Unit) (fun _ => [(1, I 0), (2, I xs.length), (3, I k), (8, Bo true), (9, Bo true)]) (fun _ => [some (.els 1 (xs.map nCell))]) (fun _ => True) (fun _ => 0) () ?_ ?_ ?_
  · simp
  · exact gsub (sub_same (by simp)) (by simp)
  rintro u -
  simp only [List.cons_append, List.nil_append, prune, List.map_cons, List.map_nil, Go.AM.look, Nat.reduceEqDiff, reduceIte]
  refine gwp_block ?_
  refine gwp_sr rfl (by decide) rfl rfl fun K hK => ?_
  simp -dsimp [wl]
  refine hK _ _ ?_; clear hK K
  refine gwp_seq_k fun K1 hK1 => ?_
  refine gwp_sr rfl (by decide) rfl rfl fun K hK => ?_
  simp -dsimp
  refine hK _ _ ?_; clear hK K
  refine gwp_cond rfl (fun hc0 => ?_) (fun hc0 => ?_)
  · skip
    try simp at hc0
    refine gwp_sr rfl (by decide) rfl rfl fun K hK => ?_
    simp -dsimp
    refine callK_mut [0] [] [some 0] (hs) (by decide) rfl (by simp) (by simp) rfl (by simp) ?_
    simp -dsimp
    refine hK _ _ ?_; clear hK K
    exact gwp_ret ⟨[some 0], rfl, by simp, by simp, by simp [h1], by simp [resP, tupOf]⟩
  · skip
    try simp at hc0
    omega

theorem m_Sort (xs : List Int) (h1 : 1 ≤ xs.length) (hn : xs.length ≤ 12) : MutCall Try.prog 81 [.row 0 0 xs.length] [some (.els 1 (xs.map nCell))] [] (.tup []) [some (.els 1 ((srt xs).map nCell))] [] := by
  obtain ⟨k, hk⟩ := c_Len xs.length (by omega) (by omega)
  have hs := m_pdq xs k h1 hn
  have wu : IntKind.u64.wrap (xs.length : Int) = xs.length := u64_in (by omega) (by omega)
  refine MutCall.of_bodyG [0] Try.func81 rfl (by decide) (by simp [Try.ntmps81]) rfl rfl ?_
  intro J hJ
  simp only [Try.ntmps81, Try.results81]
  refine gwp_sr rfl (by decide) rfl rfl fun K hK => ?_
  simp -dsimp
  refine hK _ _ ?_; clear hK K
  refine gwp_r rfl (by decide) rfl rfl fun K hK => ?_
  simp -dsimp
  refine ⟨_, conv_in _, ?_⟩
  simp -dsimp [wu]
  refine callK_intro _ (hk) (by simp) ?_
  simp -dsimp
  refine callK_mut [0] [] [some 0] (hs) (by decide) rfl (by simp) (by simp) rfl (by simp) ?_
  simp -dsimp
  refine hK _ _ ?_; clear hK K
  try simp only [thenA, inBlockA, reduceIte, Nat.reduceEqDiff, eq_self]
  exact ⟨[some 0], rfl, by simp, by simp, by simp [h1], by simp [resP, tupOf]⟩

theorem c_isort0 : PureCall Try.prog 106 [.lst 1 [], I 0, I 0] (.tup []) := by
  have w01 : IntKind.i64.wrap 1 = 1 := wrap_in (by omega) (by omega)
  refine PureCall.of_body Try.func106 rfl (by decide) (by simp [Try.ntmps106]) ?_
  simp only [Try.ntmps106, Try.results106]
  refine awp_sr rfl fun K hK => ?_
  simp -dsimp [w01]
  refine hK _ _ ?_; clear hK K
  refine awp_block ?_
  refine awp_prune [0, 1, 2, 6] ?_
  simp only [prune, List.map_cons, List.map_nil, Go.AM.look, Nat.reduceEqDiff, reduceIte]
  refine awp_loop_l [0, 1, 2] (α := Unit) (fun i => [(6, I 1)]) (fun i => []) (fun i => True) (fun i => 0) () ?_ ?_ ?_
  · simp
  · exact sub_same (by simp)
  rintro u -
  simp only [List.cons_append, List.nil_append, prune, List.map_cons, List.map_nil, Go.AM.look, Nat.reduceEqDiff, reduceIte]
  refine awp_seq_k fun K1 hK1 => ?_
  refine awp_sr rfl fun K hK => ?_
  simp -dsimp
  refine hK _ _ ?_; clear hK K
  refine awp_cond rfl (fun hc0 => ?_) (fun hc0 => ?_)
  · skip
    skip
    simp at hc0
  · skip
    skip
    refine awp_exit ?_
    try simp only [thenA, inBlockA, reduceIte, Nat.reduceEqDiff, eq_self]
    simp [resP, tupOf]
theorem c_pdq0 (k : Int) : PureCall Try.prog 100 [.lst 1 [], I 0, I 0, I k] (.tup []) := by
  have wl : IntKind.i64.wrap 0 = 0 := wrap_in (by omega) (by omega)
  refine PureCall.of_body Try.func100 rfl (by decide) (by simp [Try.ntmps100]) ?_
  simp only [Try.ntmps100, Try.results100]
  refine awp_sr rfl fun K hK => ?_
  simp -dsimp
  refine hK _ _ ?_; clear hK K
  refine awp_sr rfl fun K hK => ?_
  simp -dsimp
  refine hK _ _ ?_; clear hK K
  refine awp_block ?_
  refine awp_prune [0, 1, 2, 3, 8, 9] ?_
  simp only [prune, List.map_cons, List.map_nil, Go.AM.look, Nat.reduceEqDiff, reduceIte]
  refine awp_loop_l [0] (α := Unit) (fun _ => [(1, I 0), (2, I 0), (3, I k), (8, Bo true), (9, Bo true)]) (fun _ => []) (fun _ => True) (fun _ => 0) () ?_ ?_ ?_
  · simp
  · exact sub_same (by simp)
  rintro u -
  simp only [List.cons_append, List.nil_append, prune, List.map_cons, List.map_nil, Go.AM.look, Nat.reduceEqDiff, reduceIte]
  refine awp_block ?_
  refine awp_sr rfl fun K hK => ?_
  simp -dsimp [wl]
  refine hK _ _ ?_; clear hK K
  refine awp_seq_k fun K1 hK1 => ?_
  refine awp_sr rfl fun K hK => ?_
  simp -dsimp
  refine hK _ _ ?_; clear hK K
  refine awp_cond rfl (fun hc0 => ?_) (fun hc0 => ?_)
  · skip
    skip
    refine awp_sr rfl fun K hK => ?_
    simp -dsimp
    refine callK_intro _ (c_isort0) (by simp) ?_
    simp -dsimp
    refine hK _ _ ?_; clear hK K
    exact awp_ret (by simp [resP, tupOf])
  · skip
    skip
    simp at hc0
theorem c_Sort0 : PureCall Try.prog 81 [.lst 1 []] (.tup []) := by
  obtain ⟨k, hk⟩ := c_Len 0 (by omega) (by omega)
  have wu : IntKind.u64.wrap 0 = 0 := u64_in (by omega) (by omega)
  refine PureCall.of_body Try.func81 rfl (by decide) (by simp [Try.ntmps81]) ?_
  simp only [Try.ntmps81, Try.results81]
  refine awp_sr rfl fun K hK => ?_
  simp -dsimp
  refine hK _ _ ?_; clear hK K
  refine awp_r rfl fun K hK => ?_
  simp -dsimp
  refine ⟨_, conv_in _, ?_⟩
  simp -dsimp [wu]
  refine callK_intro _ (hk) (by simp) ?_
  simp -dsimp
  refine callK_intro _ (c_pdq0 k) (by simp) ?_
  simp -dsimp
  refine hK _ _ ?_; clear hK K
  try simp only [thenA, inBlockA, reduceIte, Nat.reduceEqDiff, eq_self]
  simp [resP, tupOf]

theorem c_Values (l : List Int) : PureCall Try.prog 54 [iL l] (.clo 82 [.iptr [iL l]]) := by
  refine PureCall.of_body Try.func54 rfl (by decide) (by simp [Try.ntmps54]) ?_
  simp only [Try.ntmps54, Try.results54]
  refine awp_sr rfl fun K hK => ?_
  simp -dsimp
  refine hK _ _ ?_; clear hK K
  refine awp_sr rfl fun K hK => ?_
  simp -dsimp
  refine hK _ _ ?_; clear hK K
  exact awp_ret (by simp)
def vAV (x : Int) : List AV := [I x]
theorem vAV_len (l : List Int) : ∀ z ∈ l.map vAV, z.length = 1 := by
  intro z hz
  obtain ⟨q, _, rfl⟩ := List.mem_map.1 hz
  rfl
theorem c_Values1 (xs : List Int) (hn : xs.length ≤ 1000) : IterCall Try.prog 82 [.iptr [iL xs]] (xs.map vAV) := by
  refine IterCall.of_body Try.func82 rfl (by decide) (by simp [Try.ntmps82]) (by simp [Try.ntmps82]) (by simp [Try.results82]) ?_
  intro J l hmk hY
  simp only [Try.ntmps82, Try.results82]
  refine gwp_sr rfl (by decide) rfl rfl fun K hK => ?_
  simp -dsimp
  refine hK _ _ ?_; clear hK K
  refine gwp_block ?_
  refine gwp_prune [0, 5, 6, 7, 999999] (Or.inl (by decide)) ?_
  simp only [prune, List.map_cons, List.map_nil, Go.AM.look, Nat.reduceEqDiff, reduceIte]
  refine gwp_loop_l [0, 5, 6] (α := Nat) (fun k => [(7, I k), (999999, cntV k)]) (fun k => []) (fun k => k ≤ xs.length) (fun k => xs.length - k) 0 ?_ ?_ ?_
  · exact Nat.zero_le _
  · exact gsub (sub_same (by simp)) (by simp)
  rintro k k1
  simp only [List.cons_append, List.nil_append, prune, List.map_cons, List.map_nil, Go.AM.look, Nat.reduceEqDiff, reduceIte]
  refine gwp_sr rfl (by decide) rfl rfl fun K hK => ?_
  simp -dsimp
  refine hK _ _ ?_; clear hK K
  refine gwp_seq_k fun K1 hK1 => ?_
  refine gwp_cond rfl (fun hc0 => ?_) (fun hc0 => ?_)
  · skip
    try simp at hc0
    obtain ⟨x, hx⟩ : ∃ x, xs[k]? = some x := ⟨_, List.getElem?_eq_getElem hc0⟩
    have wk : IntKind.i64.wrap ((k : Int) + 1) = (k : Int) + 1 := wrap_in (by omega) (by omega)
    refine gwp_skip ?_
    simp only [thenA, inBlockA, reduceIte, Nat.reduceEqDiff, eq_self]
    refine hK1 _ _ ?_
    refine gwp_prune [0, 5, 6, 7, 999999] (Or.inl (by decide)) ?_
    simp only [prune, List.map_cons, List.map_nil, Go.AM.look, Nat.reduceEqDiff, reduceIte]
    refine gwp_seq_k fun K2 hK2 => ?_
    refine gwp_block ?_
    refine gwp_sr rfl (by decide) rfl rfl fun K hK => ?_
    simp -dsimp [hx]
    refine hK _ _ ?_; clear hK K
    refine gwp_sy hmk hY rfl (by decide) rfl rfl fun K hK => ?_
    simp -dsimp
    refine yK_intro (by rw [List.getElem?_map, hx]; rfl) ?_ ?_
    · refine hK _ _ ?_; clear hK K
      refine gwp_cond rfl (fun hc1 => ?_) (fun hc1 => ?_)
      · skip
        skip
        simp at hc1
      · skip
        skip
        refine gwp_skip ?_
        simp only [thenA, inBlockA, reduceIte, Nat.reduceEqDiff, eq_self]
        refine hK2 _ _ ?_
        refine gwp_prune [0, 5, 6, 7, 999999] (Or.inl (by decide)) ?_
        simp only [prune, List.map_cons, List.map_nil, Go.AM.look, Nat.reduceEqDiff, reduceIte]
        refine gwp_r rfl (by decide) rfl rfl fun K hK => ?_
        simp -dsimp [wk]
        refine hK _ _ ?_; clear hK K
        simp only [thenA, inBlockA, reduceIte, Nat.reduceEqDiff, eq_self]
        exact ⟨k + 1, by omega, by omega, gsub (sub_rb [] rfl (by simp) (by simp)) (by simp)⟩
    · refine hK _ _ ?_; clear hK K
      refine gwp_cond rfl (fun hc1 => ?_) (fun hc1 => ?_)
      · skip
        skip
        exact gwp_ret (by simp)
      · skip
        skip
        simp at hc1
  · skip
    try simp at hc0
    have hke : k = xs.length := by omega
    subst hke
    refine gwp_exit ?_
    try simp only [thenA, inBlockA, reduceIte, Nat.reduceEqDiff, eq_self]
    simp
theorem m_AppendSeq (l : List Int) (hn : l.length ≤ 1000) : MutCall Try.prog 99 [.v (.slice none 0 0), .clo 82 [.iptr [iL l]]] [] [] (.row 0 0 l.length) [] [some (.els 1 (l.map nCell))] := by
  have hit := c_Values1 l hn
  refine MutCall.of_bodyG [] Try.func99 rfl (by decide) (by simp [Try.ntmps99]) rfl rfl ?_
  intro J hJ
  simp only [Try.ntmps99, Try.results99]
  refine gwp_sr rfl (by decide) rfl rfl fun K hK => ?_
  simp -dsimp
  refine hK _ _ ?_; clear hK K
  refine gwp_seq_k fun K1 hK1 => ?_
  refine gwp_sr rfl (by decide) rfl rfl fun K hK => ?_
  simp -dsimp
  refine hK _ _ ?_; clear hK K
  refine gwp_block ?_
  refine gwp_prune [2, 6] (Or.inr (by simp)) ?_
  simp only [prune, List.map_cons, List.map_nil, Go.AM.look, Nat.reduceEqDiff, reduceIte]
  refine gwp_range_s hJ [2, 6] (fun n => [some (.els 1 [[.row 1 0 n]]), some (.els 1 ((l.take n).map nCell))]) (fun n => n ≤ l.length) rfl (hit) rfl (by simp) (by decide) (by decide) (by decide) (vAV_len _) ?_ ?_ ?_ ?_
  · exact Nat.zero_le _
  · exact (sub_nilc 0 0 0 1 (es := [[.v (.slice none 0 0)]]) (e := [.v (.slice none 0 0)]) (by simp) (by simp) (by simp)).trans (sub_same (by simp))
  · intro n xv hxn hi l1 J1 hJ1
    obtain ⟨q, hq, rfl⟩ : ∃ q, l[n]? = some q ∧ [I q] = xv := by simpa [vAV] using hxn
    have hnl : n < l.length := (List.getElem?_eq_some_iff.1 hq).1
    have f1 : Fits (n + 1) 9 := fits_of (by omega) (by omega)
    have hts : l.take (n + 1) = l.take n ++ [q] := by rw [List.take_add_one, hq]; rfl
    have htl : (l.take n).length = n := by rw [List.length_take]; omega
    generalize l.take n = L at hts htl ⊢
    subst htl
    simp only [List.zip_cons_cons, List.zip_nil_left, List.zip_nil_right, List.cons_append, List.nil_append]
    refine gwp_r rfl (by decide) rfl rfl fun K hK => ?_
    simp -dsimp
    refine hK _ _ ?_; clear hK K
    simp only [onlyN]
    intro J2 hJ2
    refine gwp_prune [2, 5, 6] (Or.inr (by simp)) ?_
    simp only [prune, List.map_cons, List.map_nil, Go.AM.look, Nat.reduceEqDiff, reduceIte]
    refine gwp_block ?_
    refine gwp_r rfl (by decide) rfl rfl fun K hK => ?_
    simp -dsimp [f1]
    refine hK _ _ ?_; clear hK K
    simp only [thenA, inBlockA, roundQ, reduceIte, Nat.reduceEqDiff, eq_self]
    refine ⟨hnl, sub_rb [some 0, some 2] rfl (by simp) (by simp [hts])⟩
  · intro hdone
    simp only [thenA, inBlockA, reduceIte, Nat.reduceEqDiff, eq_self]
    refine hK1 _ _ ?_
    refine gwp_prune [2] (Or.inr (by simp)) ?_
    simp only [prune, List.map_cons, List.map_nil, Go.AM.look, Nat.reduceEqDiff, reduceIte]
    refine gwp_sr rfl (by decide) rfl rfl fun K hK => ?_
    simp -dsimp
    refine hK _ _ ?_; clear hK K
    exact gwp_ret ⟨[some 1], rfl, by simp, by simp, by simp, by simp [resP, tupOf]⟩
theorem m_Collect (l : List Int) (hn : l.length ≤ 1000) : MutCall Try.prog 80 [.clo 82 [.iptr [iL l]]] [] [] (.row 0 0 l.length) [] [some (.els 1 (l.map nCell))] := by
  have h := m_AppendSeq l hn
  refine MutCall.of_bodyG [] Try.func80 rfl (by decide) (by simp [Try.ntmps80]) rfl rfl ?_
  intro J hJ
  simp only [Try.ntmps80, Try.results80]
  refine gwp_sr rfl (by decide) rfl rfl fun K hK => ?_
  simp -dsimp
  refine hK _ _ ?_; clear hK K
  refine gwp_sr rfl (by decide) rfl rfl fun K hK => ?_
  simp -dsimp
  refine callK_mut [] [] [some 0] (h) (by decide) rfl (by simp) (by simp) rfl (by simp) ?_
  simp -dsimp
  refine hK _ _ ?_; clear hK K
  exact gwp_ret ⟨[some 0], rfl, by simp, by simp, by simp, by simp [resP, tupOf]⟩
theorem m_Sorted (l : List Int) (h1 : 1 ≤ l.length) (hn : l.length ≤ 12) : MutCall Try.prog 53 [.clo 82 [.iptr [iL l]]] [] [] (.row 0 0 l.length) [] [some (.els 1 ((srt l).map nCell))] := by
  have h := m_Collect l (by omega)
  have hs := m_Sort l h1 hn
  refine MutCall.of_bodyG [] Try.func53 rfl (by decide) (by simp [Try.ntmps53]) rfl rfl ?_
  intro J hJ
  simp only [Try.ntmps53, Try.results53]
  refine gwp_sr rfl (by decide) rfl rfl fun K hK => ?_
  simp -dsimp
  refine hK _ _ ?_; clear hK K
  refine gwp_sr rfl (by decide) rfl rfl fun K hK => ?_
  simp -dsimp
  refine callK_mut [] [] [some 0] (h) (by decide) rfl (by simp) (by simp) rfl (by simp) ?_
  simp -dsimp
  refine hK _ _ ?_; clear hK K
  refine gwp_sr rfl (by decide) rfl rfl fun K hK => ?_
  simp -dsimp
  refine callK_mut [0] [] [some 0] (hs) (by decide) rfl (by simp) (by simp) rfl (by simp) ?_
  simp -dsimp
  refine hK _ _ ?_; clear hK K
  refine gwp_sr rfl (by decide) rfl rfl fun K hK => ?_
  simp -dsimp
  refine hK _ _ ?_; clear hK K
  exact gwp_ret ⟨[some 0], rfl, by simp, by simp, by simp, by simp [resP, tupOf]⟩

theorem c_sNaN (a : Int) : PureCall Try.prog 83 [I a] (Bo false) := by
  refine PureCall.of_body Try.func83 rfl (by decide) (by simp [Try.ntmps83]) ?_
  simp only [Try.ntmps83, Try.results83]
  refine awp_sr rfl fun K hK => ?_
  simp -dsimp
  refine hK _ _ ?_; clear hK K
  refine awp_sr rfl fun K hK => ?_
  simp -dsimp
  refine hK _ _ ?_; clear hK K
  exact awp_ret (by simp)

/-- How many are less. -/
def lbI (l : List Int) (x : Int) : Nat := l.countP fun y => decide (y < x)
theorem lbI_of {l : List Int} {x : Int} {k : Nat} (hk : k ≤ l.length) (h1 : ∀ y ∈ l.take k, y < x) (h2 : ∀ y ∈ l.drop k, x ≤ y) : lbI l x = k := by
  unfold lbI
  rw [← List.take_append_drop k l, List.countP_append]
  have e1 : List.countP (fun y => decide (y < x)) (l.take k) = (l.take k).length := List.countP_eq_length.2 (fun y hy => decide_eq_true (h1 y hy))
  have e2 : List.countP (fun y => decide (y < x)) (l.drop k) = 0 := List.countP_eq_zero.2 (fun y hy => by have := h2 y hy; simp; omega)
  rw [e1, e2, List.length_take]; omega
theorem conv_ui (n : Int) (w : World) : (convert 120 3 (.int .u64 n)).run Try.prog w = .ok (.int .i64 (IntKind.i64.wrap n)) w := by
  simp [convert, run_underlying und_int, run_underlying und_uint, Conv.intToInt]
theorem c_Search (l : List Int) (x : Int) (hs : l.Pairwise (· ≤ ·)) (hn : l.length ≤ 1000) : ∃ b, PureCall Try.prog 55 [iL l, I x] (.tup [I (lbI l x), Bo b]) := by
  refine ⟨decide (lbI l x < l.length) && decide (at0 l (lbI l x) = x), ?_⟩
  refine PureCall.of_body Try.func55 rfl (by decide) (by simp [Try.ntmps55]) ?_
  simp only [Try.ntmps55, Try.results55]
  refine awp_sr rfl fun K hK => ?_
  simp -dsimp
  refine hK _ _ ?_; clear hK K
  refine awp_sr rfl fun K hK => ?_
  simp -dsimp
  refine hK _ _ ?_; clear hK K
  refine awp_sr rfl fun K hK => ?_
  simp -dsimp
  refine hK _ _ ?_; clear hK K
  refine awp_seq_k fun K1 hK1 => ?_
  refine awp_block ?_
  refine awp_prune [0, 1, 6, 7, 8] ?_
  simp only [prune, List.map_cons, List.map_nil, Go.AM.look, Nat.reduceEqDiff, reduceIte]
  refine awp_loop_l [0, 1, 6] (α := Nat × Nat) (fun y => [(7, I y.1), (8, I y.2)]) (fun _ => []) (fun y => y.1 ≤ y.2 ∧ y.2 ≤ l.length ∧ (∀ z ∈ l.take y.1, z < x) ∧ ∀ z ∈ l.drop y.2, x ≤ z) (fun y => y.2 - y.1) (0, l.length) ?_ ?_ ?_
  · exact ⟨Nat.zero_le _, Nat.le_refl _, by simp, by simp⟩
  · exact sub_same (by simp)
  rintro ⟨lo, hi⟩ ⟨i1, i2, i3, i4⟩
  simp only at i1 i2 i3 i4 ⊢
  simp only [List.cons_append, List.nil_append, prune, List.map_cons, List.map_nil, Go.AM.look, Nat.reduceEqDiff, reduceIte]
  refine awp_seq_k fun K2 hK2 => ?_
  refine awp_sr rfl fun K hK => ?_
  simp -dsimp
  refine hK _ _ ?_; clear hK K
  refine awp_cond rfl (fun hc0 => ?_) (fun hc0 => ?_)
  · skip
    try simp at hc0
    have w1 : IntKind.i64.wrap ((lo : Int) + hi) = (lo : Int) + hi := wrap_in (by omega) (by omega)
    have w2 : IntKind.u64.wrap ((lo : Int) + hi) = (lo : Int) + hi := u64_in (by omega) (by omega)
    obtain ⟨m, hm⟩ : ∃ m : Nat, m = (lo + hi) / 2 := ⟨_, rfl⟩
    have w3 : IntKind.i64.wrap (((lo : Int) + hi) / 2) = m := by rw [wrap_in (by omega) (by omega)]; omega
    have hml : m < l.length := by omega
    have gm := at0_nat hml
    have hle : ∀ p q : Nat, p ≤ q → q < l.length → at0 l p ≤ at0 l q := by
      intro p q hpq hq
      rcases Nat.lt_or_ge p q with h | h
      · have := List.pairwise_iff_getElem.1 hs p q (by omega) hq h
        rwa [← at0_of (List.getElem?_eq_getElem (show p < l.length by omega)), ← at0_of (List.getElem?_eq_getElem hq)] at this
      · obtain rfl : p = q := by omega
        exact Int.le_refl _
    refine awp_skip ?_
    simp only [thenA, inBlockA, reduceIte, Nat.reduceEqDiff, eq_self]
    refine hK2 _ _ ?_
    refine awp_prune [0, 1, 6, 7, 8] ?_
    simp only [prune, List.map_cons, List.map_nil, Go.AM.look, Nat.reduceEqDiff, reduceIte]
    refine awp_block ?_
    refine awp_sr rfl fun K hK => ?_
    simp -dsimp [w1]
    refine ⟨_, conv_in _, ?_⟩
    simp -dsimp [w2]
    refine ⟨by decide, _, conv_ui _, ?_⟩
    simp -dsimp [w3]
    refine hK _ _ ?_; clear hK K
    refine awp_sr rfl fun K hK => ?_
    simp -dsimp [gm]
    refine callK_intro _ (c_Less _ _) (by simp) ?_
    simp -dsimp [gm]
    refine hK _ _ ?_; clear hK K
    refine awp_cond rfl (fun hc1 => ?_) (fun hc1 => ?_)
    · skip
      try simp at hc1
      have wm : IntKind.i64.wrap ((m : Int) + 1) = (m : Int) + 1 := wrap_in (by omega) (by omega)
      refine awp_r rfl fun K hK => ?_
      simp -dsimp [wm]
      refine hK _ _ ?_; clear hK K
      simp only [thenA, inBlockA, reduceIte, Nat.reduceEqDiff, eq_self]
      refine ⟨(m + 1, hi), ⟨by simp only; omega, i2, fun z hz => ?_, i4⟩, by simp only; omega, sub_rb [] rfl (by simp) (by simp)⟩
      obtain ⟨p, hp⟩ := List.getElem?_of_mem hz
      have hpl := (List.getElem?_eq_some_iff.1 hp).1
      rw [List.length_take] at hpl
      rw [List.getElem?_take, if_pos (by omega)] at hp
      have := hle p m (by omega) hml
      rw [at0_of hp] at this; omega
    · skip
      try simp at hc1
      refine awp_r rfl fun K hK => ?_
      simp -dsimp
      refine hK _ _ ?_; clear hK K
      simp only [thenA, inBlockA, reduceIte, Nat.reduceEqDiff, eq_self]
      refine ⟨(lo, m), ⟨by simp only; omega, by simp only; omega, i3, fun z hz => ?_⟩, by simp only; omega, sub_rb [] rfl (by simp) (by simp)⟩
      obtain ⟨p, hp⟩ := List.getElem?_of_mem hz
      rw [List.getElem?_drop] at hp
      have hpl := (List.getElem?_eq_some_iff.1 hp).1
      have := hle m (m + p) (by omega) hpl
      rw [at0_of hp] at this; omega
  · skip
    try simp at hc0
    have hlh : lo = hi := by omega
    subst hlh
    have hlb := lbI_of i2 i3 i4
    refine awp_exit ?_
    simp only [thenA, inBlockA, reduceIte, Nat.reduceEqDiff, eq_self]
    refine hK1 _ _ ?_
    refine awp_prune [0, 1, 6, 7] ?_
    simp only [prune, List.map_cons, List.map_nil, Go.AM.look, Nat.reduceEqDiff, reduceIte]
    refine awp_sr rfl fun K hK => ?_
    simp -dsimp
    refine idxK_intro (nCell (at0 l lo)) (fun hm => by simp at hm; simp [at0_nat hm]) ?_
    simp -dsimp
    refine idxK_intro (nCell (at0 l lo)) (fun hm => by simp at hm; simp [at0_nat hm.1]) ?_
    simp -dsimp
    refine callK_may _ (fun hm => c_sNaN _) (by simp) ?_
    simp -dsimp
    refine callK_may _ (fun hm => c_sNaN _) (by simp) ?_
    simp -dsimp
    refine hK _ _ ?_; clear hK K
    refine awp_ret ?_
    rw [hlb]
    by_cases h : lo < l.length
    · simp [h, beq_d]
    · simp [h]
end Go.Street
