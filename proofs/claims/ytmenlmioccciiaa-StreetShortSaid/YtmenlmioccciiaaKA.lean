/- Walks: streams alone, and whether ways by a third stream are longer. -/
import Derived.Test.YtmenlmioccciiaaK9
namespace Go.Street
open Go.AM Go.Proofs
set_option maxRecDepth 10000
set_option maxHeartbeats 8000000
set_option linter.unusedVariables false
set_option linter.unusedSimpArgs false

def nearC (j : Jn) (l : List Int) (x y z : Nat) : Prop := x ≠ y → y ≠ z → x ≠ z → clr j (at0 l x) (at0 l z) ≤ clr j (at0 l x) (at0 l y) + (strm j (at0 l y)).Least + clr j (at0 l y) (at0 l z)
def NearP (j : Jn) (l : List Int) : Prop := ∀ x y z : Nat, x < l.length → y < l.length → z < l.length → nearC j l x y z
open Classical in
theorem c_near (j : Jn) (l : List Int) (ho : JOk j) (hl : ∀ x ∈ l, 0 ≤ x ∧ x < j.n) (hn : l.length ≤ 1000) : PureCall Try.prog 40 [j.av, iL l] (Bo (decide (NearP j l))) := by
  refine PureCall.of_body Try.func40 rfl (by decide) (by simp [Try.ntmps40]) ?_
  simp only [Try.ntmps40, Try.results40]
  refine awp_sr rfl fun K hK => ?_
  simp -dsimp
  refine hK _ _ ?_; clear hK K
  refine awp_seq_k fun K1 hK1 => ?_
  refine awp_sr rfl fun K hK => ?_
  simp -dsimp
  refine hK _ _ ?_; clear hK K
  refine awp_block ?_
  refine awp_prune [1, 2, 5] ?_
  simp only [prune, List.map_cons, List.map_nil, Go.AM.look, Nat.reduceEqDiff, reduceIte]
  refine awp_loop_l [1, 2] (α := Nat) (fun x => [(5, I x)]) (fun _ => [some (.els 6 [j.cells])]) (fun x => x ≤ l.length ∧ ∀ x' y z : Nat, x' < x → y < l.length → z < l.length → nearC j l x' y z) (fun x => l.length - x) 0 ?_ ?_ ?_
  · exact ⟨Nat.zero_le _, fun x' y z h => by omega⟩
  · exact sub_same (by simp)
  rintro x ⟨x1, x2⟩
  simp only [List.cons_append, List.nil_append, prune, List.map_cons, List.map_nil, Go.AM.look, Nat.reduceEqDiff, reduceIte]
  refine awp_seq_k fun K2 hK2 => ?_
  refine awp_sr rfl fun K hK => ?_
  simp -dsimp
  refine hK _ _ ?_; clear hK K
  refine awp_cond rfl (fun hc0 => ?_) (fun hc0 => ?_)
  · skip
    try simp at hc0
    have wx : IntKind.i64.wrap ((x : Int) + 1) = (x : Int) + 1 := wrap_in (by omega) (by omega)
    have ga := at0_nat hc0
    have hA := hl _ (List.mem_of_getElem? ga)
    refine awp_skip ?_
    simp only [thenA, inBlockA, reduceIte, Nat.reduceEqDiff, eq_self]
    refine hK2 _ _ ?_
    refine awp_prune [1, 2, 5] ?_
    simp only [prune, List.map_cons, List.map_nil, Go.AM.look, Nat.reduceEqDiff, reduceIte]
    refine awp_seq_k fun K3 hK3 => ?_
    refine awp_block ?_
    refine awp_sr rfl fun K hK => ?_
    simp -dsimp
    refine hK _ _ ?_; clear hK K
    refine awp_block ?_
    refine awp_prune [1, 2, 5, 6] ?_
    simp only [prune, List.map_cons, List.map_nil, Go.AM.look, Nat.reduceEqDiff, reduceIte]
    refine awp_loop_l [1, 2, 5] (α := Nat) (fun y => [(6, I y)]) (fun _ => [some (.els 6 [j.cells])]) (fun y => y ≤ l.length ∧ ∀ y' z : Nat, y' < y → z < l.length → nearC j l x y' z) (fun y => l.length - y) 0 ?_ ?_ ?_
    · exact ⟨Nat.zero_le _, fun y' z h => by omega⟩
    · exact sub_same (by simp)
    rintro y ⟨y1, y2⟩
    simp only [List.cons_append, List.nil_append, prune, List.map_cons, List.map_nil, Go.AM.look, Nat.reduceEqDiff, reduceIte]
    refine awp_seq_k fun K4 hK4 => ?_
    refine awp_sr rfl fun K hK => ?_
    simp -dsimp
    refine hK _ _ ?_; clear hK K
    refine awp_cond rfl (fun hc1 => ?_) (fun hc1 => ?_)
    · skip
      try simp at hc1
      have wy : IntKind.i64.wrap ((y : Int) + 1) = (y : Int) + 1 := wrap_in (by omega) (by omega)
      have gb := at0_nat hc1
      have hB := hl _ (List.mem_of_getElem? gb)
      refine awp_skip ?_
      simp only [thenA, inBlockA, reduceIte, Nat.reduceEqDiff, eq_self]
      refine hK4 _ _ ?_
      refine awp_prune [1, 2, 5, 6] ?_
      simp only [prune, List.map_cons, List.map_nil, Go.AM.look, Nat.reduceEqDiff, reduceIte]
      refine awp_seq_k fun K5 hK5 => ?_
      refine awp_block ?_
      refine awp_sr rfl fun K hK => ?_
      simp -dsimp
      refine hK _ _ ?_; clear hK K
      refine awp_block ?_
      refine awp_prune [1, 2, 5, 6, 7] ?_
      simp only [prune, List.map_cons, List.map_nil, Go.AM.look, Nat.reduceEqDiff, reduceIte]
      refine awp_loop_l [1, 2, 5, 6] (α := Nat) (fun z => [(7, I z)]) (fun _ => [some (.els 6 [j.cells])]) (fun z => z ≤ l.length ∧ ∀ z' : Nat, z' < z → nearC j l x y z') (fun z => l.length - z) 0 ?_ ?_ ?_
      · exact ⟨Nat.zero_le _, fun z' h => by omega⟩
      · exact sub_same (by simp)
      rintro z ⟨z1, z2⟩
      simp only [List.cons_append, List.nil_append, prune, List.map_cons, List.map_nil, Go.AM.look, Nat.reduceEqDiff, reduceIte]
      refine awp_seq_k fun K6 hK6 => ?_
      refine awp_sr rfl fun K hK => ?_
      simp -dsimp
      refine hK _ _ ?_; clear hK K
      refine awp_cond rfl (fun hc2 => ?_) (fun hc2 => ?_)
      · skip
        try simp at hc2
        have wz : IntKind.i64.wrap ((z : Int) + 1) = (z : Int) + 1 := wrap_in (by omega) (by omega)
        have gc := at0_nat hc2
        have hC := hl _ (List.mem_of_getElem? gc)
        have hnc : nearC j l x y z ↔ (x ≠ y → y ≠ z → x ≠ z → clr j (at0 l x) (at0 l z) ≤ clr j (at0 l x) (at0 l y) + (strm j (at0 l y)).Least + clr j (at0 l y) (at0 l z)) := Iff.rfl
        have ra := (ho.sqr.row hA.1 hA.2).1
        have rb := (ho.sqr.row hB.1 hB.2).1
        have cac := ho.sqr.get hA.1 hA.2 hC.1 hC.2
        have cab := ho.sqr.get hA.1 hA.2 hB.1 hB.2
        have cbc := ho.sqr.get hB.1 hB.2 hC.1 hC.2
        have gs := strm_get hB.1 hB.2
        have hs := ho.strm _ hB.1 hB.2
        have k1 := ho.cl _ _ hA.1 hA.2 hB.1 hB.2
        have k2 := ho.cl _ _ hB.1 hB.2 hC.1 hC.2
        generalize at0 l x = a at ga hA hnc ra cac cab k1
        generalize at0 l y = b at gb hB hnc rb cab cbc gs hs k1 k2
        generalize at0 l z = c at gc hC hnc cac cbc k2
        have w1 : IntKind.i64.wrap (clr j a b + (strm j b).Least) = clr j a b + (strm j b).Least := wrap_in (by omega) (by omega)
        have w2 : IntKind.i64.wrap (clr j a b + (strm j b).Least + clr j b c) = clr j a b + (strm j b).Least + clr j b c := wrap_in (by omega) (by omega)
        refine awp_skip ?_
        simp only [thenA, inBlockA, reduceIte, Nat.reduceEqDiff, eq_self]
        refine hK6 _ _ ?_
        refine awp_prune [1, 2, 5, 6, 7] ?_
        simp only [prune, List.map_cons, List.map_nil, Go.AM.look, Nat.reduceEqDiff, reduceIte]
        refine awp_seq_k fun K7 hK7 => ?_
        refine awp_block ?_
        refine awp_sd mixed rfl fun K hK => ?_
        simp -dsimp [ga, gb, gc]
        refine hK _ _ _ (by decide +kernel) ?_; clear hK K
        refine awp_sd mixed rfl fun K hK => ?_
        simp -dsimp [w1, w2, hA.1, hB.1, hC.1]
        refine idxK_intro (rCell (rowAt j.Clears a)) (fun _ => by simp [ra]) ?_
        simp -dsimp [w1, w2, hA.1, hB.1, hC.1]
        refine idxK_intro (nCell (clr j a c)) (fun _ => by simp [cac]) ?_
        simp -dsimp [w1, w2, hA.1, hB.1, hC.1]
        refine idxK_intro (rCell (rowAt j.Clears a)) (fun _ => by simp [ra]) ?_
        simp -dsimp [w1, w2, hA.1, hB.1, hC.1]
        refine idxK_intro (nCell (clr j a b)) (fun _ => by simp [cab]) ?_
        simp -dsimp [w1, w2, hA.1, hB.1, hC.1]
        refine idxK_intro ((strm j b).cells) (fun _ => by simp [gs]) ?_
        simp -dsimp [w1, w2, hA.1, hB.1, hC.1]
        refine idxK_intro (rCell (rowAt j.Clears b)) (fun _ => by simp [rb]) ?_
        simp -dsimp [w1, w2, hA.1, hB.1, hC.1]
        refine idxK_intro (nCell (clr j b c)) (fun _ => by simp [cbc]) ?_
        simp -dsimp [w1, w2, hA.1, hB.1, hC.1]
        refine hK _ _ _ (by decide +kernel) ?_; clear hK K
        refine awp_cond rfl (fun hc3 => ?_) (fun hc3 => ?_)
        · skip
          try simp [bne, beq_d] at hc3
          refine awp_sr rfl fun K hK => ?_
          simp -dsimp
          refine hK _ _ ?_; clear hK K
          have hb : decide (NearP j l) = false := decide_eq_false fun h => by
            have := hnc.1 (h x y z hc0 hc1 hc2) (by omega) (by omega) (by omega)
            omega
          exact awp_ret (by simp [hb])
        · skip
          try simp [bne, beq_d] at hc3
          refine awp_skip ?_
          simp only [thenA, inBlockA, reduceIte, Nat.reduceEqDiff, eq_self]
          refine hK7 _ _ ?_
          refine awp_prune [1, 2, 5, 6, 7] ?_
          simp only [prune, List.map_cons, List.map_nil, Go.AM.look, Nat.reduceEqDiff, reduceIte]
          refine awp_r rfl fun K hK => ?_
          simp -dsimp [wz]
          refine hK _ _ ?_; clear hK K
          simp only [thenA, inBlockA, reduceIte, Nat.reduceEqDiff, eq_self]
          refine ⟨z + 1, ⟨by omega, fun z' h => ?_⟩, by omega, sub_rb [some 0] rfl (by simp) (by simp)⟩
          rcases Nat.lt_succ_iff_lt_or_eq.1 h with h | rfl
          · exact z2 z' h
          · rw [hnc]; intro h1 h2 h3; have := hc3 (by omega) (by omega) (by omega); omega
      · skip
        try simp at hc2
        refine awp_exit ?_
        simp only [thenA, inBlockA, reduceIte, Nat.reduceEqDiff, eq_self]
        refine hK5 _ _ ?_
        refine awp_prune [1, 2, 5, 6] ?_
        simp only [prune, List.map_cons, List.map_nil, Go.AM.look, Nat.reduceEqDiff, reduceIte]
        refine awp_r rfl fun K hK => ?_
        simp -dsimp [wy]
        refine hK _ _ ?_; clear hK K
        simp only [thenA, inBlockA, reduceIte, Nat.reduceEqDiff, eq_self]
        refine ⟨y + 1, ⟨by omega, fun y' z' h hz => ?_⟩, by omega, sub_rb [some 0] rfl (by simp) (by simp)⟩
        rcases Nat.lt_succ_iff_lt_or_eq.1 h with h | rfl
        · exact y2 y' z' h hz
        · exact z2 z' (by omega)
    · skip
      try simp at hc1
      refine awp_exit ?_
      simp only [thenA, inBlockA, reduceIte, Nat.reduceEqDiff, eq_self]
      refine hK3 _ _ ?_
      refine awp_prune [1, 2, 5] ?_
      simp only [prune, List.map_cons, List.map_nil, Go.AM.look, Nat.reduceEqDiff, reduceIte]
      refine awp_r rfl fun K hK => ?_
      simp -dsimp [wx]
      refine hK _ _ ?_; clear hK K
      simp only [thenA, inBlockA, reduceIte, Nat.reduceEqDiff, eq_self]
      refine ⟨x + 1, ⟨by omega, fun x' y' z' h hy hz => ?_⟩, by omega, sub_rb [some 0] rfl (by simp) (by simp)⟩
      rcases Nat.lt_succ_iff_lt_or_eq.1 h with h | rfl
      · exact x2 x' y' z' h hy hz
      · exact y2 y' z' (by omega) hz
  · skip
    try simp at hc0
    refine awp_exit ?_
    simp only [thenA, inBlockA, reduceIte, Nat.reduceEqDiff, eq_self]
    refine hK1 _ _ ?_
    refine awp_prune [] ?_
    simp only [prune, List.map_cons, List.map_nil, Go.AM.look, Nat.reduceEqDiff, reduceIte]
    refine awp_sr rfl fun K hK => ?_
    simp -dsimp
    refine hK _ _ ?_; clear hK K
    have hb : decide (NearP j l) = true := decide_eq_true fun x' y' z' hx hy hz => x2 x' y' z' (by omega) hy hz
    exact awp_ret (by simp [hb])

/-- The junction that has some streams alone. -/
def aloneJ (j : Jn) (l : List Int) : Jn := ⟨l.map (strm j), l.map fun a => l.map (clr j a), (List.range l.length).map fun (i : Nat) => [(i : Int)], List.replicate l.length 600, 0, []⟩
abbrev zero6 : Option ARow := some (.els 6 [[.v (.slice none 0 0), .v (.slice none 0 0), .v (.slice none 0 0), .v (.slice none 0 0), I 0, .v (.slice none 0 0)]])
theorem c_rAlone (j : Jn) (l : List Int) (ho : JOk j) (hl : ∀ x ∈ l, 0 ≤ x ∧ x < j.n) (hn : l.length ≤ 20) : PureCall Try.prog 41 [j.av, iL l] (.agg [.lst 2 ((aloneJ j l).Streams.map Strm.cells), .lst 1 ((aloneJ j l).Clears.map rCell), .lst 1 ((aloneJ j l).Phases.map rCell), iL (aloneJ j l).Longest, I 0, .v (.slice none 0 0)]) := by
  obtain ⟨S, hS⟩ : ∃ S : Nat → List Strm, ∀ k, S k = (l.take k).map (strm j) := ⟨_, fun _ => rfl⟩
  obtain ⟨C, hC⟩ : ∃ C : Nat → List (List Int), ∀ k, C k = (l.take k).map fun a => l.map (clr j a) := ⟨_, fun _ => rfl⟩
  obtain ⟨P, hP⟩ : ∃ P : Nat → List (List Int), ∀ k, P k = (List.range k).map fun (i : Nat) => [(i : Int)] := ⟨_, fun _ => rfl⟩
  obtain ⟨Q, hQ⟩ : ∃ Q : Nat → List Int, ∀ k, Q k = List.replicate k 600 := ⟨_, fun _ => rfl⟩
  have eS : (aloneJ j l).Streams = S l.length := by rw [hS, List.take_of_length_le (Nat.le_refl _)]; rfl
  have eC : (aloneJ j l).Clears = C l.length := by rw [hC, List.take_of_length_le (Nat.le_refl _)]; rfl
  have eP : (aloneJ j l).Phases = P l.length := by rw [hP]; rfl
  have eQ : (aloneJ j l).Longest = Q l.length := by rw [hQ]; rfl
  rw [eS, eC, eP, eQ]
  have s0 : S 0 = [] ∧ C 0 = [] ∧ P 0 = [] ∧ Q 0 = [] := ⟨by rw [hS]; rfl, by rw [hC]; rfl, by rw [hP]; rfl, by rw [hQ]; rfl⟩
  have ss : ∀ k x, l[k]? = some x → S (k + 1) = S k ++ [strm j x] ∧ C (k + 1) = C k ++ [l.map (clr j x)] ∧ P (k + 1) = P k ++ [[(k : Int)]] ∧ Q (k + 1) = Q k ++ [600] := by
    intro k x h
    refine ⟨by rw [hS, hS, List.take_add_one, h]; simp, by rw [hC, hC, List.take_add_one, h]; simp, by rw [hP, hP, List.range_succ]; simp, by rw [hQ, hQ, List.replicate_succ']⟩
  have sl : ∀ k, k ≤ l.length → (S k).length = k ∧ (C k).length = k ∧ (P k).length = k ∧ (Q k).length = k := by
    intro k hk
    refine ⟨by rw [hS]; simp; omega, by rw [hC]; simp; omega, by rw [hP]; simp, by rw [hQ]; simp⟩
  clear eS eC eP eQ hS hC hP hQ
  refine PureCall.of_body Try.func41 rfl (by decide) (by simp [Try.ntmps41]) ?_
  simp only [Try.ntmps41, Try.results41]
  refine awp_sr rfl fun K hK => ?_
  simp -dsimp
  refine hK _ _ ?_; clear hK K
  refine awp_sr rfl fun K hK => ?_
  simp -dsimp
  refine hK _ _ ?_; clear hK K
  refine awp_seq_k fun K1 hK1 => ?_
  refine awp_sr rfl fun K hK => ?_
  simp -dsimp
  refine hK _ _ ?_; clear hK K
  refine awp_block ?_
  refine awp_prune [1, 2, 4, 5, 6] ?_
  simp only [prune, List.map_cons, List.map_nil, Go.AM.look, Nat.reduceEqDiff, reduceIte]
  refine awp_loop_l [1, 2, 4, 5] (α := Nat) (fun k => [(6, I k)]) (fun k => [some (.els 6 [j.cells]), zero6, some (.els 6 [[.row 3 0 k, .row 4 0 k, .row 5 0 k, .row 6 0 k, I 0, .v (.slice none 0 0)]]), some (.els 2 ((S k).map Strm.cells)), some (.els 1 ((C k).map rCell)), some (.els 1 ((P k).map rCell)), some (.els 1 ((Q k).map nCell))]) (fun k => k ≤ l.length) (fun k => l.length - k) 0 ?_ ?_ ?_
  · exact Nat.zero_le _
  · exact ((((sub_nilc 2 0 0 2 (sz0 := 6) (by simp; rfl) (by simp; rfl) (by simp)).trans (sub_nilc 2 0 1 1 (sz0 := 6) (by simp; rfl) (by simp; rfl) (by simp))).trans (sub_nilc 2 0 2 1 (sz0 := 6) (by simp; rfl) (by simp; rfl) (by simp))).trans (sub_nilc 2 0 3 1 (sz0 := 6) (by simp; rfl) (by simp; rfl) (by simp))).trans (sub_rb [some 0, some 1, some 2, some 3, some 4, some 5, some 6] rfl (by simp) (by simp [s0.1, s0.2.1, s0.2.2.1, s0.2.2.2]))
  rintro k k1
  simp only [List.cons_append, List.nil_append, prune, List.map_cons, List.map_nil, Go.AM.look, Nat.reduceEqDiff, reduceIte]
  refine awp_seq_k fun K2 hK2 => ?_
  refine awp_sr rfl fun K hK => ?_
  simp -dsimp
  refine hK _ _ ?_; clear hK K
  refine awp_cond rfl (fun hc0 => ?_) (fun hc0 => ?_)
  · skip
    try simp at hc0
    obtain ⟨x, hx⟩ : ∃ x, l[k]? = some x := ⟨_, List.getElem?_eq_getElem hc0⟩
    have hxb := hl x (List.mem_of_getElem? hx)
    have gs := strm_get hxb.1 hxb.2
    have gr := ho.sqr.row hxb.1 hxb.2
    have wk : IntKind.i64.wrap ((k : Int) + 1) = (k : Int) + 1 := wrap_in (by omega) (by omega)
    have f1 : Fits (k + 1) 17 := fits_of (by omega) (by omega)
    have f2 : Fits (k + 1) 25 := fits_of (by omega) (by omega)
    have f3 : Fits (k + 1) 9 := fits_of (by omega) (by omega)
    obtain ⟨q1, q2, q3, q4⟩ := ss k x hx
    obtain ⟨n1, n2, n3, n4⟩ := sl k k1
    generalize S k = Sk at q1 n1 ⊢
    generalize C k = Ck at q2 n2 ⊢
    generalize P k = Pk at q3 n3 ⊢
    generalize Q k = Qk at q4 n4 ⊢
    have t1 : List.take k (Sk.map Strm.cells) = Sk.map Strm.cells := List.take_of_length_le (by simp; omega)
    have t2 : List.take k (Ck.map rCell) = Ck.map rCell := List.take_of_length_le (by simp; omega)
    have t3 : List.take k (Pk.map rCell) = Pk.map rCell := List.take_of_length_le (by simp; omega)
    have t4 : List.take k (Qk.map nCell) = Qk.map nCell := List.take_of_length_le (by simp; omega)
    obtain ⟨R, hR⟩ : ∃ R : Nat → List Int, ∀ m, R m = (l.take m).map (clr j x) := ⟨_, fun _ => rfl⟩
    have hR0 : R 0 = [] := by rw [hR]; rfl
    have hRl : ∀ m, m ≤ l.length → (R m).length = m := by intro m hm; rw [hR]; simp; omega
    have hRs : ∀ m y, l[m]? = some y → R (m + 1) = R m ++ [clr j x y] := by intro m y h; rw [hR, hR, List.take_add_one, h]; simp
    have hRe : R l.length = l.map (clr j x) := by rw [hR, List.take_of_length_le (Nat.le_refl _)]
    rw [← hRe] at q2
    clear hR hRe
    refine awp_skip ?_
    simp only [thenA, inBlockA, reduceIte, Nat.reduceEqDiff, eq_self]
    refine hK2 _ _ ?_
    refine awp_prune [1, 2, 4, 5, 6] ?_
    simp only [prune, List.map_cons, List.map_nil, Go.AM.look, Nat.reduceEqDiff, reduceIte]
    refine awp_seq_k fun K3 hK3 => ?_
    refine awp_block ?_
    refine awp_sd mixed rfl fun K hK => ?_
    simp -dsimp [hx, gs, hxb.1, f1, t1, n1]
    refine hK _ _ _ (by decide +kernel) ?_; clear hK K
    refine awp_sr rfl fun K hK => ?_
    simp -dsimp
    refine hK _ _ ?_; clear hK K
    refine awp_seq_k fun K4 hK4 => ?_
    refine awp_sr rfl fun K hK => ?_
    simp -dsimp
    refine hK _ _ ?_; clear hK K
    refine awp_block ?_
    refine awp_prune [1, 2, 4, 5, 6, 7, 8] ?_
    simp only [prune, List.map_cons, List.map_nil, Go.AM.look, Nat.reduceEqDiff, reduceIte]
    refine awp_loop_l [1, 2, 4, 5, 6] (α := Nat) (fun m => [(7, .row 7 0 m), (8, I m)]) (fun m => [some (.els 6 [j.cells]), zero6, some (.els 6 [[.row 3 0 (k + 1), .row 4 0 k, .row 5 0 k, .row 6 0 k, I 0, .v (.slice none 0 0)]]), some (.els 2 ((Sk ++ [strm j x]).map Strm.cells)), some (.els 1 (Ck.map rCell)), some (.els 1 (Pk.map rCell)), some (.els 1 (Qk.map nCell)), some (.els 1 ((R m).map nCell))]) (fun m => m ≤ l.length) (fun m => l.length - m) 0 ?_ ?_ ?_
    · exact Nat.zero_le _
    · exact (sub_nil 7 1 (by simp)).trans (sub_rb [some 0, some 1, some 2, some 7, some 4, some 5, some 6, some 8] rfl (by simp) (by simp [hR0]))
    rintro m m1
    simp only [List.cons_append, List.nil_append, prune, List.map_cons, List.map_nil, Go.AM.look, Nat.reduceEqDiff, reduceIte]
    refine awp_seq_k fun K5 hK5 => ?_
    refine awp_sr rfl fun K hK => ?_
    simp -dsimp
    refine hK _ _ ?_; clear hK K
    refine awp_cond rfl (fun hc1 => ?_) (fun hc1 => ?_)
    · skip
      try simp at hc1
      obtain ⟨y, hy⟩ : ∃ y, l[m]? = some y := ⟨_, List.getElem?_eq_getElem hc1⟩
      have hyb := hl y (List.mem_of_getElem? hy)
      have gc := ho.sqr.get hxb.1 hxb.2 hyb.1 hyb.2
      have wm : IntKind.i64.wrap ((m : Int) + 1) = (m : Int) + 1 := wrap_in (by omega) (by omega)
      have f4 : Fits (m + 1) 9 := fits_of (by omega) (by omega)
      have hts := hRs m y hy
      have hml := hRl m m1
      generalize R m = M at hts hml ⊢
      have tM : List.take m (M.map nCell) = M.map nCell := List.take_of_length_le (by simp; omega)
      refine awp_skip ?_
      simp only [thenA, inBlockA, reduceIte, Nat.reduceEqDiff, eq_self]
      refine hK5 _ _ ?_
      refine awp_prune [1, 2, 4, 5, 6, 7, 8] ?_
      simp only [prune, List.map_cons, List.map_nil, Go.AM.look, Nat.reduceEqDiff, reduceIte]
      refine awp_seq_k fun K6 hK6 => ?_
      refine awp_block ?_
      refine awp_draw mixed rfl fun K hK => ?_
      simp -dsimp [hx, hy, gr.1, gc, hxb.1, hyb.1, f4, tM, hml]
      refine hK _ _ _ (by decide +kernel) ?_; clear hK K
      simp only [thenA, inBlockA, reduceIte, Nat.reduceEqDiff, eq_self]
      refine hK6 _ _ ?_
      refine awp_prune [1, 2, 4, 5, 6, 7, 8] ?_
      simp only [prune, List.map_cons, List.map_nil, Go.AM.look, Nat.reduceEqDiff, reduceIte]
      refine awp_r rfl fun K hK => ?_
      simp -dsimp [wm]
      refine hK _ _ ?_; clear hK K
      simp only [thenA, inBlockA, reduceIte, Nat.reduceEqDiff, eq_self]
      exact ⟨m + 1, by omega, by omega, sub_rb [some 0, some 1, some 2, some 3, some 4, some 5, some 6, some 8] rfl (by simp) (by simp [hts])⟩
    · skip
      try simp at hc1
      have hme : m = l.length := by omega
      subst hme
      have hcl := hRl l.length (Nat.le_refl _)
      generalize R l.length = M at q2 hcl ⊢
      have tM : List.take l.length (M.map nCell) = M.map nCell := List.take_of_length_le (by simp; omega)
      refine awp_exit ?_
      simp only [thenA, inBlockA, reduceIte, Nat.reduceEqDiff, eq_self]
      refine hK4 _ _ ?_
      refine awp_prune [1, 2, 4, 5, 6, 7] ?_
      simp only [prune, List.map_cons, List.map_nil, Go.AM.look, Nat.reduceEqDiff, reduceIte]
      refine awp_flag (by decide) ?_
      refine awp_sr rfl fun K hK => ?_
      simp -dsimp [f2, t2, n2]
      refine hK _ _ ?_; clear hK K
      refine awp_flag (by decide) ?_
      refine awp_sr rfl fun K hK => ?_
      simp -dsimp [f2, t3, n3]
      refine hK _ _ ?_; clear hK K
      refine awp_r rfl fun K hK => ?_
      simp -dsimp [f3, t4, n4]
      refine hK _ _ ?_; clear hK K
      simp only [thenA, inBlockA, reduceIte, Nat.reduceEqDiff, eq_self]
      refine hK3 _ _ ?_
      refine awp_prune [1, 2, 4, 5, 6] ?_
      simp only [prune, List.map_cons, List.map_nil, Go.AM.look, Nat.reduceEqDiff, reduceIte]
      refine awp_r rfl fun K hK => ?_
      simp -dsimp [wk]
      refine hK _ _ ?_; clear hK K
      simp only [thenA, inBlockA, reduceIte, Nat.reduceEqDiff, eq_self]
      exact ⟨k + 1, by omega, by omega, sub_rf [some 0, some 1, some 2, some 3, some 9, some 12, some 14] rfl (by simp) (by simp [q1, q2, q3, q4, tM, hcl])⟩
  · skip
    try simp at hc0
    have hke : k = l.length := by omega
    subst hke
    obtain ⟨n1, n2, n3, n4⟩ := sl l.length (Nat.le_refl _)
    generalize hS : S l.length = Sk at n1 ⊢
    generalize hC : C l.length = Ck at n2 ⊢
    generalize hP : P l.length = Pk at n3 ⊢
    generalize hQ : Q l.length = Qk at n4 ⊢
    have t1 : List.take l.length (Sk.map Strm.cells) = Sk.map Strm.cells := List.take_of_length_le (by simp; omega)
    have t2 : List.take l.length (Ck.map rCell) = Ck.map rCell := List.take_of_length_le (by simp; omega)
    have t3 : List.take l.length (Pk.map rCell) = Pk.map rCell := List.take_of_length_le (by simp; omega)
    have t4 : List.take l.length (Qk.map nCell) = Qk.map nCell := List.take_of_length_le (by simp; omega)
    have m1 : l.length ≤ Sk.length := by omega
    have m2 : l.length ≤ Ck.length := by omega
    have m3 : l.length ≤ Pk.length := by omega
    have m4 : l.length ≤ Qk.length := by omega
    refine awp_exit ?_
    simp only [thenA, inBlockA, reduceIte, Nat.reduceEqDiff, eq_self]
    refine hK1 _ _ ?_
    refine awp_prune [4, 5] ?_
    simp only [prune, List.map_cons, List.map_nil, Go.AM.look, Nat.reduceEqDiff, reduceIte]
    refine awp_sr rfl fun K hK => ?_
    simp -dsimp
    refine hK _ _ ?_; clear hK K
    exact awp_ret (by simp [t1, t2, t3, t4, m1, m2, m3, m4, hS, hC, hP, hQ])
end Go.Street
