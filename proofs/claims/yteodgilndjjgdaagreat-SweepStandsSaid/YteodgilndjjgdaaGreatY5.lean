/- The theorem of cars on ways: its plain part, and its walk. -/
import Derived.Test.YteodgilndjjgdaaGreatY4
import Derived.Test.YteodgilndjjgdaaGreatV3
import Derived.Test.YteodgilndjjgdaaGreatR1
import Derived.Test.YteodgilndjjgdaaGreatL1
import Derived.Test.YteodgilndjjgdaaGreatW3
namespace Go.Tram
open Go.AM Go.Proofs
set_option maxRecDepth 100000
set_option maxHeartbeats 4000000
set_option linter.unusedVariables false
set_option linter.unusedSimpArgs false

theorem fouls_len {p : Plan} {l : List Profile} (hN : p.Rails.length ≤ 12) (hl : l.length ≤ 16) : (foulsL p l).length ≤ 100000 := by
  have h := fA_len p l p.Rails.length
  have k : p.Rails.length * (l.length * (p.Rails.length * l.length)) ≤ 12 * (16 * (12 * 16)) := Nat.mul_le_mul hN (Nat.mul_le_mul hl (Nat.mul_le_mul hN hl))
  unfold foulsL
  omega
theorem foulEq (x y : Foul) : x = y ↔ x.RailA = y.RailA ∧ x.ProfileA = y.ProfileA ∧ x.RailB = y.RailB ∧ x.ProfileB = y.ProfileB := by
  cases x; cases y; simp
def hasF (l : List Foul) (f : Foul) : Bool := l.any fun x => decide (x = f)
theorem c_hasB (l : List Foul) (f : Foul) (hn : l.length ≤ 100000) : PureCall Tryz.prog 11 [.lst 4 (l.map Foul.cells), f.av] (Bo (hasF l f)) := by
  refine PureCall.of_body Tryz.func11 rfl (by decide) (by simp [Tryz.ntmps11]) ?_
  simp only [Tryz.ntmps11, Tryz.results11]
  refine awp_sr rfl fun K hK => ?_
  simp -dsimp
  refine hK _ _ ?_; clear hK K
  refine awp_seq_k fun K1 hK1 => ?_
  refine awp_sr rfl fun K hK => ?_
  simp -dsimp
  refine hK _ _ ?_; clear hK K
  refine awp_block ?_
  refine awp_prune [0, 3, 5] ?_
  simp only [prune, List.map_cons, List.map_nil, Go.AM.look, Nat.reduceEqDiff, reduceIte]
  refine awp_loop_l [0, 3] (α := Nat) (fun k => [(5, I k)]) (fun _ => [some (.els 4 [f.cells])]) (fun k => k ≤ l.length ∧ (l.take k).any (fun x => decide (x = f)) = false) (fun k => l.length - k) 0 ?_ ?_ ?_
  · simp
  · exact sub_same (by simp)
  rintro k ⟨k1, k2⟩
  simp only [List.cons_append, List.nil_append, prune, List.map_cons, List.map_nil, Go.AM.look, Nat.reduceEqDiff, reduceIte]
  refine awp_seq_k fun K2 hK2 => ?_
  refine awp_sr rfl fun K hK => ?_
  simp -dsimp
  refine hK _ _ ?_; clear hK K
  refine awp_cond rfl (fun hc0 => ?_) (fun hc0 => ?_)
  · skip
    try simp at hc0
    obtain ⟨x, hx⟩ : ∃ x, l[k]? = some x := ⟨_, List.getElem?_eq_getElem hc0⟩
    have wk : IntKind.i64.wrap ((k : Int) + 1) = (k : Int) + 1 := wrap_in (by omega) (by omega)
    refine awp_skip ?_
    simp only [thenA, inBlockA, reduceIte, Nat.reduceEqDiff, eq_self]
    refine hK2 _ _ ?_
    refine awp_prune [0, 3, 5] ?_
    simp only [prune, List.map_cons, List.map_nil, Go.AM.look, Nat.reduceEqDiff, reduceIte]
    refine awp_seq_k fun K3 hK3 => ?_
    refine awp_block ?_
    refine awp_sd mixed rfl fun K hK => ?_
    simp -dsimp [hx]
    refine hK _ _ _ (by decide +kernel) ?_; clear hK K
    refine awp_cond rfl (fun hc1 => ?_) (fun hc1 => ?_)
    · skip
      skip
      have heq : x = f := by rw [foulEq]; simp at hc1; simp [hc1]
      have hh : hasF l f = true := List.any_eq_true.2 ⟨x, List.mem_of_getElem? hx, by simpa using heq⟩
      refine awp_sr rfl fun K hK => ?_
      simp -dsimp
      refine hK _ _ ?_; clear hK K
      exact awp_ret (by simp [hh])
    · skip
      skip
      have hne : decide (x = f) = false := by rw [decide_eq_false_iff_not, foulEq]; simp at hc1; intro h; simp [h] at hc1
      refine awp_skip ?_
      simp only [thenA, inBlockA, reduceIte, Nat.reduceEqDiff, eq_self]
      refine hK3 _ _ ?_
      refine awp_prune [0, 3, 5] ?_
      simp only [prune, List.map_cons, List.map_nil, Go.AM.look, Nat.reduceEqDiff, reduceIte]
      refine awp_r rfl fun K hK => ?_
      simp -dsimp [wk]
      refine hK _ _ ?_; clear hK K
      simp only [thenA, inBlockA, reduceIte, Nat.reduceEqDiff, eq_self]
      exact ⟨k + 1, ⟨by omega, by rw [any_take hx, k2, hne]; rfl⟩, by omega, sub_same (by simp)⟩
  · skip
    try simp at hc0
    have hall := any_of_take (by omega) k2
    have hh : hasF l f = false := hall
    refine awp_exit ?_
    simp only [thenA, inBlockA, reduceIte, Nat.reduceEqDiff, eq_self]
    refine hK1 _ _ ?_
    refine awp_prune [] ?_
    simp only [prune, List.map_cons, List.map_nil, Go.AM.look, Nat.reduceEqDiff, reduceIte]
    refine awp_sr rfl fun K hK => ?_
    simp -dsimp
    refine hK _ _ ?_; clear hK K
    exact awp_ret (by simp [hh])

/-- Each place of a rail lies on a strip. -/
theorem strip_of {l : List Spot} {x : Int} (h0 : 0 ≤ x) : ∀ n, x < sumTo l n → ∃ k, k < n ∧ sumTo l k ≤ x ∧ x < sumTo l (k + 1)
  | 0, h => by simp [sumTo] at h; omega
  | n + 1, h => by
    by_cases h1 : x < sumTo l n
    · obtain ⟨k, k1, k2, k3⟩ := strip_of h0 n h1
      exact ⟨k, by omega, k2, k3⟩
    · exact ⟨n, by omega, by omega, h⟩

def ovB (c d : Cover) : Bool := decide (c.Rail = d.Rail) && (decide (c.From < d.To) && decide (d.From < c.To))
def uOf (c d : Cover) : Foul := if d.Rail < c.Rail then ⟨d.Rail, 1, c.Rail, 0⟩ else ⟨c.Rail, 0, d.Rail, 1⟩

theorem touched_mem {p : Plan} {l : List Cover} {s : SS} : s ∈ touched p l ↔ ∃ c ∈ l, s ∈ p.strips c.Rail ∧ c.From < s.To ∧ s.From < c.To := by
  simp only [touched, List.mem_flatMap, touchedOne, List.mem_filter, Bool.and_eq_true, decide_eq_true_eq]

theorem covers_at {p : Plan} {l : List Cover} (h : coversB p l = true) {c : Cover} (hc : c ∈ l) : (0 ≤ c.Rail ∧ c.Rail < p.Rails.length) ∧ 0 ≤ c.From ∧ c.From < c.To ∧ c.To ≤ p.len c.Rail := by
  simp only [coversB, Bool.and_eq_true, List.all_eq_true] at h
  have := h.2 c hc
  simp only [coverB, Bool.and_eq_true, decide_eq_true_eq, inr_iff] at this
  omega

/-- What covers a millimeter of the same rail is not clear. -/
theorem stands_same {p : Plan} {C D : List Cover} {x y : Profile} (hv : validB p = true) (hx : profB x = true) (hy : profB y = true) (hC : coversB p C = true) (hD : coversB p D = true) (h : (C.any fun c => D.any (ovB c)) = true) : clearB p C x D y = false := by
  obtain ⟨c, hc, h⟩ := List.any_eq_true.1 h
  obtain ⟨d, hd, h⟩ := List.any_eq_true.1 h
  simp only [ovB, Bool.and_eq_true, decide_eq_true_eq] at h
  obtain ⟨h1, h2, h3⟩ := h
  obtain ⟨⟨c1, c2⟩, c3, c4, c5⟩ := covers_at hC hc
  obtain ⟨_, d3, d4, d5⟩ := covers_at hD hd
  have ro := rail_ok hv c1 c2
  obtain ⟨z, z1, z2, z3, z4, z5⟩ : ∃ z, 0 ≤ z ∧ c.From ≤ z ∧ d.From ≤ z ∧ z < c.To ∧ z < d.To := ⟨max c.From d.From, by omega, by omega, by omega, by omega, by omega⟩
  have hz : z < sumTo (p.line c.Rail) ((p.rail c.Rail).Shape.length + 1) := by unfold Plan.len at c5; omega
  obtain ⟨k, k1, k2, k3⟩ := strip_of z1 _ hz
  have hm : stripOf (p.line c.Rail) c.Rail k ∈ p.strips c.Rail := List.mem_of_getElem? (strips_get k1)
  have ok := strips_ok ro hm
  have hf : foulB (stripOf (p.line c.Rail) c.Rail k) x (stripOf (p.line c.Rail) c.Rail k) y = true := foulB_meet ok ok hx hy (Or.inl rfl)
  unfold clearB
  rw [Bool.not_eq_false', List.any_eq_true]
  refine ⟨_, touched_mem.2 ⟨c, hc, hm, ?_, ?_⟩, List.any_eq_true.2 ⟨_, touched_mem.2 ⟨d, hd, ?_, ?_, ?_⟩, hf⟩⟩
  · show c.From < sumTo _ (k + 1); omega
  · show sumTo _ k < c.To; omega
  · rw [← h1]; exact hm
  · show d.From < sumTo _ (k + 1); omega
  · show sumTo _ k < d.To; omega

/-- What stands on rails that are not foul is clear. -/
theorem stands_clear {p : Plan} {C D : List Cover} {x y : Profile} (hC : coversB p C = true) (hD : coversB p D = true) (h : (C.any fun c => D.any fun d => hasF (foulsL p [x, y]) (uOf c d)) = false) : clearB p C x D y = true := by
  cases hcl : clearB p C x D y with
  | true => rfl
  | false =>
    exfalso
    unfold clearB at hcl
    rw [Bool.not_eq_false', List.any_eq_true] at hcl
    obtain ⟨s, hs, hcl⟩ := hcl
    obtain ⟨t, ht, hf⟩ := List.any_eq_true.1 hcl
    obtain ⟨c, hc, hs, _, _⟩ := touched_mem.1 hs
    obtain ⟨d, hd, ht, _, _⟩ := touched_mem.1 ht
    obtain ⟨⟨c1, c2⟩, _⟩ := covers_at hC hc
    obtain ⟨⟨d1, d2⟩, _⟩ := covers_at hD hd
    have hin : uOf c d ∈ foulsL p [x, y] := by
      rw [mem_foulsL]
      unfold uOf
      obtain ⟨a, ha⟩ : ∃ a : Nat, c.Rail = a := ⟨c.Rail.toNat, by omega⟩
      obtain ⟨b, hb⟩ : ∃ b : Nat, d.Rail = b := ⟨d.Rail.toNat, by omega⟩
      rw [ha] at hs c2 ⊢
      rw [hb] at ht d2 ⊢
      split
      · rename_i hlt
        refine ⟨b, by omega, 1, by simp, a - b, by omega, 0, by simp, ?_, by rw [show b + (a - b) = a by omega]; rfl⟩
        unfold hitF
        rw [show b + (a - b) = a by omega]
        have : railsB p b y a x = true := railsB_mem ht hs (by rw [foulB_comm]; exact hf)
        simp only [Bool.and_eq_true, Bool.or_eq_true, decide_eq_true_eq]
        exact ⟨Or.inl (by omega), by simpa [pr] using this⟩
      · rename_i hlt
        refine ⟨a, by omega, 0, by simp, b - a, by omega, 1, by simp, ?_, by rw [show a + (b - a) = b by omega]; rfl⟩
        unfold hitF
        rw [show a + (b - a) = b by omega]
        have : railsB p a x b y = true := railsB_mem hs ht hf
        simp only [Bool.and_eq_true, Bool.or_eq_true, decide_eq_true_eq]
        exact ⟨Or.inr (by omega), by simpa [pr] using this⟩
    have : (C.any fun c => D.any fun d => hasF (foulsL p [x, y]) (uOf c d)) = true := List.any_eq_true.2 ⟨c, hc, List.any_eq_true.2 ⟨d, hd, List.any_eq_true.2 ⟨_, hin, by simp⟩⟩⟩
    rw [h] at this
    cases this

/-- What a car covers is as defined. -/
theorem cv_covers {p : Plan} {l : List Move} {front long : Int} (hv : validB p = true) (hw : wayB p l = true) (hl : l.length ≤ 12) : coversB p (cvTo p l front long l.length) = true := by
  have h1 := cvTo_len p l front long l.length
  simp only [coversB, Bool.and_eq_true, decide_eq_true_eq, List.all_eq_true]
  refine ⟨by omega, fun c hc => ?_⟩
  simp only [cvTo, List.mem_flatMap, List.mem_range] at hc
  obtain ⟨i, hi, hc⟩ := hc
  have hm := movB_iff.1 (way_mov hw i hi)
  have hb := begTo_bd hv hw i (by omega)
  unfold cvStep at hc
  generalize begTo p l i = B at hc hb
  have hF : 0 ≤ cvF front long B := by unfold cvF; split <;> omega
  have hT : cvT front B (p.len (mvAt l i).Rail) ≤ p.len (mvAt l i).Rail := by unfold cvT; split <;> omega
  split at hc
  · simp at hc
  · rename_i hlt
    simp only [coverB, Bool.and_eq_true, decide_eq_true_eq, inr_iff]
    split at hc
    · obtain rfl := List.mem_singleton.1 hc
      simp only []
      omega
    · obtain rfl := List.mem_singleton.1 hc
      simp only []
      omega

def carB (p : Plan) (l : List Move) (front long : Int) : Bool := wayB p l && (decide (1 ≤ long) && (decide (long ≤ front) && decide (front ≤ begTo p l l.length)))

theorem c_SweepStands (p : Plan) (a b : List Move) (x y : Profile) (front other long : Int) (hf : p.Fit) (la : a.length ≤ 9223372036854775807) (lb : b.length ≤ 9223372036854775807) :
    PureCall Tryz.prog 3 [p.av, .lst 2 (a.map Move.cells), .lst 2 (b.map Move.cells), x.av, y.av, I front, I other, I long] (Bo true) := by
  cases hA : carB p a front long with
  | false =>
    cases hB : carB p b other long with
    | false =>
      refine PureCall.of_body Tryz.func3 rfl (by decide) (by simp [Tryz.ntmps3]) ?_
      simp only [Tryz.ntmps3, Tryz.results3]
      refine awp_sr rfl fun K hK => ?_
      simp -dsimp
      refine hK _ _ ?_; clear hK K
      refine awp_seq_k fun K1 hK1 => ?_
      refine awp_sr rfl fun K hK => ?_
      simp -dsimp
      refine callK_intro _ (c_few p hf) (by simp) ?_
      simp -dsimp
      refine callK_may _ (fun hm => c_Valid p) (by simp) ?_
      simp -dsimp
      refine callK_may _ (fun hm => c_rProfile x) (by simp) ?_
      simp -dsimp
      refine callK_may _ (fun hm => c_rProfile y) (by simp) ?_
      simp -dsimp
      refine hK _ _ ?_; clear hK K
      refine awp_cond rfl (fun hc0 => ?_) (fun hc0 => ?_)
      · skip
        skip
        refine awp_sr rfl fun K hK => ?_
        simp -dsimp
        refine callK_intro _ (c_known) (by simp) ?_
        simp -dsimp
        refine hK _ _ ?_; clear hK K
        exact awp_ret (by simp)
      · skip
        skip
        have hall : fewB p = true ∧ validB p = true ∧ profB x = true ∧ profB y = true ∧ a.length ≤ 12 ∧ b.length ≤ 12 := by simp at hc0; simp [hc0]; omega
        obtain ⟨hfw, hv, hx, hy, ha, hb⟩ := hall
        refine awp_skip ?_
        simp only [thenA, inBlockA, reduceIte, Nat.reduceEqDiff, eq_self]
        refine hK1 _ _ ?_
        refine awp_prune [1, 2, 5, 6, 7, 8, 11, 12] ?_
        simp only [prune, List.map_cons, List.map_nil, Go.AM.look, Nat.reduceEqDiff, reduceIte]
        refine awp_sr rfl fun K hK => ?_
        simp -dsimp
        refine callK_intro _ (c_tCovers_f p a front long hv (by omega) hA) (by simp) ?_
        simp -dsimp
        refine hK _ _ ?_; clear hK K
        refine awp_sr rfl fun K hK => ?_
        simp -dsimp
        refine callK_intro _ (c_tCovers_f p b other long hv (by omega) hB) (by simp) ?_
        simp -dsimp
        refine hK _ _ ?_; clear hK K
        refine awp_seq_k fun K2 hK2 => ?_
        refine awp_sr rfl fun K hK => ?_
        simp -dsimp
        refine hK _ _ ?_; clear hK K
        refine awp_cond rfl (fun hc1 => ?_) (fun hc1 => ?_)
        · skip
          skip
          refine awp_sr rfl fun K hK => ?_
          simp -dsimp
          refine callK_intro _ (c_known) (by simp) ?_
          simp -dsimp
          refine hK _ _ ?_; clear hK K
          exact awp_ret (by simp)
        · skip
          skip
          simp at hc1
    | true =>
      refine PureCall.of_body Tryz.func3 rfl (by decide) (by simp [Tryz.ntmps3]) ?_
      simp only [Tryz.ntmps3, Tryz.results3]
      refine awp_sr rfl fun K hK => ?_
      simp -dsimp
      refine hK _ _ ?_; clear hK K
      refine awp_seq_k fun K1 hK1 => ?_
      refine awp_sr rfl fun K hK => ?_
      simp -dsimp
      refine callK_intro _ (c_few p hf) (by simp) ?_
      simp -dsimp
      refine callK_may _ (fun hm => c_Valid p) (by simp) ?_
      simp -dsimp
      refine callK_may _ (fun hm => c_rProfile x) (by simp) ?_
      simp -dsimp
      refine callK_may _ (fun hm => c_rProfile y) (by simp) ?_
      simp -dsimp
      refine hK _ _ ?_; clear hK K
      refine awp_cond rfl (fun hc0 => ?_) (fun hc0 => ?_)
      · skip
        skip
        refine awp_sr rfl fun K hK => ?_
        simp -dsimp
        refine callK_intro _ (c_known) (by simp) ?_
        simp -dsimp
        refine hK _ _ ?_; clear hK K
        exact awp_ret (by simp)
      · skip
        skip
        have hall : fewB p = true ∧ validB p = true ∧ profB x = true ∧ profB y = true ∧ a.length ≤ 12 ∧ b.length ≤ 12 := by simp at hc0; simp [hc0]; omega
        obtain ⟨hfw, hv, hx, hy, ha, hb⟩ := hall
        have hB' := hB
        simp only [carB, Bool.and_eq_true, decide_eq_true_eq] at hB'
        refine awp_skip ?_
        simp only [thenA, inBlockA, reduceIte, Nat.reduceEqDiff, eq_self]
        refine hK1 _ _ ?_
        refine awp_prune [1, 2, 5, 6, 7, 8, 11, 12] ?_
        simp only [prune, List.map_cons, List.map_nil, Go.AM.look, Nat.reduceEqDiff, reduceIte]
        refine awp_sr rfl fun K hK => ?_
        simp -dsimp
        refine callK_intro _ (c_tCovers_f p a front long hv (by omega) hA) (by simp) ?_
        simp -dsimp
        refine hK _ _ ?_; clear hK K
        refine awp_sr rfl fun K hK => ?_
        simp -dsimp
        refine callK_intro _ (c_tCovers_t p b other long hv hB'.1 hB'.2.1 hB'.2.2.1 hB'.2.2.2) (by simp) ?_
        simp -dsimp
        refine hK _ _ ?_; clear hK K
        refine awp_seq_k fun K2 hK2 => ?_
        refine awp_sr rfl fun K hK => ?_
        simp -dsimp
        refine hK _ _ ?_; clear hK K
        refine awp_cond rfl (fun hc1 => ?_) (fun hc1 => ?_)
        · skip
          skip
          refine awp_sr rfl fun K hK => ?_
          simp -dsimp
          refine callK_intro _ (c_known) (by simp) ?_
          simp -dsimp
          refine hK _ _ ?_; clear hK K
          exact awp_ret (by simp)
        · skip
          skip
          simp at hc1
  | true =>
    cases hB : carB p b other long with
    | false =>
      refine PureCall.of_body Tryz.func3 rfl (by decide) (by simp [Tryz.ntmps3]) ?_
      simp only [Tryz.ntmps3, Tryz.results3]
      refine awp_sr rfl fun K hK => ?_
      simp -dsimp
      refine hK _ _ ?_; clear hK K
      refine awp_seq_k fun K1 hK1 => ?_
      refine awp_sr rfl fun K hK => ?_
      simp -dsimp
      refine callK_intro _ (c_few p hf) (by simp) ?_
      simp -dsimp
      refine callK_may _ (fun hm => c_Valid p) (by simp) ?_
      simp -dsimp
      refine callK_may _ (fun hm => c_rProfile x) (by simp) ?_
      simp -dsimp
      refine callK_may _ (fun hm => c_rProfile y) (by simp) ?_
      simp -dsimp
      refine hK _ _ ?_; clear hK K
      refine awp_cond rfl (fun hc0 => ?_) (fun hc0 => ?_)
      · skip
        skip
        refine awp_sr rfl fun K hK => ?_
        simp -dsimp
        refine callK_intro _ (c_known) (by simp) ?_
        simp -dsimp
        refine hK _ _ ?_; clear hK K
        exact awp_ret (by simp)
      · skip
        skip
        have hall : fewB p = true ∧ validB p = true ∧ profB x = true ∧ profB y = true ∧ a.length ≤ 12 ∧ b.length ≤ 12 := by simp at hc0; simp [hc0]; omega
        obtain ⟨hfw, hv, hx, hy, ha, hb⟩ := hall
        have hA' := hA
        simp only [carB, Bool.and_eq_true, decide_eq_true_eq] at hA'
        refine awp_skip ?_
        simp only [thenA, inBlockA, reduceIte, Nat.reduceEqDiff, eq_self]
        refine hK1 _ _ ?_
        refine awp_prune [1, 2, 5, 6, 7, 8, 11, 12] ?_
        simp only [prune, List.map_cons, List.map_nil, Go.AM.look, Nat.reduceEqDiff, reduceIte]
        refine awp_sr rfl fun K hK => ?_
        simp -dsimp
        refine callK_intro _ (c_tCovers_t p a front long hv hA'.1 hA'.2.1 hA'.2.2.1 hA'.2.2.2) (by simp) ?_
        simp -dsimp
        refine hK _ _ ?_; clear hK K
        refine awp_sr rfl fun K hK => ?_
        simp -dsimp
        refine callK_intro _ (c_tCovers_f p b other long hv (by omega) hB) (by simp) ?_
        simp -dsimp
        refine hK _ _ ?_; clear hK K
        refine awp_seq_k fun K2 hK2 => ?_
        refine awp_sr rfl fun K hK => ?_
        simp -dsimp
        refine hK _ _ ?_; clear hK K
        refine awp_cond rfl (fun hc1 => ?_) (fun hc1 => ?_)
        · skip
          skip
          refine awp_sr rfl fun K hK => ?_
          simp -dsimp
          refine callK_intro _ (c_known) (by simp) ?_
          simp -dsimp
          refine hK _ _ ?_; clear hK K
          exact awp_ret (by simp)
        · skip
          skip
          simp at hc1
    | true =>
      refine PureCall.of_body Tryz.func3 rfl (by decide) (by simp [Tryz.ntmps3]) ?_
      simp only [Tryz.ntmps3, Tryz.results3]
      refine awp_sr rfl fun K hK => ?_
      simp -dsimp
      refine hK _ _ ?_; clear hK K
      refine awp_seq_k fun K1 hK1 => ?_
      refine awp_sr rfl fun K hK => ?_
      simp -dsimp
      refine callK_intro _ (c_few p hf) (by simp) ?_
      simp -dsimp
      refine callK_may _ (fun hm => c_Valid p) (by simp) ?_
      simp -dsimp
      refine callK_may _ (fun hm => c_rProfile x) (by simp) ?_
      simp -dsimp
      refine callK_may _ (fun hm => c_rProfile y) (by simp) ?_
      simp -dsimp
      refine hK _ _ ?_; clear hK K
      refine awp_cond rfl (fun hc0 => ?_) (fun hc0 => ?_)
      · skip
        skip
        refine awp_sr rfl fun K hK => ?_
        simp -dsimp
        refine callK_intro _ (c_known) (by simp) ?_
        simp -dsimp
        refine hK _ _ ?_; clear hK K
        exact awp_ret (by simp)
      · skip
        skip
        have hall : fewB p = true ∧ validB p = true ∧ profB x = true ∧ profB y = true ∧ a.length ≤ 12 ∧ b.length ≤ 12 := by simp at hc0; simp [hc0]; omega
        obtain ⟨hfw, hv, hx, hy, ha, hb⟩ := hall
        have hA' := hA
        have hB' := hB
        simp only [carB, Bool.and_eq_true, decide_eq_true_eq] at hA' hB'
        have hN : p.Rails.length ≤ 12 := by simp [fewB] at hfw; omega
        have q1 := c_tCovers_t p a front long hv hA'.1 hA'.2.1 hA'.2.2.1 hA'.2.2.2
        have q2 := c_tCovers_t p b other long hv hB'.1 hB'.2.1 hB'.2.2.1 hB'.2.2.2
        have hC := cv_covers (front := front) (long := long) hv hA'.1 ha
        have hD := cv_covers (front := other) (long := long) hv hB'.1 hb
        have lC := cvTo_len p a front long a.length
        have lD := cvTo_len p b other long b.length
        generalize cvTo p a front long a.length = C at q1 hC lC
        generalize cvTo p b other long b.length = D at q2 hD lD
        have q3 := c_Clear_t p C x D y hv (by simp [hx, hy]) hC hD
        have q4 := (c_Fouls_t p [x, y] hv (by simp [profsB, hx, hy]) hN).wk (args := [p.av, .full 2 [x.cells, y.cells]]) (by simp [AM.wk])
        have hFl : (foulsL p [x, y]).length ≤ 100000 := fouls_len hN (by simp)
        have law1 := stands_same (x := x) (y := y) hv hx hy hC hD
        have law2 := stands_clear (x := x) (y := y) hC hD
        generalize clearB p C x D y = cl at q3 law1 law2
        generalize foulsL p [x, y] = F at q4 hFl law2
        refine awp_skip ?_
        simp only [thenA, inBlockA, reduceIte, Nat.reduceEqDiff, eq_self]
        refine hK1 _ _ ?_
        refine awp_prune [1, 2, 5, 6, 7, 8, 11, 12] ?_
        simp only [prune, List.map_cons, List.map_nil, Go.AM.look, Nat.reduceEqDiff, reduceIte]
        refine awp_sr rfl fun K hK => ?_
        simp -dsimp
        refine callK_intro _ (q1) (by simp) ?_
        simp -dsimp
        refine hK _ _ ?_; clear hK K
        refine awp_sr rfl fun K hK => ?_
        simp -dsimp
        refine callK_intro _ (q2) (by simp) ?_
        simp -dsimp
        refine hK _ _ ?_; clear hK K
        refine awp_seq_k fun K2 hK2 => ?_
        refine awp_sr rfl fun K hK => ?_
        simp -dsimp
        refine hK _ _ ?_; clear hK K
        refine awp_cond rfl (fun hc1 => ?_) (fun hc1 => ?_)
        · skip
          skip
          simp at hc1
        · skip
          skip
          refine awp_skip ?_
          simp only [thenA, inBlockA, reduceIte, Nat.reduceEqDiff, eq_self]
          refine hK2 _ _ ?_
          refine awp_prune [8, 11, 12, 17, 19] ?_
          simp only [prune, List.map_cons, List.map_nil, Go.AM.look, Nat.reduceEqDiff, reduceIte]
          refine awp_sr rfl fun K hK => ?_
          simp -dsimp
          refine callK_intro _ (q3) (by simp) ?_
          simp -dsimp
          refine hK _ _ ?_; clear hK K
          refine awp_sr rfl fun K hK => ?_
          simp -dsimp
          refine callK_intro _ (q4) (by simp) ?_
          simp -dsimp
          refine hK _ _ ?_; clear hK K
          refine awp_seq_k fun K3 hK3 => ?_
          refine awp_sr rfl fun K hK => ?_
          simp -dsimp
          refine hK _ _ ?_; clear hK K
          refine awp_cond rfl (fun hc2 => ?_) (fun hc2 => ?_)
          · skip
            skip
            simp at hc2
          · skip
            skip
            refine awp_skip ?_
            simp only [thenA, inBlockA, reduceIte, Nat.reduceEqDiff, eq_self]
            refine hK3 _ _ ?_
            refine awp_prune [17, 19, 21, 23] ?_
            simp only [prune, List.map_cons, List.map_nil, Go.AM.look, Nat.reduceEqDiff, reduceIte]
            refine awp_sr rfl fun K hK => ?_
            simp -dsimp
            refine hK _ _ ?_; clear hK K
            refine awp_seq_k fun K4 hK4 => ?_
            refine awp_sr rfl fun K hK => ?_
            simp -dsimp
            refine hK _ _ ?_; clear hK K
            refine awp_block ?_
            refine awp_prune [17, 19, 21, 23, 25, 26, 27] ?_
            simp only [prune, List.map_cons, List.map_nil, Go.AM.look, Nat.reduceEqDiff, reduceIte]
            refine awp_loop_l [17, 19, 21, 23] (α := Nat) (fun i => [(27, I i), (25, Bo ((C.take i).any fun c => D.any (ovB c))), (26, Bo ((C.take i).any fun c => D.any fun d => hasF F (uOf c d)))]) (fun _ => [some (.els 2 [p.cells]), some (.els 2 [x.cells]), some (.els 2 [y.cells])]) (fun i => i ≤ C.length) (fun i => C.length - i) 0 ?_ ?_ ?_
            · simp
            · exact sub_same (by simp)
            rintro i i1
            simp only [List.cons_append, List.nil_append, prune, List.map_cons, List.map_nil, Go.AM.look, Nat.reduceEqDiff, reduceIte]
            refine awp_seq_k fun K5 hK5 => ?_
            refine awp_sr rfl fun K hK => ?_
            simp -dsimp
            refine hK _ _ ?_; clear hK K
            refine awp_cond rfl (fun hc3 => ?_) (fun hc3 => ?_)
            · skip
              try simp at hc3
              obtain ⟨c, hc⟩ : ∃ c, C[i]? = some c := ⟨_, List.getElem?_eq_getElem hc3⟩
              have wi : IntKind.i64.wrap ((i : Int) + 1) = (i : Int) + 1 := wrap_in (by omega) (by omega)
              have e1 := any_take (q := fun c => D.any (ovB c)) hc
              have e2 := any_take (q := fun c => D.any fun d => hasF F (uOf c d)) hc
              generalize hS : ((C.take i).any fun c => D.any (ovB c)) = S at e1 ⊢
              generalize hU : ((C.take i).any fun c => D.any fun d => hasF F (uOf c d)) = U at e2 ⊢
              refine awp_skip ?_
              simp only [thenA, inBlockA, reduceIte, Nat.reduceEqDiff, eq_self]
              refine hK5 _ _ ?_
              refine awp_prune [17, 19, 21, 23, 25, 26, 27] ?_
              simp only [prune, List.map_cons, List.map_nil, Go.AM.look, Nat.reduceEqDiff, reduceIte]
              refine awp_seq_k fun K6 hK6 => ?_
              refine awp_block ?_
              refine awp_sr rfl fun K hK => ?_
              simp -dsimp
              refine hK _ _ ?_; clear hK K
              refine awp_block ?_
              refine awp_prune [17, 19, 21, 23, 25, 26, 27, 28] ?_
              simp only [prune, List.map_cons, List.map_nil, Go.AM.look, Nat.reduceEqDiff, reduceIte]
              refine awp_loop_l [17, 19, 21, 23, 27] (α := Nat) (fun j => [(28, I j), (25, Bo (S || (D.take j).any (ovB c))), (26, Bo (U || (D.take j).any fun d => hasF F (uOf c d)))]) (fun _ => [some (.els 2 [p.cells]), some (.els 2 [x.cells]), some (.els 2 [y.cells])]) (fun j => j ≤ D.length) (fun j => D.length - j) 0 ?_ ?_ ?_
              · simp
              · exact sub_same (by simp)
              rintro j j1
              simp only [List.cons_append, List.nil_append, prune, List.map_cons, List.map_nil, Go.AM.look, Nat.reduceEqDiff, reduceIte]
              refine awp_seq_k fun K7 hK7 => ?_
              refine awp_sr rfl fun K hK => ?_
              simp -dsimp
              refine hK _ _ ?_; clear hK K
              refine awp_cond rfl (fun hc4 => ?_) (fun hc4 => ?_)
              · skip
                try simp at hc4
                obtain ⟨d, hd⟩ : ∃ d, D[j]? = some d := ⟨_, List.getElem?_eq_getElem hc4⟩
                have wj : IntKind.i64.wrap ((j : Int) + 1) = (j : Int) + 1 := wrap_in (by omega) (by omega)
                have hov : ovB c d = (c.Rail == d.Rail && decide (c.From < d.To) && decide (d.From < c.To)) := by unfold ovB; exact Bool.eq_iff_iff.2 (by simp [and_assoc])
                have e3 := any_take (q := ovB c) hd
                have e4 := any_take (q := fun d => hasF F (uOf c d)) hd
                generalize (D.take j).any (ovB c) = S2 at e3 ⊢
                generalize (D.take j).any (fun d => hasF F (uOf c d)) = U2 at e4 ⊢
                refine awp_skip ?_
                simp only [thenA, inBlockA, reduceIte, Nat.reduceEqDiff, eq_self]
                refine hK7 _ _ ?_
                refine awp_prune [17, 19, 21, 23, 25, 26, 27, 28] ?_
                simp only [prune, List.map_cons, List.map_nil, Go.AM.look, Nat.reduceEqDiff, reduceIte]
                refine awp_seq_k fun K8 hK8 => ?_
                refine awp_block ?_
                refine awp_sd mixed rfl fun K hK => ?_
                simp -dsimp [hc, hd]
                refine idxK_intro c.cells (fun _ => by simp [hc]) ?_
                simp -dsimp [hc, hd]
                refine idxK_intro d.cells (fun _ => by simp [hd]) ?_
                simp -dsimp [hc, hd]
                refine idxK_intro c.cells (fun _ => by simp [hc]) ?_
                simp -dsimp [hc, hd]
                refine idxK_intro d.cells (fun _ => by simp [hd]) ?_
                simp -dsimp [hc, hd]
                refine idxK_intro d.cells (fun _ => by simp [hd]) ?_
                simp -dsimp [hc, hd]
                refine idxK_intro c.cells (fun _ => by simp [hc]) ?_
                simp -dsimp [hc, hd]
                refine hK _ _ _ (by decide +kernel) ?_; clear hK K
                refine awp_sd mixed rfl fun K hK => ?_
                simp -dsimp [hc, hd]
                refine hK _ _ _ (by decide +kernel) ?_; clear hK K
                refine awp_seq_k fun K9 hK9 => ?_
                refine awp_sr rfl fun K hK => ?_
                simp -dsimp
                refine hK _ _ ?_; clear hK K
                refine awp_cond rfl (fun hc5 => ?_) (fun hc5 => ?_)
                · skip
                  try simp at hc5
                  have hu : uOf c d = ⟨d.Rail, 1, c.Rail, 0⟩ := if_pos hc5
                  refine awp_draw mixed rfl fun K hK => ?_
                  simp -dsimp [hc, hd]
                  refine hK _ _ _ (by decide +kernel) ?_; clear hK K
                  simp only [thenA, inBlockA, reduceIte, Nat.reduceEqDiff, eq_self]
                  refine hK9 _ _ ?_
                  refine awp_prune [17, 19, 21, 23, 25, 26, 27, 28, 29] ?_
                  simp only [prune, List.map_cons, List.map_nil, Go.AM.look, Nat.reduceEqDiff, reduceIte]
                  refine awp_r rfl fun K hK => ?_
                  simp -dsimp
                  refine callK_may _ (fun hm => c_hasB F ⟨d.Rail, 1, c.Rail, 0⟩ hFl) (by simp) ?_
                  simp -dsimp
                  refine hK _ _ ?_; clear hK K
                  simp only [thenA, inBlockA, reduceIte, Nat.reduceEqDiff, eq_self]
                  refine hK8 _ _ ?_
                  refine awp_prune [17, 19, 21, 23, 25, 26, 27, 28] ?_
                  simp only [prune, List.map_cons, List.map_nil, Go.AM.look, Nat.reduceEqDiff, reduceIte]
                  refine awp_r rfl fun K hK => ?_
                  simp -dsimp [wj]
                  refine hK _ _ ?_; clear hK K
                  simp only [thenA, inBlockA, reduceIte, Nat.reduceEqDiff, eq_self]
                  exact ⟨j + 1, by omega, by omega, sub_rb [some 0, some 1, some 2] rfl (by simp [e3, e4, hu, hov, Bool.or_assoc]) (by simp)⟩
                · skip
                  try simp at hc5
                  have hu : uOf c d = ⟨c.Rail, 0, d.Rail, 1⟩ := if_neg (by omega)
                  refine awp_skip ?_
                  simp only [thenA, inBlockA, reduceIte, Nat.reduceEqDiff, eq_self]
                  refine hK9 _ _ ?_
                  refine awp_prune [17, 19, 21, 23, 25, 26, 27, 28, 29] ?_
                  simp only [prune, List.map_cons, List.map_nil, Go.AM.look, Nat.reduceEqDiff, reduceIte]
                  refine awp_r rfl fun K hK => ?_
                  simp -dsimp
                  refine callK_may _ (fun hm => c_hasB F ⟨c.Rail, 0, d.Rail, 1⟩ hFl) (by simp) ?_
                  simp -dsimp
                  refine hK _ _ ?_; clear hK K
                  simp only [thenA, inBlockA, reduceIte, Nat.reduceEqDiff, eq_self]
                  refine hK8 _ _ ?_
                  refine awp_prune [17, 19, 21, 23, 25, 26, 27, 28] ?_
                  simp only [prune, List.map_cons, List.map_nil, Go.AM.look, Nat.reduceEqDiff, reduceIte]
                  refine awp_r rfl fun K hK => ?_
                  simp -dsimp [wj]
                  refine hK _ _ ?_; clear hK K
                  simp only [thenA, inBlockA, reduceIte, Nat.reduceEqDiff, eq_self]
                  exact ⟨j + 1, by omega, by omega, sub_rb [some 0, some 1, some 2] rfl (by simp [e3, e4, hu, hov, Bool.or_assoc]) (by simp)⟩
              · skip
                try simp at hc4
                have hje : j = D.length := by omega
                subst hje
                refine awp_exit ?_
                simp only [thenA, inBlockA, reduceIte, Nat.reduceEqDiff, eq_self]
                refine hK6 _ _ ?_
                refine awp_prune [17, 19, 21, 23, 25, 26, 27] ?_
                simp only [prune, List.map_cons, List.map_nil, Go.AM.look, Nat.reduceEqDiff, reduceIte]
                refine awp_r rfl fun K hK => ?_
                simp -dsimp [wi]
                refine hK _ _ ?_; clear hK K
                simp only [thenA, inBlockA, reduceIte, Nat.reduceEqDiff, eq_self]
                exact ⟨i + 1, by omega, by omega, sub_rb [some 0, some 1, some 2] rfl (by simp [e1, e2]) (by simp)⟩
            · skip
              try simp at hc3
              have hie : i = C.length := by omega
              subst hie
              rw [List.take_length]
              generalize (C.any fun c => D.any (ovB c)) = S at law1 ⊢
              generalize (C.any fun c => D.any fun d => hasF F (uOf c d)) = U at law2 ⊢
              refine awp_exit ?_
              simp only [thenA, inBlockA, reduceIte, Nat.reduceEqDiff, eq_self]
              refine hK4 _ _ ?_
              refine awp_prune [21, 25, 26] ?_
              simp only [prune, List.map_cons, List.map_nil, Go.AM.look, Nat.reduceEqDiff, reduceIte]
              refine awp_sr rfl fun K hK => ?_
              simp -dsimp
              refine callK_may _ (fun hm => c_known) (by simp) ?_
              simp -dsimp
              refine hK _ _ ?_; clear hK K
              refine awp_ret ?_
              cases S <;> cases cl <;> cases U <;> simp_all
end Go.Tram
