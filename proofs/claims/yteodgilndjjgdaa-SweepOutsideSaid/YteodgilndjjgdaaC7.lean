/- The law SweepOutside holds for every input: the theorem of fouling points. No condition beyond the statement's own. -/
import Derived.Test.YteodgilndjjgdaaS4
import Derived.Test.YteodgilndjjgdaaL5
import Derived.Test.YteodgilndjjgdaaL7
import Derived.Test.YteodgilndjjgdaaT2
namespace Go.Tram
open Go.AM
set_option linter.unusedVariables false

/-- Parts overlap. -/
def lap (F T : Int) (c : Cover) : Prop := F < c.To ∧ c.From < T
def lapS (F T : Int) (s : SS) : Prop := F < s.To ∧ s.From < T

theorem zoneStep_lap {F T r : Int} {out : List Cover} {s : SS} (hFT : F < T) (hs : s.From < s.To) (ho : ∀ c ∈ out, c.From < c.To) :
    ((∃ c ∈ zoneStep r out s, lap F T c) ↔ (∃ c ∈ out, lap F T c) ∨ lapS F T s) ∧ ∀ c ∈ zoneStep r out s, c.From < c.To := by
  unfold zoneStep
  split
  · rename_i c hc
    have hsplit : out = out.dropLast ++ [c] := by
      have hne : out ≠ [] := by rintro rfl; simp at hc
      have h1 := List.dropLast_concat_getLast hne
      rw [List.getLast?_eq_some_getLast hne] at hc
      simp only [Option.some.injEq] at hc
      rw [hc] at h1
      exact h1.symm
    generalize out.dropLast = i at hsplit
    subst hsplit
    have hcc := ho c (by simp)
    split
    · rename_i he
      refine ⟨⟨?_, ?_⟩, ?_⟩
      · rintro ⟨d, hd, h1, h2⟩
        rcases List.mem_append.1 hd with hd | hd
        · exact Or.inl ⟨d, by simp [hd], h1, h2⟩
        · simp only [List.mem_singleton] at hd
          subst hd
          simp only at h1 h2
          by_cases hq : F < c.To
          · exact Or.inl ⟨c, by simp, hq, h2⟩
          · exact Or.inr ⟨h1, by omega⟩
      · rintro (⟨d, hd, h1, h2⟩ | ⟨h1, h2⟩)
        · rcases List.mem_append.1 hd with hd | hd
          · exact ⟨d, by simp [hd], h1, h2⟩
          · simp only [List.mem_singleton] at hd
            subst hd
            exact ⟨⟨d.Rail, d.From, s.To⟩, by simp, by simp only []; omega, h2⟩
        · exact ⟨⟨c.Rail, c.From, s.To⟩, by simp, h1, by simp only []; omega⟩
      · intro d hd
        rcases List.mem_append.1 hd with hd | hd
        · exact ho d (by simp [hd])
        · simp only [List.mem_singleton] at hd
          subst hd
          simp only []; omega
    · refine ⟨⟨?_, ?_⟩, ?_⟩
      · rintro ⟨d, hd, h1, h2⟩
        rcases List.mem_append.1 hd with hd | hd
        · exact Or.inl ⟨d, hd, h1, h2⟩
        · simp only [List.mem_singleton] at hd
          subst hd
          exact Or.inr ⟨h1, h2⟩
      · rintro (⟨d, hd, h1, h2⟩ | ⟨h1, h2⟩)
        · exact ⟨d, List.mem_append_left _ hd, h1, h2⟩
        · exact ⟨⟨r, s.From, s.To⟩, by simp, h1, h2⟩
      · intro d hd
        rcases List.mem_append.1 hd with hd | hd
        · exact ho d hd
        · simp only [List.mem_singleton] at hd
          subst hd
          exact hs
  · rename_i hc
    have hne : out = [] := by simpa using hc
    subst hne
    refine ⟨⟨?_, ?_⟩, ?_⟩
    · rintro ⟨d, hd, h1, h2⟩
      simp only [List.mem_singleton] at hd
      subst hd
      exact Or.inr ⟨h1, h2⟩
    · rintro (⟨d, hd, _⟩ | ⟨h1, h2⟩)
      · cases hd
      · exact ⟨⟨r, s.From, s.To⟩, by simp, h1, h2⟩
    · intro d hd
      simp only [List.mem_singleton] at hd
      subst hd
      exact hs

theorem zoneL_lap {p : Plan} {a : Int} {x : Profile} {b : Int} {y : Profile} {F T : Int} (hFT : F < T) : ∀ (l : List SS) (out : List Cover), (∀ s ∈ l, s.From < s.To) → (∀ c ∈ out, c.From < c.To) →
    ((∃ c ∈ l.foldl (fun out s => if zoneHit p x b y s then zoneStep a out s else out) out, lap F T c) ↔ (∃ c ∈ out, lap F T c) ∨ ∃ s ∈ l, zoneHit p x b y s = true ∧ lapS F T s)
  | [], out, _, _ => by simp
  | s :: l, out, hl, ho => by
    simp only [List.foldl_cons]
    have hs := hl s (by simp)
    by_cases hh : zoneHit p x b y s = true
    · rw [if_pos hh]
      obtain ⟨h1, h2⟩ := zoneStep_lap (r := a) hFT hs ho
      rw [zoneL_lap hFT l _ (fun t ht => hl t (by simp [ht])) h2, h1]
      constructor
      · rintro ((h | h) | ⟨t, ht, h⟩)
        · exact Or.inl h
        · exact Or.inr ⟨s, by simp, hh, h⟩
        · exact Or.inr ⟨t, by simp [ht], h⟩
      · rintro (h | ⟨t, ht, hq, h⟩)
        · exact Or.inl (Or.inl h)
        · rcases List.mem_cons.1 ht with rfl | ht
          · exact Or.inl (Or.inr h)
          · exact Or.inr ⟨t, ht, hq, h⟩
    · rw [if_neg hh, zoneL_lap hFT l _ (fun t ht => hl t (by simp [ht])) ho]
      constructor
      · rintro (h | ⟨t, ht, h⟩)
        · exact Or.inl h
        · exact Or.inr ⟨t, by simp [ht], h⟩
      · rintro (h | ⟨t, ht, hq, h⟩)
        · exact Or.inl h
        · rcases List.mem_cons.1 ht with rfl | ht
          · exact absurd hq hh
          · exact Or.inr ⟨t, ht, hq, h⟩

theorem strips_lt {p : Plan} {r : Int} (ro : RailOk p r) {s : SS} (hs : s ∈ p.strips r) : s.From < s.To ∧ 0 ≤ s.From ∧ s.To ≤ p.len r := by
  simp only [Plan.strips, stripsTo, List.mem_map, List.mem_range] at hs
  obtain ⟨k, hk, rfl⟩ := hs
  have hl := ro.len
  have h1 := (ro.seg k (by omega)).1
  have h2 := sumTo_bd ro k (by omega)
  have mono : ∀ m n, m ≤ n → n + 1 ≤ (p.line r).length → sumTo (p.line r) m ≤ sumTo (p.line r) n := by
    intro m n hmn
    induction n with
    | zero => intro _; have : m = 0 := by omega
              subst this; exact Int.le_refl _
    | succ n ih =>
      intro hn
      rcases Nat.lt_or_ge n m with h | h
      · have : m = n + 1 := by omega
        subst this; exact Int.le_refl _
      · have q1 := ih h (by omega)
        have q2 := (ro.seg n (by omega)).1
        simp only [sumTo]; omega
  have h3 := mono (k + 1) ((p.rail r).Shape.length + 1) (by omega) (by omega)
  unfold Plan.len
  simp only [stripOf]
  simp only [sumTo] at h3 ⊢
  omega

/-- Whether a part lies in what is foul of its rail. -/
def insideB (p : Plan) (a : Cover) (x : Profile) (b : Int) (y : Profile) : Bool := (zone p a.Rail x b y).any fun c => decide (a.From < c.To) && decide (c.From < a.To)

theorem inside_iff {p : Plan} {a : Cover} {x : Profile} {b : Int} {y : Profile} (ra : RailOk p a.Rail) (h : a.From < a.To) :
    insideB p a x b y = (touchedOne p a).any fun s => zoneHit p x b y s := by
  rw [Bool.eq_iff_iff]
  have hz := zoneL_lap (p := p) (a := a.Rail) (x := x) (b := b) (y := y) h (p.strips a.Rail) [] (fun s hs => (strips_lt ra hs).1) (by simp)
  simp only [insideB, List.any_eq_true, Bool.and_eq_true, decide_eq_true_eq]
  have e : ∀ c, (a.From < c.To ∧ c.From < a.To) = lap a.From a.To c := fun c => rfl
  simp only [e]
  unfold zone zoneL
  rw [hz]
  constructor
  · rintro (⟨c, hc, _⟩ | ⟨s, hs, hh, h1, h2⟩)
    · cases hc
    · exact ⟨s, List.mem_filter.2 ⟨hs, by simp [h1, h2]⟩, hh⟩
  · rintro ⟨s, hs, hh⟩
    obtain ⟨h1, h2⟩ := List.mem_filter.1 hs
    simp only [Bool.and_eq_true, decide_eq_true_eq] at h2
    exact Or.inr ⟨s, h1, hh, h2⟩

theorem touched_one (p : Plan) (c : Cover) : touched p [c] = touchedOne p c := by simp [touched]
theorem touched_full {p : Plan} {r : Int} (ro : RailOk p r) : touched p [⟨r, 0, p.len r⟩] = p.strips r := by
  rw [touched_one]
  unfold touchedOne
  rw [List.filter_eq_self]
  intro s hs
  have := strips_lt ro hs
  simp only [Bool.and_eq_true, decide_eq_true_eq]
  omega

/-- The theorem of fouling points. -/
theorem clear_full {p : Plan} {a : Cover} {x : Profile} {b : Int} {y : Profile} (ra : RailOk p a.Rail) (rb : RailOk p b) (h : a.From < a.To) : clearB p [a] x [⟨b, 0, p.len b⟩] y = !insideB p a x b y := by
  rw [inside_iff ra h]
  unfold clearB
  rw [touched_one, touched_full rb]
  rfl
theorem clear_out {p : Plan} {a b : Cover} {x y : Profile} (ra : RailOk p a.Rail) (rb : RailOk p b.Rail) (h : a.From < a.To) (hi : insideB p a x b.Rail y = false) : clearB p [a] x [b] y = true := by
  rw [inside_iff ra h, List.any_eq_false] at hi
  unfold clearB
  rw [touched_one, touched_one, Bool.not_eq_true', List.any_eq_false]
  intro s hs
  have := hi s hs
  unfold zoneHit at this
  simp only [Bool.not_eq_true, List.any_eq_false] at this ⊢
  intro t ht
  exact this t (List.mem_filter.1 ht).1
theorem full_cover {p : Plan} {r : Int} (ro : RailOk p r) : 0 < p.len r := by
  have hk : stripOf (p.line r) r 0 ∈ p.strips r := by simp only [Plan.strips, stripsTo, List.mem_map, List.mem_range]; exact ⟨0, by omega, rfl⟩
  have := strips_lt ro hk
  omega
end Go.Tram

namespace Go.Tram
open Go.AM Go.Proofs
set_option maxRecDepth 100000
set_option maxHeartbeats 4000000
set_option linter.unusedVariables false
set_option linter.unusedSimpArgs false

theorem c_SweepOutside (p : Plan) (a : Cover) (x : Profile) (b : Cover) (y : Profile) (hf : p.Fit) : PureCall Try.prog 9 [p.av, a.av, x.av, b.av, y.av] (Bo true) := by
  cases hok : (fewB p && (validB p && (profB x && (profB y && coversB p [a, b])))) with
  | false =>
    refine PureCall.of_body Try.func9 rfl (by decide) (by simp [Try.ntmps9]) ?_
    simp only [Try.ntmps9, Try.results9]
    refine awp_sr rfl fun K hK => ?_
    simp -dsimp
    refine hK _ _ ?_; clear hK K
    refine awp_seq_k fun K1 hK1 => ?_
    refine awp_sr rfl fun K hK => ?_
    simp -dsimp
    refine callK_intro _ (c_few p hf) (by simp) ?_
    simp -dsimp
    refine callK_may _ (fun hm => c_Valid p) (by simp) ?_
    simp -dsimp
    refine callK_may _ (fun hm => c_rProfile x) (by simp) ?_
    simp -dsimp
    refine callK_may _ (fun hm => c_rProfile y) (by simp) ?_
    simp -dsimp
    refine callK_may _ (fun hm => ((c_rCovers p [a, b] (by simp at hm; exact hm.1.1.2) (by simp)).wk (args := [p.av, .full 3 [a.cells, b.cells]]) (by simp [AM.wk]))) (by simp) ?_
    simp -dsimp
    refine hK _ _ ?_; clear hK K
    refine awp_cond rfl (fun hc0 => ?_) (fun hc0 => ?_)
    · skip
      skip
      refine awp_sr rfl fun K hK => ?_
      simp -dsimp
      refine callK_intro _ (c_known) (by simp) ?_
      simp -dsimp
      refine hK _ _ ?_; clear hK K
      exact awp_ret (by simp)
    · skip
      skip
      exfalso; simp at hc0; simp [hc0] at hok
  | true =>
    have hall : fewB p = true ∧ validB p = true ∧ profB x = true ∧ profB y = true ∧ coversB p [a, b] = true := by simpa using hok
    obtain ⟨hfw, hv, hx, hy, hc⟩ := hall
    have hab : coverB p a = true ∧ coverB p b = true := by simpa [coversB] using hc
    have ca := coverB_iff.1 hab.1
    have cb := coverB_iff.1 hab.2
    have ia := inr_iff.1 ca.1
    have ib := inr_iff.1 cb.1
    have ra := rail_ok hv (r := a.Rail) (by omega) (by omega)
    have rb := rail_ok hv (r := b.Rail) (by omega) (by omega)
    have hfl := full_cover rb
    have hfull : coverB p ⟨b.Rail, 0, p.len b.Rail⟩ = true := coverB_iff.2 ⟨cb.1, by simp, hfl, by simp⟩
    have hfew := c_few p hf
    have hval := c_Valid p
    have hpx := c_rProfile x
    have hpy := c_rProfile y
    have hco := (c_rCovers p [a, b] hv (by simp)).wk (args := [p.av, .full 3 [a.cells, b.cells]]) (by simp [AM.wk])
    rw [hfw] at hfew
    rw [hv] at hval
    rw [hx] at hpx
    rw [hy] at hpy
    rw [hc] at hco
    have hz := c_Zone_t p a.Rail x b.Rail y hv ca.1 cb.1 hx hy
    have hzl := zone_len (x := x) (b := b.Rail) (y := y) hv ca.1
    have k1 := c_Clear p [a] x [b] y
    rw [if_pos (by simp [clearOk, hv, hx, hy, coversB, hab])] at k1
    have k2 := c_Clear p [a] x [⟨b.Rail, 0, p.len b.Rail⟩] y
    rw [if_pos (by simp [clearOk, hv, hx, hy, coversB, hab, hfull]), clear_full ra rb ca.2.2.1] at k2
    have hout := clear_out (x := x) (y := y) ra rb ca.2.2.1
    have k1' := k1.wk (args := [p.av, .full 3 [a.cells], x.av, .full 3 [b.cells], y.av]) (by simp [AM.wk, Function.comp_def])
    have k2' := k2.wk (args := [p.av, .full 3 [a.cells], x.av, .full 3 [[I b.Rail, I 0, I (p.len b.Rail)]], y.av]) (by simp [AM.wk, Function.comp_def])
    have hL := c_rLength p b.Rail (by omega) (by omega) rb
    have hins : insideB p a x b.Rail y = (zone p a.Rail x b.Rail y).any fun c => decide (a.From < c.To) && decide (c.From < a.To) := rfl
    generalize zone p a.Rail x b.Rail y = Z at *
    generalize clearB p [a] x [b] y = fo at *
    cases hu : insideB p a x b.Rail y with
    | false =>
      rw [hu] at k2' hins
      obtain rfl := hout hu
      refine PureCall.of_body Try.func9 rfl (by decide) (by simp [Try.ntmps9]) ?_
      simp only [Try.ntmps9, Try.results9]
      refine awp_sr rfl fun K hK => ?_
      simp -dsimp
      refine hK _ _ ?_; clear hK K
      refine awp_seq_k fun K1 hK1 => ?_
      refine awp_sr rfl fun K hK => ?_
      simp -dsimp
      refine callK_intro _ (hfew) (by simp) ?_
      simp -dsimp
      refine callK_may _ (fun hm => hval) (by simp) ?_
      simp -dsimp
      refine callK_may _ (fun hm => hpx) (by simp) ?_
      simp -dsimp
      refine callK_may _ (fun hm => hpy) (by simp) ?_
      simp -dsimp
      refine callK_may _ (fun hm => hco) (by simp) ?_
      simp -dsimp
      refine hK _ _ ?_; clear hK K
      refine awp_cond rfl (fun hc0 => ?_) (fun hc0 => ?_)
      · skip
        skip
        simp at hc0
      · skip
        skip
        refine awp_skip ?_
        simp only [thenA, inBlockA, reduceIte, Nat.reduceEqDiff, eq_self]
        refine hK1 _ _ ?_
        refine awp_prune [5, 6, 7, 8, 9] ?_
        simp only [prune, List.map_cons, List.map_nil, Go.AM.look, Nat.reduceEqDiff, reduceIte]
        refine awp_sr rfl fun K hK => ?_
        simp -dsimp
        refine callK_intro _ (hz) (by simp) ?_
        simp -dsimp
        refine hK _ _ ?_; clear hK K
        refine awp_sr rfl fun K hK => ?_
        simp -dsimp
        refine callK_intro _ (k1') (by simp) ?_
        simp -dsimp
        refine hK _ _ ?_; clear hK K
        refine awp_sd mixed rfl fun K hK => ?_
        simp -dsimp
        refine callK_intro _ (hL) (by simp) ?_
        simp -dsimp
        refine callK_intro _ (k2') (by simp) ?_
        simp -dsimp
        refine hK _ _ _ (by decide +kernel) ?_; clear hK K
        refine awp_seq_k fun K2 hK2 => ?_
        refine awp_sr rfl fun K hK => ?_
        simp -dsimp
        refine hK _ _ ?_; clear hK K
        refine awp_cond rfl (fun hc1 => ?_) (fun hc1 => ?_)
        · skip
          skip
          simp at hc1
        · skip
          skip
          refine awp_skip ?_
          simp only [thenA, inBlockA, reduceIte, Nat.reduceEqDiff, eq_self]
          refine hK2 _ _ ?_
          refine awp_prune [6, 11, 13, 15] ?_
          simp only [prune, List.map_cons, List.map_nil, Go.AM.look, Nat.reduceEqDiff, reduceIte]
          refine awp_sr rfl fun K hK => ?_
          simp -dsimp
          refine hK _ _ ?_; clear hK K
          refine awp_seq_k fun K3 hK3 => ?_
          refine awp_sr rfl fun K hK => ?_
          simp -dsimp
          refine hK _ _ ?_; clear hK K
          refine awp_block ?_
          refine awp_prune [6, 11, 13, 15, 17, 18] ?_
          simp only [prune, List.map_cons, List.map_nil, Go.AM.look, Nat.reduceEqDiff, reduceIte]
          refine awp_loop_l [6, 11, 13, 15] (α := Nat) (fun k => [(18, I k), (17, Bo ((Z.take k).any fun c => decide (a.From < c.To) && decide (c.From < a.To)))]) (fun _ => [some (.els 2 [p.cells]), some (.els 3 [a.cells]), some (.els 2 [x.cells]), some (.els 3 [b.cells]), some (.els 2 [y.cells])]) (fun k => k ≤ Z.length) (fun k => Z.length - k) 0 ?_ ?_ ?_
          · simp
          · exact sub_same (by simp)
          rintro k k1
          simp only [List.cons_append, List.nil_append, prune, List.map_cons, List.map_nil, Go.AM.look, Nat.reduceEqDiff, reduceIte]
          refine awp_seq_k fun K4 hK4 => ?_
          refine awp_sr rfl fun K hK => ?_
          simp -dsimp
          refine hK _ _ ?_; clear hK K
          refine awp_cond rfl (fun hc2 => ?_) (fun hc2 => ?_)
          · skip
            try simp at hc2
            obtain ⟨c, hc⟩ : ∃ c, Z[k]? = some c := ⟨_, List.getElem?_eq_getElem hc2⟩
            have wk : IntKind.i64.wrap ((k : Int) + 1) = (k : Int) + 1 := wrap_in (by omega) (by omega)
            refine awp_skip ?_
            simp only [thenA, inBlockA, reduceIte, Nat.reduceEqDiff, eq_self]
            refine hK4 _ _ ?_
            refine awp_prune [6, 11, 13, 15, 17, 18] ?_
            simp only [prune, List.map_cons, List.map_nil, Go.AM.look, Nat.reduceEqDiff, reduceIte]
            refine awp_seq_k fun K5 hK5 => ?_
            refine awp_block ?_
            refine awp_draw mixed rfl fun K hK => ?_
            simp -dsimp [hc]
            refine idxK_intro c.cells (fun _ => by simp [hc]) ?_
            simp -dsimp [hc]
            refine idxK_intro c.cells (fun _ => by simp [hc]) ?_
            simp -dsimp [hc]
            refine hK _ _ _ (by decide +kernel) ?_; clear hK K
            simp only [thenA, inBlockA, reduceIte, Nat.reduceEqDiff, eq_self]
            refine hK5 _ _ ?_
            refine awp_prune [6, 11, 13, 15, 17, 18] ?_
            simp only [prune, List.map_cons, List.map_nil, Go.AM.look, Nat.reduceEqDiff, reduceIte]
            refine awp_r rfl fun K hK => ?_
            simp -dsimp [wk]
            refine hK _ _ ?_; clear hK K
            simp only [thenA, inBlockA, reduceIte, Nat.reduceEqDiff, eq_self]
            exact ⟨k + 1, by omega, by omega, sub_same (by simp [any_take hc])⟩
          · skip
            try simp at hc2
            have hany : (Z.take k).any (fun c => decide (a.From < c.To) && decide (c.From < a.To)) = false := by rw [List.take_of_length_le (by omega)]; exact hins.symm
            rw [hany]
            refine awp_exit ?_
            simp only [thenA, inBlockA, reduceIte, Nat.reduceEqDiff, eq_self]
            refine hK3 _ _ ?_
            refine awp_prune [13, 15, 17] ?_
            simp only [prune, List.map_cons, List.map_nil, Go.AM.look, Nat.reduceEqDiff, reduceIte]
            refine awp_sr rfl fun K hK => ?_
            simp -dsimp
            refine ⟨fun w => ne_guard _ _ _ _ _ w und_bool, .bool true, fun w => by rw [ne_bool _ _ _ w kt_bool]; rfl, ?_⟩
            simp -dsimp
            refine callK_may _ (fun hm => c_known) (by simp) ?_
            simp -dsimp
            refine hK _ _ ?_; clear hK K
            exact awp_ret (by simp)
    | true =>
      rw [hu] at k2' hins
      refine PureCall.of_body Try.func9 rfl (by decide) (by simp [Try.ntmps9]) ?_
      simp only [Try.ntmps9, Try.results9]
      refine awp_sr rfl fun K hK => ?_
      simp -dsimp
      refine hK _ _ ?_; clear hK K
      refine awp_seq_k fun K1 hK1 => ?_
      refine awp_sr rfl fun K hK => ?_
      simp -dsimp
      refine callK_intro _ (hfew) (by simp) ?_
      simp -dsimp
      refine callK_may _ (fun hm => hval) (by simp) ?_
      simp -dsimp
      refine callK_may _ (fun hm => hpx) (by simp) ?_
      simp -dsimp
      refine callK_may _ (fun hm => hpy) (by simp) ?_
      simp -dsimp
      refine callK_may _ (fun hm => hco) (by simp) ?_
      simp -dsimp
      refine hK _ _ ?_; clear hK K
      refine awp_cond rfl (fun hc0 => ?_) (fun hc0 => ?_)
      · skip
        skip
        simp at hc0
      · skip
        skip
        refine awp_skip ?_
        simp only [thenA, inBlockA, reduceIte, Nat.reduceEqDiff, eq_self]
        refine hK1 _ _ ?_
        refine awp_prune [5, 6, 7, 8, 9] ?_
        simp only [prune, List.map_cons, List.map_nil, Go.AM.look, Nat.reduceEqDiff, reduceIte]
        refine awp_sr rfl fun K hK => ?_
        simp -dsimp
        refine callK_intro _ (hz) (by simp) ?_
        simp -dsimp
        refine hK _ _ ?_; clear hK K
        refine awp_sr rfl fun K hK => ?_
        simp -dsimp
        refine callK_intro _ (k1') (by simp) ?_
        simp -dsimp
        refine hK _ _ ?_; clear hK K
        refine awp_sd mixed rfl fun K hK => ?_
        simp -dsimp
        refine callK_intro _ (hL) (by simp) ?_
        simp -dsimp
        refine callK_intro _ (k2') (by simp) ?_
        simp -dsimp
        refine hK _ _ _ (by decide +kernel) ?_; clear hK K
        refine awp_seq_k fun K2 hK2 => ?_
        refine awp_sr rfl fun K hK => ?_
        simp -dsimp
        refine hK _ _ ?_; clear hK K
        refine awp_cond rfl (fun hc1 => ?_) (fun hc1 => ?_)
        · skip
          skip
          simp at hc1
        · skip
          skip
          refine awp_skip ?_
          simp only [thenA, inBlockA, reduceIte, Nat.reduceEqDiff, eq_self]
          refine hK2 _ _ ?_
          refine awp_prune [6, 11, 13, 15] ?_
          simp only [prune, List.map_cons, List.map_nil, Go.AM.look, Nat.reduceEqDiff, reduceIte]
          refine awp_sr rfl fun K hK => ?_
          simp -dsimp
          refine hK _ _ ?_; clear hK K
          refine awp_seq_k fun K3 hK3 => ?_
          refine awp_sr rfl fun K hK => ?_
          simp -dsimp
          refine hK _ _ ?_; clear hK K
          refine awp_block ?_
          refine awp_prune [6, 11, 13, 15, 17, 18] ?_
          simp only [prune, List.map_cons, List.map_nil, Go.AM.look, Nat.reduceEqDiff, reduceIte]
          refine awp_loop_l [6, 11, 13, 15] (α := Nat) (fun k => [(18, I k), (17, Bo ((Z.take k).any fun c => decide (a.From < c.To) && decide (c.From < a.To)))]) (fun _ => [some (.els 2 [p.cells]), some (.els 3 [a.cells]), some (.els 2 [x.cells]), some (.els 3 [b.cells]), some (.els 2 [y.cells])]) (fun k => k ≤ Z.length) (fun k => Z.length - k) 0 ?_ ?_ ?_
          · simp
          · exact sub_same (by simp)
          rintro k k1
          simp only [List.cons_append, List.nil_append, prune, List.map_cons, List.map_nil, Go.AM.look, Nat.reduceEqDiff, reduceIte]
          refine awp_seq_k fun K4 hK4 => ?_
          refine awp_sr rfl fun K hK => ?_
          simp -dsimp
          refine hK _ _ ?_; clear hK K
          refine awp_cond rfl (fun hc2 => ?_) (fun hc2 => ?_)
          · skip
            try simp at hc2
            obtain ⟨c, hc⟩ : ∃ c, Z[k]? = some c := ⟨_, List.getElem?_eq_getElem hc2⟩
            have wk : IntKind.i64.wrap ((k : Int) + 1) = (k : Int) + 1 := wrap_in (by omega) (by omega)
            refine awp_skip ?_
            simp only [thenA, inBlockA, reduceIte, Nat.reduceEqDiff, eq_self]
            refine hK4 _ _ ?_
            refine awp_prune [6, 11, 13, 15, 17, 18] ?_
            simp only [prune, List.map_cons, List.map_nil, Go.AM.look, Nat.reduceEqDiff, reduceIte]
            refine awp_seq_k fun K5 hK5 => ?_
            refine awp_block ?_
            refine awp_draw mixed rfl fun K hK => ?_
            simp -dsimp [hc]
            refine idxK_intro c.cells (fun _ => by simp [hc]) ?_
            simp -dsimp [hc]
            refine idxK_intro c.cells (fun _ => by simp [hc]) ?_
            simp -dsimp [hc]
            refine hK _ _ _ (by decide +kernel) ?_; clear hK K
            simp only [thenA, inBlockA, reduceIte, Nat.reduceEqDiff, eq_self]
            refine hK5 _ _ ?_
            refine awp_prune [6, 11, 13, 15, 17, 18] ?_
            simp only [prune, List.map_cons, List.map_nil, Go.AM.look, Nat.reduceEqDiff, reduceIte]
            refine awp_r rfl fun K hK => ?_
            simp -dsimp [wk]
            refine hK _ _ ?_; clear hK K
            simp only [thenA, inBlockA, reduceIte, Nat.reduceEqDiff, eq_self]
            exact ⟨k + 1, by omega, by omega, sub_same (by simp [any_take hc])⟩
          · skip
            try simp at hc2
            have hany : (Z.take k).any (fun c => decide (a.From < c.To) && decide (c.From < a.To)) = true := by rw [List.take_of_length_le (by omega)]; exact hins.symm
            rw [hany]
            refine awp_exit ?_
            simp only [thenA, inBlockA, reduceIte, Nat.reduceEqDiff, eq_self]
            refine hK3 _ _ ?_
            refine awp_prune [13, 15, 17] ?_
            simp only [prune, List.map_cons, List.map_nil, Go.AM.look, Nat.reduceEqDiff, reduceIte]
            refine awp_sr rfl fun K hK => ?_
            simp -dsimp
            refine ⟨fun w => ne_guard _ _ _ _ _ w und_bool, .bool true, fun w => by rw [ne_bool _ _ _ w kt_bool]; rfl, ?_⟩
            simp -dsimp
            refine callK_may _ (fun hm => c_known) (by simp) ?_
            simp -dsimp
            refine hK _ _ ?_; clear hK K
            exact awp_ret (by simp)
end Go.Tram

namespace Go.Proofs.Yteodgilndjjgdaa.sweepOutside
open Go.ChangeShapes Go.WideShapes Go.ChangeAt Go.RowKit Go.Tram Go.AM
set_option maxRecDepth 100000
set_option linter.unusedVariables false

theorem own : ownKnob Try.prog.godebug = none := by kernel_rfl

theorem contract (H : Type) (enc : TypeId × Value → H) (W : World) (base : Nat) (args : Array Value) (ds gs : List (DataW H)) (before : List MemPlace)
    (hval : ∀ (j : Nat) t v, Try.f9.params[j]? = some t → args[j]? = some v → Value.okWide Try.prog W .any base t v)
    (hW : DataW.Whole enc Try.prog Try.f9.params.toList Rows.sweepOutsideSpec.vars false W args.toList ds gs before) :
    Calls Try.prog 9 args W fun e W' => ∃ v, e = .returned v ∧ Rows.sweepOutsideSpec.post enc Try.prog Try.f9 false true false false W args v W' := by
  have hW' := hW
  obtain ⟨p, q, hA0, hV, rfl, hfz, hnd⟩ := hW
  have hA : DataW.TrodAll enc Try.prog W 0 (fun _ => true) true Try.f9.params.toList args.toList ds p := hA0
  rw [Try.params9] at hA hval
  obtain ⟨v0, vs0, d0, ds0, p0, q0, ha0, rfl, rfl, h0, r0⟩ := trodAll_cons hA
  obtain ⟨v1, vs1, d1, ds1, p1, q1, rfl, rfl, rfl, h1, r1⟩ := trodAll_cons r0
  obtain ⟨v2, vs2, d2, ds2, p2, q2, rfl, rfl, rfl, h2, r2⟩ := trodAll_cons r1
  obtain ⟨v3, vs3, d3, ds3, p3, q3, rfl, rfl, rfl, h3, r3⟩ := trodAll_cons r2
  obtain ⟨v4, vs4, d4, ds4, p4, q4, rfl, rfl, rfl, h4, r4⟩ := trodAll_cons r3
  obtain ⟨rfl, rfl, rfl⟩ := trodAll_nil r4
  obtain rfl : args = #[v0, v1, v2, v3, v4] := by cases args; simp_all
  obtain ⟨rfl, rfl⟩ := trodVars_none hV
  obtain ⟨a0, e0, s0⟩ := arg_agg (n := 8) (by kernel_rfl) td25 (hval 0 25 v0 rfl rfl) h0
  obtain ⟨a1, e1, s1⟩ := arg_agg (n := 8) (by kernel_rfl) td60 (hval 1 60 v1 rfl rfl) h1
  obtain ⟨a2, e2, s2⟩ := arg_agg (n := 8) (by kernel_rfl) td29 (hval 2 29 v2 rfl rfl) h2
  obtain ⟨a3, e3, s3⟩ := arg_agg (n := 8) (by kernel_rfl) td60 (hval 3 60 v3 rfl rfl) h3
  obtain ⟨a4, e4, s4⟩ := arg_agg (n := 8) (by kernel_rfl) td29 (hval 4 29 v4 rfl rfl) h4
  obtain ⟨x0, rfl, hf⟩ := sh_plan s0
  obtain ⟨x1, rfl, b1⟩ := sh_cover s1
  obtain ⟨x2, rfl, b2⟩ := sh_prof s2
  obtain ⟨x3, rfl, b3⟩ := sh_cover s3
  obtain ⟨x4, rfl, b4⟩ := sh_prof s4
  have hc := c_SweepOutside x0 x1 x2 x3 x4 hf
  refine (law_calls Try.func9 (by rfl) (by decide) hc rfl (rep_cons e0 (rep_cons e1 (rep_cons e2 (rep_cons e3 (rep_cons e4 rep_nil)))))).mono fun e W' ⟨he, hx⟩ => ?_
  subst he
  exact ⟨_, rfl, post_ext rfl rfl rfl rfl (by kernel_rfl) (of_decide_eq_true (by kernel_rfl)) hW' hx rfl⟩

theorem lifted (os : Os) (started : os.Started) (H : Type) (enc : TypeId × Value → H) :
    ReturnsInHanded {} Try.checked os 9 .any (Rows.sweepOutsideSpec.pre6 enc Try.prog Try.f9 Rows.sweepOutsideRow.domain false) (Rows.sweepOutsideSpec.post enc Try.prog Try.f9 false true false false) := by
  refine returnsInHanded_of_change (C := Try.checked) own started (by kernel_rfl) Try.func9
    (ChangeSpec.witness6 (enc := enc) (C := Try.checked) false ⟨#[], #[.agg #[.slice none 0 0, .slice none 0 0], .agg #[.int .i64 0, .int .i64 0, .int .i64 0], .agg #[.int .i64 0, .int .i64 0], .agg #[.int .i64 0, .int .i64 0, .int .i64 0], .agg #[.int .i64 0, .int .i64 0]], []⟩ 8 (by kernel_rfl) (by kernel_rfl) (by kernel_rfl) (by kernel_rfl)) ?_
  intro W base args ds gs before hval hW _ _
  exact contract H enc W base args ds gs before hval hW

theorem proved : Rows.SweepOutsideSaid :=
  OpenClaim.holds_of_wide 9 Try.f9 rfl rfl rfl rfl rfl rfl rfl ⟨rfl, rfl, rfl, rfl, rfl⟩ rfl rfl rfl rfl rfl (by kernel_rfl) Try.func9 (by kernel_rfl)
    (of_decide_eq_true (by kernel_rfl)) (by unfold Func.isWrapper; first | (rw [if_pos (by decide +kernel)]; kernel_rfl) | (rw [if_neg (by decide +kernel)]; exact ⟨rfl, rfl⟩))
    (fun os started H enc _ => lifted os started H enc)
end Go.Proofs.Yteodgilndjjgdaa.sweepOutside
