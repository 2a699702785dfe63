/- Walks: what is foul of a rail. -/
import Derived.Test.YteodgilndjjgdaaW15
namespace Go.Tram
open Go.AM Go.Proofs
set_option maxRecDepth 10000
set_option maxHeartbeats 4000000
set_option linter.unusedVariables false
set_option linter.unusedSimpArgs false

theorem flat_cov (l : List Cover) : (l.map Cover.cells).all (fun e => e.all flatC) = true := by simp [flatC]
@[simp high] theorem flat_cov_ren (l : List Cover) (g : List (Option Nat)) (n : Nat) : (l.map Cover.cells).map (fun e => e.map (renAV g n)) = l.map Cover.cells := map_flatC (fun x h => flatC_ren h g n) (flat_cov l)
@[simp high] theorem flat_cov_frzP (l : List Cover) (H : Hp) (n : Nat) : (l.map Cover.cells).map (fun e => e.map (frzP H n)) = l.map Cover.cells := map_flatC (fun x h => flatC_frzP h H n) (flat_cov l)
theorem cov_take (l : List Cover) : (l.map Cover.cells).take l.length = l.map Cover.cells := List.take_of_length_le (by simp)

theorem zoneL_take {p : Plan} {a : Int} {x : Profile} {b : Int} {y : Profile} {l : List SS} {k : Nat} {s : SS} (h : l[k]? = some s) :
    zoneL p a x b y (l.take (k + 1)) = if zoneHit p x b y s then zoneStep a (zoneL p a x b y (l.take k)) s else zoneL p a x b y (l.take k) := by
  rw [List.take_add_one, h]
  simp [zoneL]
theorem zoneStep_len (a : Int) (out : List Cover) (s : SS) : (zoneStep a out s).length ≤ out.length + 1 := by
  rcases List.eq_nil_or_concat out with rfl | ⟨i, c, rfl⟩
  · simp [zoneStep]
  · simp only [zoneStep, List.concat_eq_append, List.getLast?_append, List.getLast?_singleton, Option.some_or]
    split <;> simp
theorem zoneStep_nil (a : Int) (s : SS) : zoneStep a [] s = [⟨a, s.From, s.To⟩] := rfl
theorem zoneStep_on {a : Int} {i : List Cover} {c : Cover} {s : SS} (h : c.To = s.From) : zoneStep a (i ++ [c]) s = i ++ [⟨c.Rail, c.From, s.To⟩] := by
  simp [zoneStep, h]
theorem zoneStep_new {a : Int} {i : List Cover} {c : Cover} {s : SS} (h : ¬ c.To = s.From) : zoneStep a (i ++ [c]) s = i ++ [c] ++ [⟨a, s.From, s.To⟩] := by
  simp [zoneStep, h]
theorem snoc_get (i : List Cover) (c : Cover) : (i.map Cover.cells ++ [[I c.Rail, I c.From, I c.To]])[i.length]? = some [I c.Rail, I c.From, I c.To] := by
  rw [List.getElem?_append_right (by simp)]; simp
theorem snoc_set (i : List Cover) (c e : List AV) : (i.map Cover.cells ++ [c]).set i.length e = i.map Cover.cells ++ [e] := by
  rw [List.set_append, if_neg (by simp)]; simp
theorem snoc_take (i : List Cover) (c : List AV) : (i.map Cover.cells ++ [c]).take (i.length + 1) = i.map Cover.cells ++ [c] := List.take_of_length_le (by simp)
theorem fits1 : Fits 1 25 := fits_of (by omega) (by omega)
theorem wrap_small (m : Nat) (h : m ≤ 1000) : IntKind.i64.wrap (m : Int) = m := wrap_in (by omega) (by omega)
theorem nil_or_snoc (l : List Cover) : l = [] ∨ ∃ i c, l = i ++ [c] := by
  rcases List.eq_nil_or_concat l with h | ⟨i, c, h⟩
  · exact Or.inl h
  · exact Or.inr ⟨i, c, by rw [h, List.concat_eq_append]⟩

theorem c_Zone1 (s t : SS) (x y : Profile) (os : s.Ok) (ot : t.Ok) (hx : profB x = true) (hy : profB y = true) : PureCall Try.prog 70 [.agg t.cells, .iptr s.cells, .iptr x.cells, .iptr y.cells] (Bo (foulB s x t y)) := by
  refine PureCall.of_body Try.func70 rfl (by decide) (by simp [Try.ntmps70]) ?_
  simp only [Try.ntmps70, Try.results70]
  refine awp_sr rfl fun K hK => ?_
  simp -dsimp
  refine hK _ _ ?_; clear hK K
  refine awp_sr rfl fun K hK => ?_
  simp -dsimp
  refine callK_intro _ (c_foul s t x y os ot hx hy) (by simp) ?_
  simp -dsimp
  refine hK _ _ ?_; clear hK K
  exact awp_ret (by simp)

theorem c_Zone_v (p : Plan) (a : Int) (x : Profile) (b : Int) (y : Profile) (h : validB p = false) : PureCall Try.prog 33 [p.av, I a, x.av, I b, y.av] (.tup [.v (.slice none 0 0), I 2]) := by
  refine PureCall.of_body Try.func33 rfl (by decide) (by simp [Try.ntmps33]) ?_
  simp only [Try.ntmps33, Try.results33]
  refine awp_sr rfl fun K hK => ?_
  simp -dsimp
  refine hK _ _ ?_; clear hK K
  refine awp_sr rfl fun K hK => ?_
  simp -dsimp
  refine callK_intro _ (c_begin_f p h) (by simp) ?_
  simp -dsimp
  refine hK _ _ ?_; clear hK K
  refine awp_seq_k fun K1 hK1 => ?_
  refine awp_sr rfl fun K hK => ?_
  simp -dsimp
  refine callK_may _ (fun hm => (by simp at hm : PureCall Try.prog 66 _ (Bo false))) (by simp) ?_
  simp -dsimp
  refine callK_may _ (fun hm => (by simp at hm : PureCall Try.prog 66 _ (Bo false))) (by simp) ?_
  simp -dsimp
  refine callK_may _ (fun hm => (by simp at hm : PureCall Try.prog 48 _ (Bo false))) (by simp) ?_
  simp -dsimp
  refine hK _ _ ?_; clear hK K
  refine awp_cond rfl (fun hc0 => ?_) (fun hc0 => ?_)
  · skip
    skip
    refine awp_sr rfl fun K hK => ?_
    simp -dsimp
    refine hK _ _ ?_; clear hK K
    exact awp_ret (by simp)
  · skip
    skip
    simp at hc0
theorem c_Zone_f (p : Plan) (a : Int) (x : Profile) (b : Int) (y : Profile) (hv : validB p = true) (h : (inr a 0 (p.Rails.length - 1) && (inr b 0 (p.Rails.length - 1) && (profB x && profB y))) = false) :
    PureCall Try.prog 33 [p.av, I a, x.av, I b, y.av] (.tup [.v (.slice none 0 0), I 2]) := by
  refine PureCall.of_body Try.func33 rfl (by decide) (by simp [Try.ntmps33]) ?_
  simp only [Try.ntmps33, Try.results33]
  refine awp_sr rfl fun K hK => ?_
  simp -dsimp
  refine hK _ _ ?_; clear hK K
  refine awp_sr rfl fun K hK => ?_
  simp -dsimp
  refine callK_intro _ (c_begin p hv) (by simp) ?_
  simp -dsimp
  refine hK _ _ ?_; clear hK K
  refine awp_seq_k fun K1 hK1 => ?_
  refine awp_sr rfl fun K hK => ?_
  simp -dsimp
  refine callK_may _ (fun hm => c_srail p a) (by simp) ?_
  simp -dsimp
  refine callK_may _ (fun hm => c_srail p b) (by simp) ?_
  simp -dsimp
  refine callK_may _ (fun hm => c_prof2 x y) (by simp) ?_
  simp -dsimp
  refine hK _ _ ?_; clear hK K
  refine awp_cond rfl (fun hc0 => ?_) (fun hc0 => ?_)
  · skip
    skip
    refine awp_sr rfl fun K hK => ?_
    simp -dsimp
    refine hK _ _ ?_; clear hK K
    exact awp_ret (by simp)
  · skip
    skip
    exfalso; simp at hc0; simp [hc0] at h

theorem c_Zone_t (p : Plan) (a : Int) (x : Profile) (b : Int) (y : Profile) (hv : validB p = true) (ha : inr a 0 (p.Rails.length - 1) = true) (hb : inr b 0 (p.Rails.length - 1) = true) (hx : profB x = true) (hy : profB y = true) :
    PureCall Try.prog 33 [p.av, I a, x.av, I b, y.av] (.tup [.lst 3 ((zone p a x b y).map Cover.cells), I 0]) := by
  have ia := inr_iff.1 ha
  have ib := inr_iff.1 hb
  have ra := rail_ok hv (r := a) (by omega) (by omega)
  have rb := rail_ok hv (r := b) (by omega) (by omega)
  have ga := sheetRows_at (p := p) (r := a) (by omega) (by omega)
  have gb := sheetRows_at (p := p) (r := b) (by omega) (by omega)
  have sla := strips_len p a
  have slb := strips_len p b
  have s30 := ra.s
  have t30 := rb.s
  have h1 := c_srail p a
  have h2 := c_srail p b
  have h3 := c_prof2 x y
  rw [ha] at h1
  rw [hb] at h2
  rw [hx, hy] at h3
  refine PureCall.of_body Try.func33 rfl (by decide) (by simp [Try.ntmps33]) ?_
  simp only [Try.ntmps33, Try.results33]
  refine awp_sr rfl fun K hK => ?_
  simp -dsimp
  refine hK _ _ ?_; clear hK K
  refine awp_sr rfl fun K hK => ?_
  simp -dsimp
  refine callK_intro _ (c_begin p hv) (by simp) ?_
  simp -dsimp
  refine hK _ _ ?_; clear hK K
  refine awp_seq_k fun K1 hK1 => ?_
  refine awp_sr rfl fun K hK => ?_
  simp -dsimp
  refine callK_may _ (fun hm => h1) (by simp) ?_
  simp -dsimp
  refine callK_may _ (fun hm => h2) (by simp) ?_
  simp -dsimp
  refine callK_may _ (fun hm => h3) (by simp) ?_
  simp -dsimp
  refine hK _ _ ?_; clear hK K
  refine awp_cond rfl (fun hc0 => ?_) (fun hc0 => ?_)
  · skip
    skip
    simp at hc0
  · skip
    skip
    refine awp_skip ?_
    simp only [thenA, inBlockA, reduceIte, Nat.reduceEqDiff, eq_self]
    refine hK1 _ _ ?_
    refine awp_prune [1, 3, 7, 9, 12] ?_
    simp only [prune, List.map_cons, List.map_nil, Go.AM.look, Nat.reduceEqDiff, reduceIte]
    refine awp_sr rfl fun K hK => ?_
    simp -dsimp
    refine hK _ _ ?_; clear hK K
    refine awp_seq_k fun K2 hK2 => ?_
    refine awp_sr rfl fun K hK => ?_
    simp -dsimp [sheet, ga, ia.1]
    refine hK _ _ ?_; clear hK K
    refine awp_block ?_
    refine awp_prune [1, 3, 7, 9, 12, 14, 50, 51, 52] ?_
    simp only [prune, List.map_cons, List.map_nil, Go.AM.look, Nat.reduceEqDiff, reduceIte]
    refine awp_loop_l [1, 3, 7, 9, 12, 50, 51] (α := Nat) (fun k => [(52, I k), (14, .row 3 0 (zoneL p a x b y ((p.strips a).take k)).length)]) (fun k => [some (.els 2 [p.cells]), some (.els 2 [x.cells]), some (.els 2 [y.cells]), some (.els 3 ((zoneL p a x b y ((p.strips a).take k)).map Cover.cells))]) (fun k => k ≤ (p.strips a).length ∧ (zoneL p a x b y ((p.strips a).take k)).length ≤ k) (fun k => (p.strips a).length - k) 0 ?_ ?_ ?_
    · simp [zoneL]
    · exact (sub_nil 14 3 (by simp)).trans (sub_rb [some 0, some 1, some 2, some 3] rfl (by simp [zoneL]) (by simp [zoneL]))
    rintro k ⟨k1, k2⟩
    have hst : ∀ s, (p.strips a)[k]? = some s → zoneL p a x b y ((p.strips a).take (k + 1)) = if zoneHit p x b y s then zoneStep a (zoneL p a x b y ((p.strips a).take k)) s else zoneL p a x b y ((p.strips a).take k) := fun s h => zoneL_take h
    have hfin : (p.strips a).length ≤ k → zoneL p a x b y ((p.strips a).take k) = zone p a x b y := fun h => by rw [List.take_of_length_le h]; rfl
    generalize hout : zoneL p a x b y ((p.strips a).take k) = out at hst k2 hfin ⊢
    have hsl : ∀ s, (zoneStep a out s).length ≤ k + 1 := fun s => by have := zoneStep_len a out s; omega
    have f1 : Fits (out.length + 1) 25 := fits_of (by omega) (by omega)
    have hct := cov_take out
    rcases nil_or_snoc out with ho | ⟨i, c, ho⟩
    all_goals subst ho
    · skip
      simp only [List.cons_append, List.nil_append, prune, List.map_cons, List.map_nil, Go.AM.look, Nat.reduceEqDiff, reduceIte]
      refine awp_sr rfl fun K hK => ?_
      simp -dsimp
      refine hK _ _ ?_; clear hK K
      refine awp_seq_k fun K3 hK3 => ?_
      refine awp_cond rfl (fun hc1 => ?_) (fun hc1 => ?_)
      · skip
        try simp at hc1
        obtain ⟨s, hs⟩ : ∃ s, (p.strips a)[k]? = some s := ⟨_, List.getElem?_eq_getElem (by simpa using hc1)⟩
        have wk : IntKind.i64.wrap ((k : Int) + 1) = (k : Int) + 1 := wrap_in (by omega) (by omega)
        have os := strips_ok ra (List.mem_of_getElem? hs)
        have hz := hst s hs
        have hzl := hsl s
        have hcc := c_Cont_SS (p.strips b) 70 [s.cells, x.cells, y.cells] (fun t => foulB s x t y) (fun t ht => c_Zone1 s t x y os (strips_ok rb ht) hx hy) (by omega)
        refine awp_skip ?_
        simp only [thenA, inBlockA, reduceIte, Nat.reduceEqDiff, eq_self]
        refine hK3 _ _ ?_
        refine awp_prune [1, 3, 7, 9, 12, 14, 50, 51, 52] ?_
        simp only [prune, List.map_cons, List.map_nil, Go.AM.look, Nat.reduceEqDiff, reduceIte]
        refine awp_seq_k fun K4 hK4 => ?_
        refine awp_block ?_
        refine awp_sr rfl fun K hK => ?_
        simp -dsimp [hs]
        refine hK _ _ ?_; clear hK K
        refine awp_seq_k fun K5 hK5 => ?_
        refine awp_sr rfl fun K hK => ?_
        simp -dsimp [sheet, gb, ib.1]
        refine callK_intro _ (hcc) (by simp) ?_
        simp -dsimp [sheet, gb, ib.1]
        refine hK _ _ ?_; clear hK K
        refine awp_cond rfl (fun hc2 => ?_) (fun hc2 => ?_)
        · skip
          have hh : zoneHit p x b y s = (p.strips b).any fun t => foulB s x t y := rfl
          simp only [Bool.not_eq_true', Bool.not_eq_false'] at hc2
          rw [← hh] at hc2
          rw [hc2] at hz
          simp only [Bool.false_eq_true, if_false, if_true] at hz
          refine awp_exit ?_
          simp only [thenA, inBlockA, reduceIte, Nat.reduceEqDiff, eq_self]
          refine hK4 _ _ ?_
          refine awp_prune [1, 3, 7, 9, 12, 14, 50, 51, 52] ?_
          simp only [prune, List.map_cons, List.map_nil, Go.AM.look, Nat.reduceEqDiff, reduceIte]
          refine awp_r rfl fun K hK => ?_
          simp -dsimp [wk]
          refine hK _ _ ?_; clear hK K
          simp only [thenA, inBlockA, reduceIte, Nat.reduceEqDiff, eq_self]
          exact ⟨k + 1, ⟨by omega, by rw [hz]; omega⟩, by omega, sub_rb [some 0, some 1, some 2, some 3] rfl (by simp [hz]) (by simp [hz])⟩
        · skip
          have hh : zoneHit p x b y s = (p.strips b).any fun t => foulB s x t y := rfl
          simp only [Bool.not_eq_true', Bool.not_eq_false'] at hc2
          rw [← hh] at hc2
          rw [hc2] at hz
          simp only [Bool.false_eq_true, if_false, if_true] at hz
          refine awp_skip ?_
          simp only [thenA, inBlockA, reduceIte, Nat.reduceEqDiff, eq_self]
          refine hK5 _ _ ?_
          refine awp_prune [1, 3, 7, 9, 12, 14, 16, 50, 51, 52] ?_
          simp only [prune, List.map_cons, List.map_nil, Go.AM.look, Nat.reduceEqDiff, reduceIte]
          refine awp_seq_k fun K6 hK6 => ?_
          refine awp_sr rfl fun K hK => ?_
          simp -dsimp [List.length_append, List.length_singleton]
          refine hK _ _ ?_; clear hK K
          refine awp_sd mixed rfl fun K hK => ?_
          simp -dsimp
          refine hK _ _ _ (by decide +kernel) ?_; clear hK K
          refine awp_cond rfl (fun hc3 => ?_) (fun hc3 => ?_)
          · skip
            skip
            simp at hc3
          · skip
            skip
            rw [zoneStep_nil] at hz
            refine awp_skip ?_
            simp only [thenA, inBlockA, reduceIte, Nat.reduceEqDiff, eq_self]
            refine hK6 _ _ ?_
            refine awp_prune [1, 3, 7, 9, 12, 14, 16, 50, 51, 52] ?_
            simp only [prune, List.map_cons, List.map_nil, Go.AM.look, Nat.reduceEqDiff, reduceIte]
            refine awp_r rfl fun K hK => ?_
            simp -dsimp [fits1]
            refine hK _ _ ?_; clear hK K
            simp only [thenA, inBlockA, reduceIte, Nat.reduceEqDiff, eq_self]
            refine hK4 _ _ ?_
            refine awp_prune [1, 3, 7, 9, 12, 14, 50, 51, 52] ?_
            simp only [prune, List.map_cons, List.map_nil, Go.AM.look, Nat.reduceEqDiff, reduceIte]
            refine awp_r rfl fun K hK => ?_
            simp -dsimp [wk]
            refine hK _ _ ?_; clear hK K
            simp only [thenA, inBlockA, reduceIte, Nat.reduceEqDiff, eq_self]
            exact ⟨k + 1, ⟨by omega, by rw [hz]; simp⟩, by omega, sub_rb [some 0, some 1, some 2, some 5] rfl (by simp [hz]) (by simp [hz])⟩
      · skip
        try simp at hc1
        have hze := hfin (by simpa using hc1)
        refine awp_exit ?_
        simp only [thenA, inBlockA, reduceIte, Nat.reduceEqDiff, eq_self]
        refine hK2 _ _ ?_
        refine awp_prune [14] ?_
        simp only [prune, List.map_cons, List.map_nil, Go.AM.look, Nat.reduceEqDiff, reduceIte]
        refine awp_sr rfl fun K hK => ?_
        simp -dsimp
        refine hK _ _ ?_; clear hK K
        exact awp_ret (by simp [← hze])
    · skip
      simp only [List.cons_append, List.nil_append, prune, List.map_cons, List.map_nil, Go.AM.look, Nat.reduceEqDiff, reduceIte]
      refine awp_sr rfl fun K hK => ?_
      simp -dsimp
      refine hK _ _ ?_; clear hK K
      refine awp_seq_k fun K7 hK7 => ?_
      refine awp_cond rfl (fun hc1 => ?_) (fun hc1 => ?_)
      · skip
        try simp at hc1
        obtain ⟨s, hs⟩ : ∃ s, (p.strips a)[k]? = some s := ⟨_, List.getElem?_eq_getElem (by simpa using hc1)⟩
        have wk : IntKind.i64.wrap ((k : Int) + 1) = (k : Int) + 1 := wrap_in (by omega) (by omega)
        have os := strips_ok ra (List.mem_of_getElem? hs)
        have hz := hst s hs
        have hzl := hsl s
        have hcc := c_Cont_SS (p.strips b) 70 [s.cells, x.cells, y.cells] (fun t => foulB s x t y) (fun t ht => c_Zone1 s t x y os (strips_ok rb ht) hx hy) (by omega)
        refine awp_skip ?_
        simp only [thenA, inBlockA, reduceIte, Nat.reduceEqDiff, eq_self]
        refine hK7 _ _ ?_
        refine awp_prune [1, 3, 7, 9, 12, 14, 50, 51, 52] ?_
        simp only [prune, List.map_cons, List.map_nil, Go.AM.look, Nat.reduceEqDiff, reduceIte]
        refine awp_seq_k fun K8 hK8 => ?_
        refine awp_block ?_
        refine awp_sr rfl fun K hK => ?_
        simp -dsimp [hs]
        refine hK _ _ ?_; clear hK K
        refine awp_seq_k fun K9 hK9 => ?_
        refine awp_sr rfl fun K hK => ?_
        simp -dsimp [sheet, gb, ib.1]
        refine callK_intro _ (hcc) (by simp) ?_
        simp -dsimp [sheet, gb, ib.1]
        refine hK _ _ ?_; clear hK K
        refine awp_cond rfl (fun hc2 => ?_) (fun hc2 => ?_)
        · skip
          have hh : zoneHit p x b y s = (p.strips b).any fun t => foulB s x t y := rfl
          simp only [Bool.not_eq_true', Bool.not_eq_false'] at hc2
          rw [← hh] at hc2
          rw [hc2] at hz
          simp only [Bool.false_eq_true, if_false, if_true] at hz
          refine awp_exit ?_
          simp only [thenA, inBlockA, reduceIte, Nat.reduceEqDiff, eq_self]
          refine hK8 _ _ ?_
          refine awp_prune [1, 3, 7, 9, 12, 14, 50, 51, 52] ?_
          simp only [prune, List.map_cons, List.map_nil, Go.AM.look, Nat.reduceEqDiff, reduceIte]
          refine awp_r rfl fun K hK => ?_
          simp -dsimp [wk]
          refine hK _ _ ?_; clear hK K
          simp only [thenA, inBlockA, reduceIte, Nat.reduceEqDiff, eq_self]
          exact ⟨k + 1, ⟨by omega, by rw [hz]; omega⟩, by omega, sub_rb [some 0, some 1, some 2, some 3] rfl (by simp [hz]) (by simp [hz])⟩
        · skip
          have hh : zoneHit p x b y s = (p.strips b).any fun t => foulB s x t y := rfl
          simp only [Bool.not_eq_true', Bool.not_eq_false'] at hc2
          rw [← hh] at hc2
          rw [hc2] at hz
          simp only [Bool.false_eq_true, if_false, if_true] at hz
          refine awp_skip ?_
          simp only [thenA, inBlockA, reduceIte, Nat.reduceEqDiff, eq_self]
          refine hK9 _ _ ?_
          refine awp_prune [1, 3, 7, 9, 12, 14, 16, 50, 51, 52] ?_
          simp only [prune, List.map_cons, List.map_nil, Go.AM.look, Nat.reduceEqDiff, reduceIte]
          refine awp_seq_k fun K10 hK10 => ?_
          refine awp_sr rfl fun K hK => ?_
          simp -dsimp [List.length_append, List.length_singleton]
          refine hK _ _ ?_; clear hK K
          refine awp_sd mixed rfl fun K hK => ?_
          simp -dsimp [wrap_small i.length (by have := k2; simp at this; omega), snoc_get]
          refine hK _ _ _ (by decide +kernel) ?_; clear hK K
          refine awp_cond rfl (fun hc3 => ?_) (fun hc3 => ?_)
          · skip
            skip
            have hse : c.To = s.From := by simpa using hc3
            rw [zoneStep_on hse] at hz
            refine awp_sr rfl fun K hK => ?_
            simp -dsimp [wrap_small i.length (by have := k2; simp at this; omega), snoc_get, snoc_set]
            refine hK _ _ ?_; clear hK K
            refine awp_exit ?_
            simp only [thenA, inBlockA, reduceIte, Nat.reduceEqDiff, eq_self]
            refine hK8 _ _ ?_
            refine awp_prune [1, 3, 7, 9, 12, 14, 50, 51, 52] ?_
            simp only [prune, List.map_cons, List.map_nil, Go.AM.look, Nat.reduceEqDiff, reduceIte]
            refine awp_r rfl fun K hK => ?_
            simp -dsimp [wk]
            refine hK _ _ ?_; clear hK K
            simp only [thenA, inBlockA, reduceIte, Nat.reduceEqDiff, eq_self]
            exact ⟨k + 1, ⟨by omega, by rw [hz]; simp at k2 ⊢; omega⟩, by omega, sub_rb [some 0, some 1, some 2, some 3] rfl (by simp [hz]) (by simp [hz])⟩
          · skip
            skip
            have hse : ¬ c.To = s.From := by simpa using hc3
            rw [zoneStep_new hse] at hz
            refine awp_skip ?_
            simp only [thenA, inBlockA, reduceIte, Nat.reduceEqDiff, eq_self]
            refine hK10 _ _ ?_
            refine awp_prune [1, 3, 7, 9, 12, 14, 16, 50, 51, 52] ?_
            simp only [prune, List.map_cons, List.map_nil, Go.AM.look, Nat.reduceEqDiff, reduceIte]
            refine awp_r rfl fun K hK => ?_
            simp -dsimp [(fits_of (by have := k2; simp at this; omega) (by omega) : Fits (i.length + 1 + 1) 25), snoc_take]
            refine hK _ _ ?_; clear hK K
            simp only [thenA, inBlockA, reduceIte, Nat.reduceEqDiff, eq_self]
            refine hK8 _ _ ?_
            refine awp_prune [1, 3, 7, 9, 12, 14, 50, 51, 52] ?_
            simp only [prune, List.map_cons, List.map_nil, Go.AM.look, Nat.reduceEqDiff, reduceIte]
            refine awp_r rfl fun K hK => ?_
            simp -dsimp [wk]
            refine hK _ _ ?_; clear hK K
            simp only [thenA, inBlockA, reduceIte, Nat.reduceEqDiff, eq_self]
            exact ⟨k + 1, ⟨by omega, by rw [hz]; simp at k2 ⊢; omega⟩, by omega, sub_rb [some 0, some 1, some 2, some 5] rfl (by simp [hz]) (by simp [hz])⟩
      · skip
        try simp at hc1
        have hze := hfin (by simpa using hc1)
        refine awp_exit ?_
        simp only [thenA, inBlockA, reduceIte, Nat.reduceEqDiff, eq_self]
        refine hK2 _ _ ?_
        refine awp_prune [14] ?_
        simp only [prune, List.map_cons, List.map_nil, Go.AM.look, Nat.reduceEqDiff, reduceIte]
        refine awp_sr rfl fun K hK => ?_
        simp -dsimp
        refine hK _ _ ?_; clear hK K
        exact awp_ret (by simp [← hze, snoc_take])
end Go.Tram
