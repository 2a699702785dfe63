/- Walks: the strips that a car touches, and whether two cars are clear of each other. -/
import Derived.Test.YteodgilndjjgdaaGreatW14
namespace Go.Tram
open Go.AM Go.Proofs
set_option maxRecDepth 10000
set_option maxHeartbeats 4000000
set_option linter.unusedVariables false
set_option linter.unusedSimpArgs false

theorem coverB_iff {p : Plan} {c : Cover} : coverB p c = true ↔ inr c.Rail 0 (p.Rails.length - 1) = true ∧ 0 ≤ c.From ∧ c.From < c.To ∧ c.To ≤ p.len c.Rail := by
  simp [coverB]
theorem covers_ff {p : Plan} {l : List Cover} {i : Nat} {c : Cover} (h : l[i]? = some c) (hc : coverB p c = false) : coversB p l = false := by
  simp [coversB, all_ff h hc]
theorem touched_take {p : Plan} {l : List Cover} {i : Nat} {c : Cover} (h : l[i]? = some c) : touched p (l.take (i + 1)) = touched p (l.take i) ++ touchedOne p c := by
  simp [touched, List.take_add_one, h]
def hitOne (c : Cover) (x : SS) : Bool := decide (c.From < x.To) && decide (x.From < c.To)
theorem filter_take {l : List SS} {q : SS → Bool} {k : Nat} {x : SS} (h : l[k]? = some x) : (l.take (k + 1)).filter q = (l.take k).filter q ++ (if q x then [x] else []) := by
  rw [List.take_add_one, List.filter_append, h]; simp [List.filter_cons]
theorem touchedOne_len {p : Plan} (c : Cover) (hv : validB p = true) (hc : inr c.Rail 0 (p.Rails.length - 1) = true) : (touchedOne p c).length ≤ 31 := by
  have hi := inr_iff.1 hc
  have ro := rail_ok hv (r := c.Rail) (by omega) (by omega)
  have := ro.s
  have h1 := List.length_filter_le (hitOne c) (p.strips c.Rail)
  rw [strips_len] at h1
  show ((p.strips c.Rail).filter (hitOne c)).length ≤ 31
  omega
theorem sumTo_len (p : Plan) (r : Int) : sumTo (p.line r) ((p.rail r).Shape.length + 1) = p.len r := by unfold Plan.len; rfl
theorem ss_take (l : List SS) : (l.map SS.cells).take l.length = l.map SS.cells := List.take_of_length_le (by simp)

theorem c_touched (p : Plan) (l : List Cover) (hv : validB p = true) (res : AV) (hrf : coversB p l = false → res = .tup [.v (.slice none 0 0), Bo false]) (hrt : coversB p l = true → res = .tup [.lst 9 ((touched p l).map SS.cells), Bo true]) :
    PureCall Tryz.prog 28 [.iptr (sheet p), .lst 3 (l.map Cover.cells)] res := by
  have hsl := sheetRows_len p p.Rails.length
  have hrl := c_srail p
  have hlen : (l.length : Int) ≤ 100 → l.length ≤ 100 := by omega
  unfold sheet at hrl ⊢
  refine PureCall.of_body Tryz.func28 rfl (by decide) (by simp [Tryz.ntmps28]) ?_
  simp only [Tryz.ntmps28, Tryz.results28]
  refine awp_sr rfl fun K hK => ?_
  simp -dsimp
  refine hK _ _ ?_; clear hK K
  refine awp_seq_k fun K1 hK1 => ?_
  refine awp_sr rfl fun K hK => ?_
  simp -dsimp
  refine hK _ _ ?_; clear hK K
  refine awp_cond rfl (fun hc0 => ?_) (fun hc0 => ?_)
  · skip
    try simp at hc0
    have hf : coversB p l = false := by simp [coversB]; omega
    refine awp_sr rfl fun K hK => ?_
    simp -dsimp
    refine hK _ _ ?_; clear hK K
    have hr := hrf hf; subst hr
    exact awp_ret (by simp)
  · skip
    try simp at hc0
    have hn : l.length ≤ 100 := by omega
    refine awp_skip ?_
    simp only [thenA, inBlockA, reduceIte, Nat.reduceEqDiff, eq_self]
    refine hK1 _ _ ?_
    refine awp_prune [0, 1] ?_
    simp only [prune, List.map_cons, List.map_nil, Go.AM.look, Nat.reduceEqDiff, reduceIte]
    refine awp_sr rfl fun K hK => ?_
    simp -dsimp
    refine hK _ _ ?_; clear hK K
    refine awp_seq_k fun K2 hK2 => ?_
    refine awp_sr rfl fun K hK => ?_
    simp -dsimp
    refine hK _ _ ?_; clear hK K
    refine awp_block ?_
    refine awp_prune [0, 6, 15, 16, 17] ?_
    simp only [prune, List.map_cons, List.map_nil, Go.AM.look, Nat.reduceEqDiff, reduceIte]
    refine awp_loop_l [0, 15, 16] (α := Nat) (fun i => [(17, I i), (6, .row 0 0 (touched p (l.take i)).length)]) (fun i => [some (.els 9 ((touched p (l.take i)).map SS.cells))]) (fun i => i ≤ l.length ∧ (l.take i).all (coverB p) = true ∧ (touched p (l.take i)).length ≤ 31 * i) (fun i => l.length - i) 0 ?_ ?_ ?_
    · simp [touched]
    · exact (sub_nil 6 9 (by simp)).trans (sub_same (by simp [touched]))
    rintro i ⟨i1, i2, i3⟩
    have htk := ss_take (touched p (l.take i))
    simp only [List.cons_append, List.nil_append, prune, List.map_cons, List.map_nil, Go.AM.look, Nat.reduceEqDiff, reduceIte]
    refine awp_sr rfl fun K hK => ?_
    simp -dsimp
    refine hK _ _ ?_; clear hK K
    refine awp_seq_k fun K3 hK3 => ?_
    refine awp_cond rfl (fun hc1 => ?_) (fun hc1 => ?_)
    · skip
      try simp at hc1
      obtain ⟨c, hcv⟩ : ∃ c, l[i]? = some c := ⟨_, List.getElem?_eq_getElem hc1⟩
      have wi : IntKind.i64.wrap ((i : Int) + 1) = (i : Int) + 1 := wrap_in (by omega) (by omega)
      refine awp_skip ?_
      simp only [thenA, inBlockA, reduceIte, Nat.reduceEqDiff, eq_self]
      refine hK3 _ _ ?_
      refine awp_prune [0, 6, 15, 16, 17] ?_
      simp only [prune, List.map_cons, List.map_nil, Go.AM.look, Nat.reduceEqDiff, reduceIte]
      refine awp_seq_k fun K4 hK4 => ?_
      refine awp_block ?_
      refine awp_sr rfl fun K hK => ?_
      simp -dsimp [hcv]
      refine hK _ _ ?_; clear hK K
      refine awp_seq_k fun K5 hK5 => ?_
      refine awp_sr rfl fun K hK => ?_
      simp -dsimp
      refine callK_intro _ (hrl c.Rail) (by simp) ?_
      simp -dsimp
      refine hK _ _ ?_; clear hK K
      refine awp_cond rfl (fun hc2 => ?_) (fun hc2 => ?_)
      · skip
        try simp at hc2
        have hf : coversB p l = false := covers_ff hcv (by simp [coverB, hc2])
        refine awp_sr rfl fun K hK => ?_
        simp -dsimp
        refine hK _ _ ?_; clear hK K
        have hr := hrf hf; subst hr
        exact awp_ret (by simp)
      · skip
        try simp at hc2
        have hin := inr_iff.1 hc2
        have ro := rail_ok hv (r := c.Rail) (by omega) (by omega)
        have hs30 := ro.s
        have hg := sheetRows_at (p := p) (r := c.Rail) (by omega) (by omega)
        have hst := strips_len p c.Rail
        have ws : IntKind.i64.wrap ((p.rail c.Rail).Shape.length : Int) = ((p.rail c.Rail).Shape.length : Int) := wrap_in (by omega) (by omega)
        refine awp_skip ?_
        simp only [thenA, inBlockA, reduceIte, Nat.reduceEqDiff, eq_self]
        refine hK5 _ _ ?_
        refine awp_prune [0, 6, 8, 15, 16, 17] ?_
        simp only [prune, List.map_cons, List.map_nil, Go.AM.look, Nat.reduceEqDiff, reduceIte]
        refine awp_sd mixed rfl fun K hK => ?_
        simp -dsimp [hg, hin.1]
        refine hK _ _ _ (by decide +kernel) ?_; clear hK K
        refine awp_seq_k fun K6 hK6 => ?_
        refine awp_sd mixed rfl fun K hK => ?_
        simp -dsimp [hst, ws]
        refine idxK_intro (stripOf (p.line c.Rail) c.Rail (p.rail c.Rail).Shape.length).cells (fun _ => by simp [strips_get (p := p) (r := c.Rail) (k := (p.rail c.Rail).Shape.length) (by omega)]) ?_
        simp -dsimp [hst, ws]
        refine hK _ _ _ (by decide +kernel) ?_; clear hK K
        refine awp_cond rfl (fun hc3 => ?_) (fun hc3 => ?_)
        · skip
          skip
          have hf : coversB p l = false := covers_ff hcv (by cases hq : coverB p c with | false => rfl | true => (rw [coverB_iff] at hq; simp [stripOf, sumTo_len] at hc3; omega))
          refine awp_sr rfl fun K hK => ?_
          simp -dsimp
          refine hK _ _ ?_; clear hK K
          have hr := hrf hf; subst hr
          exact awp_ret (by simp)
        · skip
          skip
          have hok : coverB p c = true := by rw [coverB_iff]; refine ⟨hc2, ?_⟩; simp [stripOf, sumTo_len] at hc3; omega
          refine awp_skip ?_
          simp only [thenA, inBlockA, reduceIte, Nat.reduceEqDiff, eq_self]
          refine hK6 _ _ ?_
          refine awp_prune [0, 6, 8, 9, 15, 16, 17] ?_
          simp only [prune, List.map_cons, List.map_nil, Go.AM.look, Nat.reduceEqDiff, reduceIte]
          refine awp_sr rfl fun K hK => ?_
          simp -dsimp [hst]
          refine hK _ _ ?_; clear hK K
          refine awp_block ?_
          refine awp_prune [0, 6, 8, 15, 16, 17, 56, 57, 58] ?_
          simp only [prune, List.map_cons, List.map_nil, Go.AM.look, Nat.reduceEqDiff, reduceIte]
          refine awp_loop_l [0, 8, 15, 16, 17, 56, 57] (α := Nat) (fun j => [(58, I j), (6, .row 0 0 (touched p (l.take i) ++ ((p.strips c.Rail).take j).filter (hitOne c)).length)]) (fun j => [some (.els 9 ((touched p (l.take i) ++ ((p.strips c.Rail).take j).filter (hitOne c)).map SS.cells)), some (.els 3 [c.cells])]) (fun j => j ≤ (p.strips c.Rail).length) (fun j => (p.strips c.Rail).length - j) 0 ?_ ?_ ?_
          · simp
          · exact sub_rb [some 0, some 1] rfl (by simp) (by simp [htk])
          rintro j j1
          have hfl := List.length_filter_le (hitOne c) ((p.strips c.Rail).take j)
          rw [List.length_take] at hfl
          generalize hout : touched p (l.take i) ++ ((p.strips c.Rail).take j).filter (hitOne c) = out
          have hol : out.length ≤ 3200 := by rw [← hout, List.length_append]; omega
          have hot := ss_take out
          have f1 : Fits (out.length + 1) 89 := fits_of (by omega) (by omega)
          simp only [List.cons_append, List.nil_append, prune, List.map_cons, List.map_nil, Go.AM.look, Nat.reduceEqDiff, reduceIte]
          refine awp_sr rfl fun K hK => ?_
          simp -dsimp
          refine hK _ _ ?_; clear hK K
          refine awp_seq_k fun K7 hK7 => ?_
          refine awp_cond rfl (fun hc4 => ?_) (fun hc4 => ?_)
          · skip
            try simp at hc4
            obtain ⟨x, hx⟩ : ∃ x, (p.strips c.Rail)[j]? = some x := ⟨_, List.getElem?_eq_getElem (by omega)⟩
            have wj : IntKind.i64.wrap ((j : Int) + 1) = (j : Int) + 1 := wrap_in (by omega) (by omega)
            have hft := filter_take (q := hitOne c) hx
            refine awp_skip ?_
            simp only [thenA, inBlockA, reduceIte, Nat.reduceEqDiff, eq_self]
            refine hK7 _ _ ?_
            refine awp_prune [0, 6, 8, 15, 16, 17, 56, 57, 58] ?_
            simp only [prune, List.map_cons, List.map_nil, Go.AM.look, Nat.reduceEqDiff, reduceIte]
            refine awp_seq_k fun K8 hK8 => ?_
            refine awp_block ?_
            refine awp_sr rfl fun K hK => ?_
            simp -dsimp [hx]
            refine hK _ _ ?_; clear hK K
            refine awp_sr rfl fun K hK => ?_
            simp -dsimp
            refine hK _ _ ?_; clear hK K
            refine awp_cond rfl (fun hc5 => ?_) (fun hc5 => ?_)
            · skip
              simp at hc5
              have hh : hitOne c x = true := by simp [hitOne]; exact hc5
              refine awp_r rfl fun K hK => ?_
              simp -dsimp [f1]
              refine hK _ _ ?_; clear hK K
              simp only [thenA, inBlockA, reduceIte, Nat.reduceEqDiff, eq_self]
              refine hK8 _ _ ?_
              refine awp_prune [0, 6, 8, 15, 16, 17, 56, 57, 58] ?_
              simp only [prune, List.map_cons, List.map_nil, Go.AM.look, Nat.reduceEqDiff, reduceIte]
              refine awp_r rfl fun K hK => ?_
              simp -dsimp [wj]
              refine hK _ _ ?_; clear hK K
              simp only [thenA, inBlockA, reduceIte, Nat.reduceEqDiff, eq_self]
              refine ⟨j + 1, by omega, by omega, sub_rb [some 3, some 1] rfl (by simp [hft, hh, ← hout]; omega) (by simp [hft, hh, ← List.append_assoc, hout, hot])⟩
            · skip
              simp at hc5
              have hh : hitOne c x = false := by simp [hitOne]; exact hc5
              refine awp_skip ?_
              simp only [thenA, inBlockA, reduceIte, Nat.reduceEqDiff, eq_self]
              refine hK8 _ _ ?_
              refine awp_prune [0, 6, 8, 15, 16, 17, 56, 57, 58] ?_
              simp only [prune, List.map_cons, List.map_nil, Go.AM.look, Nat.reduceEqDiff, reduceIte]
              refine awp_r rfl fun K hK => ?_
              simp -dsimp [wj]
              refine hK _ _ ?_; clear hK K
              simp only [thenA, inBlockA, reduceIte, Nat.reduceEqDiff, eq_self]
              refine ⟨j + 1, by omega, by omega, sub_rb [some 0, some 1] rfl (by simp [hft, hh, ← hout]) (by simp [hft, hh, hout, hot])⟩
          · skip
            try simp at hc4
            have hje : (p.strips c.Rail).take j = p.strips c.Rail := List.take_of_length_le (by omega)
            have htt := touched_take (p := p) hcv
            have hto : touchedOne p c = (p.strips c.Rail).filter (hitOne c) := rfl
            have htl := touchedOne_len c hv hc2
            refine awp_exit ?_
            simp only [thenA, inBlockA, reduceIte, Nat.reduceEqDiff, eq_self]
            refine hK4 _ _ ?_
            refine awp_prune [0, 6, 15, 16, 17] ?_
            simp only [prune, List.map_cons, List.map_nil, Go.AM.look, Nat.reduceEqDiff, reduceIte]
            refine awp_r rfl fun K hK => ?_
            simp -dsimp [wi]
            refine hK _ _ ?_; clear hK K
            simp only [thenA, inBlockA, reduceIte, Nat.reduceEqDiff, eq_self]
            refine ⟨i + 1, ⟨by omega, by rw [take_all' hcv, i2, hok]; rfl, by rw [htt, List.length_append]; omega⟩, by omega, sub_rb [some 0] rfl (by simp [htt, hto, ← hout, hje]) (by simp [htt, hto, ← hout, hje])⟩
    · skip
      try simp at hc1
      have hil : i = l.length := by omega
      have ht : coversB p l = true := by simp [coversB, hn]; exact List.all_eq_true.1 (all_of_take (by omega) i2)
      refine awp_exit ?_
      simp only [thenA, inBlockA, reduceIte, Nat.reduceEqDiff, eq_self]
      refine hK2 _ _ ?_
      refine awp_prune [6] ?_
      simp only [prune, List.map_cons, List.map_nil, Go.AM.look, Nat.reduceEqDiff, reduceIte]
      refine awp_sr rfl fun K hK => ?_
      simp -dsimp
      refine hK _ _ ?_; clear hK K
      have hr := hrt ht; subst hr
      refine awp_ret ?_
      rw [hil, List.take_length] at htk ⊢
      simp [htk]

theorem touched_ok {p : Plan} {l : List Cover} (hv : validB p = true) (hc : coversB p l = true) {s : SS} (hs : s ∈ touched p l) : s.Ok := by
  simp only [coversB, Bool.and_eq_true, List.all_eq_true] at hc
  simp only [touched, List.mem_flatMap] at hs
  obtain ⟨c, hcl, hs⟩ := hs
  have := coverB_iff.1 (hc.2 c hcl)
  have hi := inr_iff.1 this.1
  exact strips_ok (rail_ok hv (r := c.Rail) (by omega) (by omega)) (List.mem_filter.1 hs).1
theorem touched_len {p : Plan} (hv : validB p = true) : ∀ {l : List Cover}, l.all (coverB p) = true → (touched p l).length ≤ 31 * l.length
  | [], _ => by simp [touched]
  | c :: l, h => by
    simp only [List.all_cons, Bool.and_eq_true] at h
    have h1 := touched_len hv h.2
    have h2 := touchedOne_len c hv (coverB_iff.1 h.1).1
    simp only [touched, List.flatMap_cons, List.length_append, List.length_cons] at h1 ⊢
    omega
theorem touched_len' {p : Plan} {l : List Cover} (hv : validB p = true) (hc : coversB p l = true) : (touched p l).length ≤ 3100 := by
  simp only [coversB, Bool.and_eq_true, decide_eq_true_eq] at hc
  have := touched_len hv hc.2
  omega

/-- A car's part and profile, the other's: whether they are as defined. -/
def clearOk (p : Plan) (a : List Cover) (x : Profile) (b : List Cover) (y : Profile) : Bool := validB p && ((profB x && profB y) && (coversB p a && coversB p b))

theorem c_Clear_v (p : Plan) (a : List Cover) (x : Profile) (b : List Cover) (y : Profile) (h : validB p = false) : PureCall Tryz.prog 9 [p.av, .lst 3 (a.map Cover.cells), x.av, .lst 3 (b.map Cover.cells), y.av] (.tup [Bo false, I 2]) := by
  refine PureCall.of_body Tryz.func9 rfl (by decide) (by simp [Tryz.ntmps9]) ?_
  simp only [Tryz.ntmps9, Tryz.results9]
  refine awp_sr rfl fun K hK => ?_
  simp -dsimp
  refine hK _ _ ?_; clear hK K
  refine awp_sr rfl fun K hK => ?_
  simp -dsimp
  refine callK_intro _ (c_begin_f p h) (by simp) ?_
  simp -dsimp
  refine hK _ _ ?_; clear hK K
  refine awp_seq_k fun K1 hK1 => ?_
  refine awp_sr rfl fun K hK => ?_
  simp -dsimp
  refine callK_may _ (fun hm => (by simp at hm : PureCall Tryz.prog 27 _ (Bo false))) (by simp) ?_
  simp -dsimp
  refine hK _ _ ?_; clear hK K
  refine awp_cond rfl (fun hc0 => ?_) (fun hc0 => ?_)
  · skip
    skip
    refine awp_sr rfl fun K hK => ?_
    simp -dsimp
    refine hK _ _ ?_; clear hK K
    exact awp_ret (by simp)
  · skip
    skip
    simp at hc0
theorem c_Clear_p (p : Plan) (a : List Cover) (x : Profile) (b : List Cover) (y : Profile) (hv : validB p = true) (h : (profB x && profB y) = false) : PureCall Tryz.prog 9 [p.av, .lst 3 (a.map Cover.cells), x.av, .lst 3 (b.map Cover.cells), y.av] (.tup [Bo false, I 2]) := by
  have hp := c_prof2 x y
  rw [h] at hp
  refine PureCall.of_body Tryz.func9 rfl (by decide) (by simp [Tryz.ntmps9]) ?_
  simp only [Tryz.ntmps9, Tryz.results9]
  refine awp_sr rfl fun K hK => ?_
  simp -dsimp
  refine hK _ _ ?_; clear hK K
  refine awp_sr rfl fun K hK => ?_
  simp -dsimp
  refine callK_intro _ (c_begin p hv) (by simp) ?_
  simp -dsimp
  refine hK _ _ ?_; clear hK K
  refine awp_seq_k fun K1 hK1 => ?_
  refine awp_sr rfl fun K hK => ?_
  simp -dsimp
  refine callK_may _ (fun hm => hp) (by simp) ?_
  simp -dsimp
  refine hK _ _ ?_; clear hK K
  refine awp_cond rfl (fun hc0 => ?_) (fun hc0 => ?_)
  · skip
    skip
    refine awp_sr rfl fun K hK => ?_
    simp -dsimp
    refine hK _ _ ?_; clear hK K
    exact awp_ret (by simp)
  · skip
    skip
    simp at hc0
theorem c_Clear_ff (p : Plan) (a : List Cover) (x : Profile) (b : List Cover) (y : Profile) (hv : validB p = true) (h : (profB x && profB y) = true) (ha : coversB p a = false) (hb : coversB p b = false) :
    PureCall Tryz.prog 9 [p.av, .lst 3 (a.map Cover.cells), x.av, .lst 3 (b.map Cover.cells), y.av] (.tup [Bo false, I 2]) := by
  have hp := c_prof2 x y
  rw [h] at hp
  refine PureCall.of_body Tryz.func9 rfl (by decide) (by simp [Tryz.ntmps9]) ?_
  simp only [Tryz.ntmps9, Tryz.results9]
  refine awp_sr rfl fun K hK => ?_
  simp -dsimp
  refine hK _ _ ?_; clear hK K
  refine awp_sr rfl fun K hK => ?_
  simp -dsimp
  refine callK_intro _ (c_begin p hv) (by simp) ?_
  simp -dsimp
  refine hK _ _ ?_; clear hK K
  refine awp_seq_k fun K1 hK1 => ?_
  refine awp_sr rfl fun K hK => ?_
  simp -dsimp
  refine callK_may _ (fun hm => hp) (by simp) ?_
  simp -dsimp
  refine hK _ _ ?_; clear hK K
  refine awp_cond rfl (fun hc0 => ?_) (fun hc0 => ?_)
  · skip
    skip
    simp at hc0
  · skip
    skip
    refine awp_skip ?_
    simp only [thenA, inBlockA, reduceIte, Nat.reduceEqDiff, eq_self]
    refine hK1 _ _ ?_
    refine awp_prune [1, 3, 7, 9, 12] ?_
    simp only [prune, List.map_cons, List.map_nil, Go.AM.look, Nat.reduceEqDiff, reduceIte]
    refine awp_sr rfl fun K hK => ?_
    simp -dsimp
    refine callK_intro _ (c_touched p a hv (.tup [.v (.slice none 0 0), Bo false]) (by simp [ha]) (by simp [ha])) (by simp) ?_
    simp -dsimp
    refine hK _ _ ?_; clear hK K
    refine awp_sr rfl fun K hK => ?_
    simp -dsimp
    refine callK_intro _ (c_touched p b hv (.tup [.v (.slice none 0 0), Bo false]) (by simp [hb]) (by simp [hb])) (by simp) ?_
    simp -dsimp
    refine hK _ _ ?_; clear hK K
    refine awp_seq_k fun K2 hK2 => ?_
    refine awp_sr rfl fun K hK => ?_
    simp -dsimp
    refine hK _ _ ?_; clear hK K
    refine awp_cond rfl (fun hc1 => ?_) (fun hc1 => ?_)
    · skip
      skip
      refine awp_sr rfl fun K hK => ?_
      simp -dsimp
      refine hK _ _ ?_; clear hK K
      exact awp_ret (by simp)
    · skip
      skip
      simp at hc1
theorem c_Clear_ft (p : Plan) (a : List Cover) (x : Profile) (b : List Cover) (y : Profile) (hv : validB p = true) (h : (profB x && profB y) = true) (ha : coversB p a = false) (hb : coversB p b = true) :
    PureCall Tryz.prog 9 [p.av, .lst 3 (a.map Cover.cells), x.av, .lst 3 (b.map Cover.cells), y.av] (.tup [Bo false, I 2]) := by
  have hp := c_prof2 x y
  rw [h] at hp
  refine PureCall.of_body Tryz.func9 rfl (by decide) (by simp [Tryz.ntmps9]) ?_
  simp only [Tryz.ntmps9, Tryz.results9]
  refine awp_sr rfl fun K hK => ?_
  simp -dsimp
  refine hK _ _ ?_; clear hK K
  refine awp_sr rfl fun K hK => ?_
  simp -dsimp
  refine callK_intro _ (c_begin p hv) (by simp) ?_
  simp -dsimp
  refine hK _ _ ?_; clear hK K
  refine awp_seq_k fun K1 hK1 => ?_
  refine awp_sr rfl fun K hK => ?_
  simp -dsimp
  refine callK_may _ (fun hm => hp) (by simp) ?_
  simp -dsimp
  refine hK _ _ ?_; clear hK K
  refine awp_cond rfl (fun hc0 => ?_) (fun hc0 => ?_)
  · skip
    skip
    simp at hc0
  · skip
    skip
    refine awp_skip ?_
    simp only [thenA, inBlockA, reduceIte, Nat.reduceEqDiff, eq_self]
    refine hK1 _ _ ?_
    refine awp_prune [1, 3, 7, 9, 12] ?_
    simp only [prune, List.map_cons, List.map_nil, Go.AM.look, Nat.reduceEqDiff, reduceIte]
    refine awp_sr rfl fun K hK => ?_
    simp -dsimp
    refine callK_intro _ (c_touched p a hv (.tup [.v (.slice none 0 0), Bo false]) (by simp [ha]) (by simp [ha])) (by simp) ?_
    simp -dsimp
    refine hK _ _ ?_; clear hK K
    refine awp_sr rfl fun K hK => ?_
    simp -dsimp
    refine callK_intro _ (c_touched p b hv (.tup [.lst 9 ((touched p b).map SS.cells), Bo true]) (by simp [hb]) (by simp [hb])) (by simp) ?_
    simp -dsimp
    refine hK _ _ ?_; clear hK K
    refine awp_seq_k fun K2 hK2 => ?_
    refine awp_sr rfl fun K hK => ?_
    simp -dsimp
    refine hK _ _ ?_; clear hK K
    refine awp_cond rfl (fun hc1 => ?_) (fun hc1 => ?_)
    · skip
      skip
      refine awp_sr rfl fun K hK => ?_
      simp -dsimp
      refine hK _ _ ?_; clear hK K
      exact awp_ret (by simp)
    · skip
      skip
      simp at hc1
theorem c_Clear_tf (p : Plan) (a : List Cover) (x : Profile) (b : List Cover) (y : Profile) (hv : validB p = true) (h : (profB x && profB y) = true) (ha : coversB p a = true) (hb : coversB p b = false) :
    PureCall Tryz.prog 9 [p.av, .lst 3 (a.map Cover.cells), x.av, .lst 3 (b.map Cover.cells), y.av] (.tup [Bo false, I 2]) := by
  have hp := c_prof2 x y
  rw [h] at hp
  refine PureCall.of_body Tryz.func9 rfl (by decide) (by simp [Tryz.ntmps9]) ?_
  simp only [Tryz.ntmps9, Tryz.results9]
  refine awp_sr rfl fun K hK => ?_
  simp -dsimp
  refine hK _ _ ?_; clear hK K
  refine awp_sr rfl fun K hK => ?_
  simp -dsimp
  refine callK_intro _ (c_begin p hv) (by simp) ?_
  simp -dsimp
  refine hK _ _ ?_; clear hK K
  refine awp_seq_k fun K1 hK1 => ?_
  refine awp_sr rfl fun K hK => ?_
  simp -dsimp
  refine callK_may _ (fun hm => hp) (by simp) ?_
  simp -dsimp
  refine hK _ _ ?_; clear hK K
  refine awp_cond rfl (fun hc0 => ?_) (fun hc0 => ?_)
  · skip
    skip
    simp at hc0
  · skip
    skip
    refine awp_skip ?_
    simp only [thenA, inBlockA, reduceIte, Nat.reduceEqDiff, eq_self]
    refine hK1 _ _ ?_
    refine awp_prune [1, 3, 7, 9, 12] ?_
    simp only [prune, List.map_cons, List.map_nil, Go.AM.look, Nat.reduceEqDiff, reduceIte]
    refine awp_sr rfl fun K hK => ?_
    simp -dsimp
    refine callK_intro _ (c_touched p a hv (.tup [.lst 9 ((touched p a).map SS.cells), Bo true]) (by simp [ha]) (by simp [ha])) (by simp) ?_
    simp -dsimp
    refine hK _ _ ?_; clear hK K
    refine awp_sr rfl fun K hK => ?_
    simp -dsimp
    refine callK_intro _ (c_touched p b hv (.tup [.v (.slice none 0 0), Bo false]) (by simp [hb]) (by simp [hb])) (by simp) ?_
    simp -dsimp
    refine hK _ _ ?_; clear hK K
    refine awp_seq_k fun K2 hK2 => ?_
    refine awp_sr rfl fun K hK => ?_
    simp -dsimp
    refine hK _ _ ?_; clear hK K
    refine awp_cond rfl (fun hc1 => ?_) (fun hc1 => ?_)
    · skip
      skip
      refine awp_sr rfl fun K hK => ?_
      simp -dsimp
      refine hK _ _ ?_; clear hK K
      exact awp_ret (by simp)
    · skip
      skip
      simp at hc1

theorem c_Clear_t (p : Plan) (a : List Cover) (x : Profile) (b : List Cover) (y : Profile) (hv : validB p = true) (h : (profB x && profB y) = true) (ha : coversB p a = true) (hb : coversB p b = true) :
    PureCall Tryz.prog 9 [p.av, .lst 3 (a.map Cover.cells), x.av, .lst 3 (b.map Cover.cells), y.av] (.tup [Bo (clearB p a x b y), I 0]) := by
  have hp := c_prof2 x y
  have hxy : profB x = true ∧ profB y = true := by simpa using h
  rw [h] at hp
  have la := touched_len' hv ha
  have lb := touched_len' hv hb
  refine PureCall.of_body Tryz.func9 rfl (by decide) (by simp [Tryz.ntmps9]) ?_
  simp only [Tryz.ntmps9, Tryz.results9]
  refine awp_sr rfl fun K hK => ?_
  simp -dsimp
  refine hK _ _ ?_; clear hK K
  refine awp_sr rfl fun K hK => ?_
  simp -dsimp
  refine callK_intro _ (c_begin p hv) (by simp) ?_
  simp -dsimp
  refine hK _ _ ?_; clear hK K
  refine awp_seq_k fun K1 hK1 => ?_
  refine awp_sr rfl fun K hK => ?_
  simp -dsimp
  refine callK_may _ (fun hm => hp) (by simp) ?_
  simp -dsimp
  refine hK _ _ ?_; clear hK K
  refine awp_cond rfl (fun hc0 => ?_) (fun hc0 => ?_)
  · skip
    skip
    simp at hc0
  · skip
    skip
    refine awp_skip ?_
    simp only [thenA, inBlockA, reduceIte, Nat.reduceEqDiff, eq_self]
    refine hK1 _ _ ?_
    refine awp_prune [1, 3, 7, 9, 12] ?_
    simp only [prune, List.map_cons, List.map_nil, Go.AM.look, Nat.reduceEqDiff, reduceIte]
    refine awp_sr rfl fun K hK => ?_
    simp -dsimp
    refine callK_intro _ (c_touched p a hv (.tup [.lst 9 ((touched p a).map SS.cells), Bo true]) (by simp [ha]) (by simp)) (by simp) ?_
    simp -dsimp
    refine hK _ _ ?_; clear hK K
    refine awp_sr rfl fun K hK => ?_
    simp -dsimp
    refine callK_intro _ (c_touched p b hv (.tup [.lst 9 ((touched p b).map SS.cells), Bo true]) (by simp [hb]) (by simp)) (by simp) ?_
    simp -dsimp
    refine hK _ _ ?_; clear hK K
    refine awp_seq_k fun K2 hK2 => ?_
    refine awp_sr rfl fun K hK => ?_
    simp -dsimp
    refine hK _ _ ?_; clear hK K
    refine awp_cond rfl (fun hc1 => ?_) (fun hc1 => ?_)
    · skip
      skip
      simp at hc1
    · skip
      skip
      refine awp_skip ?_
      simp only [thenA, inBlockA, reduceIte, Nat.reduceEqDiff, eq_self]
      refine hK2 _ _ ?_
      refine awp_prune [7, 9, 14, 15] ?_
      simp only [prune, List.map_cons, List.map_nil, Go.AM.look, Nat.reduceEqDiff, reduceIte]
      refine awp_seq_k fun K3 hK3 => ?_
      refine awp_sr rfl fun K hK => ?_
      simp -dsimp
      refine hK _ _ ?_; clear hK K
      refine awp_block ?_
      refine awp_prune [7, 9, 15, 53, 54, 55] ?_
      simp only [prune, List.map_cons, List.map_nil, Go.AM.look, Nat.reduceEqDiff, reduceIte]
      refine awp_loop_l [7, 9, 15, 53, 54] (α := Nat) (fun k => [(55, I k)]) (fun _ => [some (.els 2 [p.cells]), some (.els 2 [x.cells]), some (.els 2 [y.cells])]) (fun k => k ≤ (touched p a).length ∧ ((touched p a).take k).any (fun s => (touched p b).any fun t => foulB s x t y) = false) (fun k => (touched p a).length - k) 0 ?_ ?_ ?_
      · simp
      · exact sub_same (by simp)
      rintro k ⟨k1, k2⟩
      simp only [List.cons_append, List.nil_append, prune, List.map_cons, List.map_nil, Go.AM.look, Nat.reduceEqDiff, reduceIte]
      refine awp_sr rfl fun K hK => ?_
      simp -dsimp
      refine hK _ _ ?_; clear hK K
      refine awp_seq_k fun K4 hK4 => ?_
      refine awp_cond rfl (fun hc2 => ?_) (fun hc2 => ?_)
      · skip
        try simp at hc2
        obtain ⟨s, hs⟩ : ∃ s, (touched p a)[k]? = some s := ⟨_, List.getElem?_eq_getElem hc2⟩
        have wk : IntKind.i64.wrap ((k : Int) + 1) = (k : Int) + 1 := wrap_in (by omega) (by omega)
        have os := touched_ok hv ha (List.mem_of_getElem? hs)
        refine awp_skip ?_
        simp only [thenA, inBlockA, reduceIte, Nat.reduceEqDiff, eq_self]
        refine hK4 _ _ ?_
        refine awp_prune [7, 9, 15, 53, 54, 55] ?_
        simp only [prune, List.map_cons, List.map_nil, Go.AM.look, Nat.reduceEqDiff, reduceIte]
        refine awp_seq_k fun K5 hK5 => ?_
        refine awp_block ?_
        refine awp_sr rfl fun K hK => ?_
        simp -dsimp [hs]
        refine hK _ _ ?_; clear hK K
        refine awp_sr rfl fun K hK => ?_
        simp -dsimp
        refine hK _ _ ?_; clear hK K
        refine awp_block ?_
        refine awp_prune [7, 9, 15, 18, 53, 54, 55, 59, 60, 61] ?_
        simp only [prune, List.map_cons, List.map_nil, Go.AM.look, Nat.reduceEqDiff, reduceIte]
        refine awp_loop_l [7, 9, 15, 18, 53, 54, 55, 59, 60] (α := Nat) (fun j => [(61, I j)]) (fun _ => [some (.els 2 [p.cells]), some (.els 2 [x.cells]), some (.els 2 [y.cells]), some (.els 9 [s.cells])]) (fun j => j ≤ (touched p b).length ∧ ((touched p b).take j).any (fun t => foulB s x t y) = false) (fun j => (touched p b).length - j) 0 ?_ ?_ ?_
        · simp
        · exact sub_same (by simp)
        rintro j ⟨j1, j2⟩
        simp only [List.cons_append, List.nil_append, prune, List.map_cons, List.map_nil, Go.AM.look, Nat.reduceEqDiff, reduceIte]
        refine awp_sr rfl fun K hK => ?_
        simp -dsimp
        refine hK _ _ ?_; clear hK K
        refine awp_seq_k fun K6 hK6 => ?_
        refine awp_cond rfl (fun hc3 => ?_) (fun hc3 => ?_)
        · skip
          try simp at hc3
          obtain ⟨t, ht⟩ : ∃ t, (touched p b)[j]? = some t := ⟨_, List.getElem?_eq_getElem hc3⟩
          have wj : IntKind.i64.wrap ((j : Int) + 1) = (j : Int) + 1 := wrap_in (by omega) (by omega)
          have ot := touched_ok hv hb (List.mem_of_getElem? ht)
          refine awp_skip ?_
          simp only [thenA, inBlockA, reduceIte, Nat.reduceEqDiff, eq_self]
          refine hK6 _ _ ?_
          refine awp_prune [7, 9, 15, 18, 53, 54, 55, 59, 60, 61] ?_
          simp only [prune, List.map_cons, List.map_nil, Go.AM.look, Nat.reduceEqDiff, reduceIte]
          refine awp_seq_k fun K7 hK7 => ?_
          refine awp_block ?_
          refine awp_sr rfl fun K hK => ?_
          simp -dsimp [ht]
          refine hK _ _ ?_; clear hK K
          refine awp_sr rfl fun K hK => ?_
          simp -dsimp
          refine callK_intro _ (c_foul s t x y os ot hxy.1 hxy.2) (by simp) ?_
          simp -dsimp
          refine hK _ _ ?_; clear hK K
          refine awp_cond rfl (fun hc4 => ?_) (fun hc4 => ?_)
          · skip
            try simp at hc4
            have hcl : clearB p a x b y = false := by
              unfold clearB
              rw [Bool.not_eq_false', List.any_eq_true]
              exact ⟨s, List.mem_of_getElem? hs, List.any_eq_true.2 ⟨t, List.mem_of_getElem? ht, hc4⟩⟩
            refine awp_sr rfl fun K hK => ?_
            simp -dsimp
            refine hK _ _ ?_; clear hK K
            exact awp_ret (by simp [hcl])
          · skip
            try simp at hc4
            refine awp_skip ?_
            simp only [thenA, inBlockA, reduceIte, Nat.reduceEqDiff, eq_self]
            refine hK7 _ _ ?_
            refine awp_prune [7, 9, 15, 18, 53, 54, 55, 59, 60, 61] ?_
            simp only [prune, List.map_cons, List.map_nil, Go.AM.look, Nat.reduceEqDiff, reduceIte]
            refine awp_r rfl fun K hK => ?_
            simp -dsimp [wj]
            refine hK _ _ ?_; clear hK K
            simp only [thenA, inBlockA, reduceIte, Nat.reduceEqDiff, eq_self]
            exact ⟨j + 1, ⟨by omega, by rw [any_take ht, j2, hc4]; rfl⟩, by omega, sub_rb [some 0, some 1, some 2, some 3] rfl (by simp) (by simp)⟩
        · skip
          try simp at hc3
          have hin := any_of_take (by omega) j2
          refine awp_exit ?_
          simp only [thenA, inBlockA, reduceIte, Nat.reduceEqDiff, eq_self]
          refine hK5 _ _ ?_
          refine awp_prune [7, 9, 15, 53, 54, 55] ?_
          simp only [prune, List.map_cons, List.map_nil, Go.AM.look, Nat.reduceEqDiff, reduceIte]
          refine awp_r rfl fun K hK => ?_
          simp -dsimp [wk]
          refine hK _ _ ?_; clear hK K
          simp only [thenA, inBlockA, reduceIte, Nat.reduceEqDiff, eq_self]
          exact ⟨k + 1, ⟨by omega, by rw [any_take hs, k2, hin]; rfl⟩, by omega, sub_rb [some 0, some 1, some 2] rfl (by simp) (by simp)⟩
      · skip
        try simp at hc2
        have hcl : clearB p a x b y = true := by unfold clearB; rw [any_of_take (by omega) k2]; rfl
        refine awp_exit ?_
        simp only [thenA, inBlockA, reduceIte, Nat.reduceEqDiff, eq_self]
        refine hK3 _ _ ?_
        refine awp_prune [] ?_
        simp only [prune, List.map_cons, List.map_nil, Go.AM.look, Nat.reduceEqDiff, reduceIte]
        refine awp_sr rfl fun K hK => ?_
        simp -dsimp
        refine hK _ _ ?_; clear hK K
        exact awp_ret (by simp [hcl])

theorem c_Clear (p : Plan) (a : List Cover) (x : Profile) (b : List Cover) (y : Profile) : PureCall Tryz.prog 9 [p.av, .lst 3 (a.map Cover.cells), x.av, .lst 3 (b.map Cover.cells), y.av]
    (if clearOk p a x b y then .tup [Bo (clearB p a x b y), I 0] else .tup [Bo false, I 2]) := by
  unfold clearOk
  cases hv : validB p with
  | false => exact c_Clear_v p a x b y hv
  | true =>
    cases h : (profB x && profB y) with
    | false => exact c_Clear_p p a x b y hv h
    | true =>
      cases ha : coversB p a with
      | false =>
        cases hb : coversB p b with
        | false => exact c_Clear_ff p a x b y hv h ha hb
        | true => exact c_Clear_ft p a x b y hv h ha hb
      | true =>
        cases hb : coversB p b with
        | false => exact c_Clear_tf p a x b y hv h ha hb
        | true => exact c_Clear_t p a x b y hv h ha hb
end Go.Tram
