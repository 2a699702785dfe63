/- Walks: distances, as the document finds them. -/
import Derived.Test.YtdabjdajemiagaaGreatD7
import Derived.Test.YtdabjdajemiagaaGreatQA
/- Walks: distances, as the document finds them. -/
namespace Go.Tram
open Go.AM Go.Proofs
set_option maxRecDepth 10000
set_option maxHeartbeats 4000000
set_option linter.unusedVariables false
set_option linter.unusedSimpArgs false

theorem c_rLenK (p : Plan) (r : Int) (hv : validB p = true) (h0 : 0 ≤ r) (h1 : r < p.Rails.length) : PureCall Tryz.prog 49 [p.av, I r] (I (p.len r)) :=
  have ro := rail_ok hv h0 h1
  c_Length p r h0 h1 ro.f ro.t (by have := ro.s; omega) ro.spots

theorem c_rDistances (p : Plan) (m : Move) (hv : validB p = true) (hm : movB p m = true) : PureCall Tryz.prog 44 [p.av, m.av] (.lst 1 ((dEnd p (numM m)).ln.map nCell)) := by
  have hR := (valid_parts hv).2.1
  have hm' := movB_iff.1 hm
  have w2 : IntKind.i64.wrap (2 * (p.Rails.length : Int)) = 2 * (p.Rails.length : Int) := wrap_in (by omega) (by omega)
  have wt : (2 * (p.Rails.length : Int)).toNat = 2 * p.Rails.length := by omega
  have f1 : Fits (2 * p.Rails.length) 9 := fits_of (by omega) (by omega)
  have w0 : 0 ≤ 2 * (p.Rails.length : Int) := by omega
  have hb0 : 0 ≤ numM m ∧ numM m < 2 * p.Rails.length := by unfold numM; split <;> omega
  have hnm := c_rNumber m (by omega) (by omega)
  generalize numM m = to at hb0 hnm ⊢
  obtain ⟨n, hn⟩ : ∃ n, n = 2 * p.Rails.length := ⟨_, rfl⟩
  have hn' : 2 * (p.Rails.length : Int) = (n : Int) := by omega
  have hinit := bf0_ok (p := p) hb0.1 hb0.2
  have hb00 := hb0.1
  have hb01 : to.toNat < n := by omega
  have hbf0 : bf0 p to = (List.replicate n (-1)).set to.toNat 0 := by unfold bf0; rw [hn]
  rw [hbf0] at hinit
  rw [← hn] at wt f1
  rw [hn'] at w2 wt w0
  refine PureCall.of_body Tryz.func44 rfl (by decide) (by simp [Tryz.ntmps44]) ?_
  simp only [Tryz.ntmps44, Tryz.results44]
  refine awp_sr rfl fun K hK => ?_
  simp -dsimp
  refine hK _ _ ?_; clear hK K
  refine awp_sr rfl fun K hK => ?_
  simp -dsimp [hn', w2, wt, f1, w0]
  refine hK _ _ ?_; clear hK K
  refine awp_seq_k fun K1 hK1 => ?_
  refine awp_sr rfl fun K hK => ?_
  simp -dsimp
  refine hK _ _ ?_; clear hK K
  refine awp_block ?_
  refine awp_prune [2, 3, 5, 6] ?_
  simp only [prune, List.map_cons, List.map_nil, Go.AM.look, Nat.reduceEqDiff, reduceIte]
  refine awp_loop_l [2, 3, 5] (α := Nat) (fun k => [(6, I k)]) (fun k => [some (.els 2 [p.cells]), some (.els 2 [m.cells]), irow (List.replicate k (-1) ++ List.replicate (n - k) 0)]) (fun k => k ≤ n) (fun k => n - k) 0 ?_ ?_ ?_
  · simp
  · exact sub_rb [some 0, some 1, some 2] rfl (by simp) (by simp)
  rintro k k1
  simp only [List.cons_append, List.nil_append, prune, List.map_cons, List.map_nil, Go.AM.look, Nat.reduceEqDiff, reduceIte]
  refine awp_seq_k fun K2 hK2 => ?_
  refine awp_sr rfl fun K hK => ?_
  simp -dsimp
  refine hK _ _ ?_; clear hK K
  refine awp_cond rfl (fun hc0 => ?_) (fun hc0 => ?_)
  · skip
    try simp at hc0
    have hk : k < n := by simpa using hc0
    have wk : IntKind.i64.wrap ((k : Int) + 1) = (k : Int) + 1 := wrap_in (by omega) (by omega)
    have hg0 : (List.replicate k [I (-1)] ++ List.replicate (n - k) [I 0])[k]? = some [I 0] := by rw [List.getElem?_append_right (by simp), List.length_replicate, Nat.sub_self, List.getElem?_replicate, if_pos (by omega)]
    have hs0 : List.replicate k [I (-1)] ++ (List.replicate (n - k) [I 0]).set 0 [I (-1)] = List.replicate (k + 1) [I (-1)] ++ List.replicate (n - (k + 1)) [I 0] := by
      obtain ⟨m, hm⟩ : ∃ m, n - k = m + 1 := ⟨n - k - 1, by omega⟩
      rw [hm, show n - (k + 1) = m by omega, List.replicate_succ' (n := k), List.append_assoc]; simp [List.replicate_succ]
    refine awp_skip ?_
    simp only [thenA, inBlockA, reduceIte, Nat.reduceEqDiff, eq_self]
    refine hK2 _ _ ?_
    refine awp_prune [2, 3, 5, 6] ?_
    simp only [prune, List.map_cons, List.map_nil, Go.AM.look, Nat.reduceEqDiff, reduceIte]
    refine awp_seq_k fun K3 hK3 => ?_
    refine awp_block ?_
    refine awp_r rfl fun K hK => ?_
    simp -dsimp [hk, hg0]
    refine hK _ _ ?_; clear hK K
    simp only [thenA, inBlockA, reduceIte, Nat.reduceEqDiff, eq_self]
    refine hK3 _ _ ?_
    refine awp_prune [2, 3, 5, 6] ?_
    simp only [prune, List.map_cons, List.map_nil, Go.AM.look, Nat.reduceEqDiff, reduceIte]
    refine awp_r rfl fun K hK => ?_
    simp -dsimp [wk]
    refine hK _ _ ?_; clear hK K
    simp only [thenA, inBlockA, reduceIte, Nat.reduceEqDiff, eq_self]
    exact ⟨k + 1, by omega, by omega, sub_rb [some 0, some 1, some 2] rfl (by simp) (by simp [hs0])⟩
  · skip
    try simp at hc0
    have hke : k = n := by omega
    subst hke
    refine awp_exit ?_
    simp only [thenA, inBlockA, reduceIte, Nat.reduceEqDiff, eq_self]
    refine hK1 _ _ ?_
    refine awp_prune [2, 3, 5] ?_
    simp only [prune, List.map_cons, List.map_nil, Go.AM.look, Nat.reduceEqDiff, reduceIte]
    refine awp_sr rfl fun K hK => ?_
    simp -dsimp [hb00, hb01]
    refine callK_intro _ (hnm) (by simp) ?_
    simp -dsimp [hb00, hb01]
    refine hK _ _ ?_; clear hK K
    refine awp_seq_k fun K4 hK4 => ?_
    refine awp_sr rfl fun K hK => ?_
    simp -dsimp
    refine hK _ _ ?_; clear hK K
    refine awp_block ?_
    refine awp_prune [2, 5, 7] ?_
    simp only [prune, List.map_cons, List.map_nil, Go.AM.look, Nat.reduceEqDiff, reduceIte]
    refine awp_loop_l [2, 5] (α := Bool × List Int) (fun s => [(7, Bo s.1)]) (fun s => [some (.els 2 [p.cells]), none, irow s.2]) (fun s => BFI p to s.2 ∧ (s.1 = true → ∀ k : Nat, k < 2 * p.Rails.length → ∀ y ∈ nxI p k, okAt p s.2 k y)) (fun s => 2 * phi s.2 + if s.1 = true then 0 else 1) (false, (List.replicate k (-1)).set to.toNat 0) ?_ ?_ ?_
    · exact ⟨hinit, by simp⟩
    · exact sub_rb [some 0, none, some 2] rfl (by simp) (by simp)
    rintro ⟨sm, out⟩ ⟨i1, i2⟩
    simp only at i1 i2 ⊢
    simp only [List.cons_append, List.nil_append, prune, List.map_cons, List.map_nil, Go.AM.look, Nat.reduceEqDiff, reduceIte]
    refine awp_seq_k fun K5 hK5 => ?_
    refine awp_sr rfl fun K hK => ?_
    simp -dsimp
    refine hK _ _ ?_; clear hK K
    refine awp_cond rfl (fun hc1 => ?_) (fun hc1 => ?_)
    · skip
      skip
      obtain rfl : sm = false := by simpa using hc1
      refine awp_skip ?_
      simp only [thenA, inBlockA, reduceIte, Nat.reduceEqDiff, eq_self]
      refine hK5 _ _ ?_
      refine awp_prune [2, 5] ?_
      simp only [prune, List.map_cons, List.map_nil, Go.AM.look, Nat.reduceEqDiff, reduceIte]
      refine awp_block ?_
      refine awp_sr rfl fun K hK => ?_
      simp -dsimp
      refine hK _ _ ?_; clear hK K
      refine awp_sr rfl fun K hK => ?_
      simp -dsimp
      refine hK _ _ ?_; clear hK K
      refine awp_block ?_
      refine awp_prune [2, 5, 7, 8] ?_
      simp only [prune, List.map_cons, List.map_nil, Go.AM.look, Nat.reduceEqDiff, reduceIte]
      refine awp_loop_l [2, 5] (α := Nat × Bool × List Int) (fun s => [(8, I s.1), (7, Bo s.2.1)]) (fun s => [some (.els 2 [p.cells]), none, irow s.2.2]) (fun s => s.1 ≤ k ∧ BFI p to s.2.2 ∧ ((s.2.1 = true ∧ s.2.2 = out ∧ ∀ j : Nat, j < s.1 → ∀ y ∈ nxI p j, okAt p out j y) ∨ (s.2.1 = false ∧ phi s.2.2 < phi out))) (fun s => k - s.1) (0, true, out) ?_ ?_ ?_
      · exact ⟨Nat.zero_le _, i1, Or.inl ⟨rfl, rfl, fun j hj => absurd hj (by simp)⟩⟩
      · exact sub_same (by simp)
      rintro ⟨i, sm2, o2⟩ ⟨j1, j2, j3⟩
      simp only at j1 j2 j3 ⊢
      simp only [List.cons_append, List.nil_append, prune, List.map_cons, List.map_nil, Go.AM.look, Nat.reduceEqDiff, reduceIte]
      refine awp_seq_k fun K6 hK6 => ?_
      refine awp_sr rfl fun K hK => ?_
      simp -dsimp
      refine hK _ _ ?_; clear hK K
      refine awp_cond rfl (fun hc2 => ?_) (fun hc2 => ?_)
      · skip
        try simp at hc2
        have hi : i < k := by have := j2.len; omega
        have wi : IntKind.i64.wrap ((i : Int) + 1) = (i : Int) + 1 := wrap_in (by omega) (by omega)
        have hbd := fun y hy => nxI_bd (p := p) (k := i) hv (by omega) (by omega) (y := y) hy
        have hln := fun y hy => len_nx (p := p) (k := i) hv (by omega) (by omega) (y := y) hy
        have hnl := nextL_len p (moveM i) hv (mov_of (by omega) (by omega))
        have hnx := c_rNext p (moveM i) hv (mov_of (by omega) (by omega))
        have hbs := fun y hy o s => bfS_ok (p := p) (to := to) hv hb0.1 hb0.2 (i := i) (by omega) (y := y) hy (out := o) (same := s)
        rw [← nxI_len] at hnl
        rw [← mvL_nxI] at hnx
        have hlast : ∀ j : Nat, j < i + 1 → j < i ∨ j = i := fun j hj => by omega
        obtain ⟨N, hN⟩ : ∃ N, nxI p i = N := ⟨_, rfl⟩
        rw [hN] at hbd hln hnl hnx hbs
        refine awp_skip ?_
        simp only [thenA, inBlockA, reduceIte, Nat.reduceEqDiff, eq_self]
        refine hK6 _ _ ?_
        refine awp_prune [2, 5, 7, 8] ?_
        simp only [prune, List.map_cons, List.map_nil, Go.AM.look, Nat.reduceEqDiff, reduceIte]
        refine awp_seq_k fun K7 hK7 => ?_
        refine awp_block ?_
        refine awp_sd mixed rfl fun K hK => ?_
        simp -dsimp
        refine callK_intro _ (c_rOf i (by omega) (by omega)) (by simp) ?_
        simp -dsimp
        refine callK_intro _ (hnx) (by simp) ?_
        simp -dsimp
        refine hK _ _ _ (by decide +kernel) ?_; clear hK K
        refine awp_sr rfl fun K hK => ?_
        simp -dsimp
        refine hK _ _ ?_; clear hK K
        refine awp_block ?_
        refine awp_prune [2, 5, 7, 8, 9, 10] ?_
        simp only [prune, List.map_cons, List.map_nil, Go.AM.look, Nat.reduceEqDiff, reduceIte]
        refine awp_loop_l [2, 5, 8, 9] (α := Nat × Bool × List Int) (fun s => [(10, I s.1), (7, Bo s.2.1)]) (fun s => [some (.els 2 [p.cells]), none, irow s.2.2]) (fun s => s.1 ≤ N.length ∧ BFI p to s.2.2 ∧ ((s.2.1 = true ∧ s.2.2 = out ∧ (∀ j : Nat, j < i → ∀ y ∈ nxI p j, okAt p out j y) ∧ ∀ y ∈ N.take s.1, okAt p out i y) ∨ (s.2.1 = false ∧ phi s.2.2 < phi out))) (fun s => N.length - s.1) (0, sm2, o2) ?_ ?_ ?_
        · exact ⟨Nat.zero_le _, j2, by rcases j3 with ⟨a, b, c⟩ | h; exact Or.inl ⟨a, b, c, by simp⟩; exact Or.inr h⟩
        · exact sub_same (by simp)
        rintro ⟨e, sm3, o3⟩ ⟨l1, l2, l3⟩
        simp only at l1 l2 l3 ⊢
        simp only [List.cons_append, List.nil_append, prune, List.map_cons, List.map_nil, Go.AM.look, Nat.reduceEqDiff, reduceIte]
        refine awp_seq_k fun K8 hK8 => ?_
        refine awp_sr rfl fun K hK => ?_
        simp -dsimp
        refine hK _ _ ?_; clear hK K
        refine awp_cond rfl (fun hc3 => ?_) (fun hc3 => ?_)
        · skip
          skip
          have he : e < N.length := by simpa using hc3
          have we : IntKind.i64.wrap ((e : Int) + 1) = (e : Int) + 1 := wrap_in (by omega) (by omega)
          obtain ⟨y, hy⟩ : ∃ y, N[e]? = some y := ⟨_, List.getElem?_eq_getElem he⟩
          have hyN := List.mem_of_getElem? hy
          have hyb := hbd y hyN
          have hyl := hln y hyN
          obtain ⟨hb1, hb2⟩ := hbs y hyN o3 sm3 l2
          have hst : ((bfS p i (o3, sm3) y).2 = true ∧ (bfS p i (o3, sm3) y).1 = out ∧ (∀ j : Nat, j < i → ∀ y ∈ nxI p j, okAt p out j y) ∧ ∀ y ∈ N.take (e + 1), okAt p out i y) ∨ ((bfS p i (o3, sm3) y).2 = false ∧ phi (bfS p i (o3, sm3) y).1 < phi out) := by
            rcases l3 with ⟨a, b, c, d⟩ | ⟨a, b⟩
            · rcases hb2 with ⟨g1, g2⟩ | ⟨g1, g2⟩
              · refine Or.inl ⟨by rw [g1]; exact a, by rw [g1]; exact b, c, fun z hz => ?_⟩
                rw [List.take_add_one, hy] at hz
                rcases List.mem_append.1 hz with hz | hz
                · exact d z hz
                · obtain rfl : z = y := by simpa using hz
                  rw [← b]; exact g2
              · exact Or.inr ⟨g1, by rw [← b]; exact g2⟩
            · rcases hb2 with ⟨g1, g2⟩ | ⟨g1, g2⟩
              · exact Or.inr ⟨by rw [g1]; exact a, by rw [g1]; exact b⟩
              · exact Or.inr ⟨g1, by omega⟩
          have hval : bfS p i (o3, sm3) y = if gd o3 y.toNat < 0 then (o3, sm3) else if gd o3 i < 0 ∨ gd o3 y.toNat + p.len (y / 2) < gd o3 i then (o3.set i (gd o3 y.toNat + p.len (y / 2)), false) else (o3, sm3) := rfl
          have hyt : y.toNat < k := by omega
          have hgy : o3[y.toNat]? = some (gd o3 y.toNat) := getD_at (by rw [l2.len]; omega)
          have hgi : o3[i]? = some (gd o3 i) := getD_at (by rw [l2.len]; omega)
          have hby := l2.bd y.toNat (by omega)
          have hnum := c_rNumber (moveM y) (by simp only [moveM]; omega) (by simp only [moveM]; omega)
          rw [numM_moveM hyb.1] at hnum
          have hyb0 := hyb.1
          have hol := l2.len
          rw [← hn] at hol
          generalize gd o3 y.toNat = Y at *
          refine awp_skip ?_
          simp only [thenA, inBlockA, reduceIte, Nat.reduceEqDiff, eq_self]
          refine hK8 _ _ ?_
          refine awp_prune [2, 5, 7, 8, 9, 10] ?_
          simp only [prune, List.map_cons, List.map_nil, Go.AM.look, Nat.reduceEqDiff, reduceIte]
          refine awp_seq_k fun K9 hK9 => ?_
          refine awp_block ?_
          refine awp_sr rfl fun K hK => ?_
          simp -dsimp [hy, hgy, hyb0, hyt]
          refine callK_intro _ (hnum) (by simp) ?_
          simp -dsimp [hy, hgy, hyb0, hyt]
          refine hK _ _ ?_; clear hK K
          refine awp_seq_k fun K10 hK10 => ?_
          refine awp_sr rfl fun K hK => ?_
          simp -dsimp
          refine hK _ _ ?_; clear hK K
          refine awp_cond rfl (fun hc4 => ?_) (fun hc4 => ?_)
          · skip
            skip
            have hY : Y < 0 := by simpa using hc4
            rw [if_pos hY] at hval
            refine awp_exit ?_
            simp only [thenA, inBlockA, reduceIte, Nat.reduceEqDiff, eq_self]
            refine hK9 _ _ ?_
            refine awp_prune [2, 5, 7, 8, 9, 10] ?_
            simp only [prune, List.map_cons, List.map_nil, Go.AM.look, Nat.reduceEqDiff, reduceIte]
            refine awp_r rfl fun K hK => ?_
            simp -dsimp [we]
            refine hK _ _ ?_; clear hK K
            simp only [thenA, inBlockA, reduceIte, Nat.reduceEqDiff, eq_self]
            exact ⟨(e + 1, sm3, o3), ⟨by omega, l2, by rw [hval] at hst; exact hst⟩, by simp; omega, sub_same (by simp)⟩
          · skip
            skip
            have hY : ¬ Y < 0 := by simpa using hc4
            rw [if_neg hY] at hval
            have wl : IntKind.i64.wrap (Y + p.len (y / 2)) = Y + p.len (y / 2) := wrap_in (by omega) (by omega)
            have hlen : PureCall Tryz.prog 49 [p.av, I (moveM y).Rail] (I (p.len (y / 2))) := c_rLenK p (y / 2) hv (by omega) (by omega)
            refine awp_skip ?_
            simp only [thenA, inBlockA, reduceIte, Nat.reduceEqDiff, eq_self]
            refine hK10 _ _ ?_
            refine awp_prune [2, 5, 7, 8, 9, 10, 11] ?_
            simp only [prune, List.map_cons, List.map_nil, Go.AM.look, Nat.reduceEqDiff, reduceIte]
            refine awp_sd mixed rfl fun K hK => ?_
            simp -dsimp [hy, wl]
            refine callK_intro _ (hlen) (by simp) ?_
            simp -dsimp [hy, wl]
            refine hK _ _ _ (by decide +kernel) ?_; clear hK K
            refine awp_sr rfl fun K hK => ?_
            simp -dsimp [hgi, hi]
            refine hK _ _ ?_; clear hK K
            refine awp_cond rfl (fun hc5 => ?_) (fun hc5 => ?_)
            · skip
              skip
              have hg : gd o3 i < 0 ∨ Y + p.len (y / 2) < gd o3 i := by simpa using hc5
              rw [if_pos hg] at hval
              rw [hval] at hst hb1
              refine awp_sr rfl fun K hK => ?_
              simp -dsimp [hgi, hi]
              refine hK _ _ ?_; clear hK K
              refine awp_r rfl fun K hK => ?_
              simp -dsimp
              refine hK _ _ ?_; clear hK K
              simp only [thenA, inBlockA, reduceIte, Nat.reduceEqDiff, eq_self]
              refine hK9 _ _ ?_
              refine awp_prune [2, 5, 7, 8, 9, 10] ?_
              simp only [prune, List.map_cons, List.map_nil, Go.AM.look, Nat.reduceEqDiff, reduceIte]
              refine awp_r rfl fun K hK => ?_
              simp -dsimp [we]
              refine hK _ _ ?_; clear hK K
              simp only [thenA, inBlockA, reduceIte, Nat.reduceEqDiff, eq_self]
              exact ⟨(e + 1, false, o3.set i (Y + p.len (y / 2))), ⟨by omega, hb1, hst⟩, by simp; omega, sub_rb [some 0, none, some 2] rfl (by simp) (by simp)⟩
            · skip
              skip
              have hg : ¬ (gd o3 i < 0 ∨ Y + p.len (y / 2) < gd o3 i) := by simpa using hc5
              rw [if_neg hg] at hval
              rw [hval] at hst hb1
              refine awp_skip ?_
              simp only [thenA, inBlockA, reduceIte, Nat.reduceEqDiff, eq_self]
              refine hK9 _ _ ?_
              refine awp_prune [2, 5, 7, 8, 9, 10] ?_
              simp only [prune, List.map_cons, List.map_nil, Go.AM.look, Nat.reduceEqDiff, reduceIte]
              refine awp_r rfl fun K hK => ?_
              simp -dsimp [we]
              refine hK _ _ ?_; clear hK K
              simp only [thenA, inBlockA, reduceIte, Nat.reduceEqDiff, eq_self]
              exact ⟨(e + 1, sm3, o3), ⟨by omega, l2, hst⟩, by simp; omega, sub_same (by simp)⟩
        · skip
          skip
          have hee : e = N.length := by simp at hc3; omega
          subst hee
          rw [List.take_length] at l3
          refine awp_exit ?_
          simp only [thenA, inBlockA, reduceIte, Nat.reduceEqDiff, eq_self]
          refine hK7 _ _ ?_
          refine awp_prune [2, 5, 7, 8] ?_
          simp only [prune, List.map_cons, List.map_nil, Go.AM.look, Nat.reduceEqDiff, reduceIte]
          refine awp_r rfl fun K hK => ?_
          simp -dsimp [wi]
          refine hK _ _ ?_; clear hK K
          simp only [thenA, inBlockA, reduceIte, Nat.reduceEqDiff, eq_self]
          refine ⟨(i + 1, sm3, o3), ⟨by show i + 1 ≤ k; omega, l2, ?_⟩, by simp; omega, sub_same (by simp)⟩
          rcases l3 with ⟨a, b, c, d⟩ | h
          · refine Or.inl ⟨a, b, fun j hj => ?_⟩
            rcases hlast j hj with hj | rfl
            · exact c j hj
            · rw [hN]; exact d
          · exact Or.inr h
      · skip
        try simp at hc2
        have hie : i = k := by have := j2.len; omega
        subst hie
        refine awp_exit ?_
        simp only [thenA, inBlockA, reduceIte, Nat.reduceEqDiff, eq_self]
        refine ⟨(sm2, o2), ⟨j2, fun hs => ?_⟩, ?_, sub_same (by simp)⟩
        · rcases j3 with ⟨a, b, c⟩ | ⟨a, _⟩
          · intro j hj; rw [b]; exact c j (by omega)
          · rw [a] at hs; cases hs
        · rcases j3 with ⟨a, b, c⟩ | ⟨a, b⟩
          · simp only [a, b]; simp
          · simp only [a]; simp; omega
    · skip
      skip
      have hst : sm = true := by simpa using hc1
      have hend := bf_end hv hb0.1 hb0.2 i1 (i2 hst)
      subst hend
      refine awp_exit ?_
      simp only [thenA, inBlockA, reduceIte, Nat.reduceEqDiff, eq_self]
      refine hK4 _ _ ?_
      refine awp_prune [5] ?_
      simp only [prune, List.map_cons, List.map_nil, Go.AM.look, Nat.reduceEqDiff, reduceIte]
      refine awp_sr rfl fun K hK => ?_
      simp -dsimp
      refine hK _ _ ?_; clear hK K
      have hll := i1.len
      have g1 : List.take k ((dEnd p to).ln.map nCell) = (dEnd p to).ln.map nCell := List.take_of_length_le (by simp; omega)
      exact awp_ret (by simp [hll, ← hn, g1])
end Go.Tram
/- Walks: consistent lists. -/
namespace Go.Tram
open Go.AM Go.Proofs
set_option maxRecDepth 10000
set_option maxHeartbeats 4000000
set_option linter.unusedVariables false
set_option linter.unusedSimpArgs false

theorem consB_len {p : Plan} {to : Int} {l : List Int} {S : Int → Int → Int} (h : l.length ≠ 2 * p.Rails.length) : consB p to l S = false := by
  unfold consB; rw [show decide (l.length = 2 * p.Rails.length) = false from decide_eq_false h]; rfl
theorem consB_at {p : Plan} {to : Int} {l : List Int} {S : Int → Int → Int} {k : Nat} (hk : k < 2 * p.Rails.length) (h : cAt p to l S k = false) : consB p to l S = false := by
  unfold consB
  rw [show (List.range (2 * p.Rails.length)).all (cAt p to l S) = false from by rw [List.all_eq_false]; exact ⟨k, List.mem_range.2 hk, by simp [h]⟩]
  simp
theorem consB_all {p : Plan} {to : Int} {l : List Int} {S : Int → Int → Int} (h : l.length = 2 * p.Rails.length) (ha : (List.range (2 * p.Rails.length)).all (cAt p to l S) = true) : consB p to l S = true := by
  unfold consB; rw [ha, decide_eq_true h]; rfl
abbrev iLst (l : List Int) : AV := .lst 1 (l.map nCell)

theorem c_rConsistent (p : Plan) (m : Move) (l : List Int) (hv : validB p = true) (hm : movB p m = true) (hl : l.length ≤ 9223372036854775807) (hb : ∀ x ∈ l, -9223372036854775808 ≤ x ∧ x ≤ 1125899906842624) :
    PureCall Tryz.prog 47 [p.av, m.av, iLst l] (Bo (consB p (numM m) l (crS p l))) := by
  have hR := (valid_parts hv).2.1
  have hm' := movB_iff.1 hm
  have w2 : IntKind.i64.wrap (2 * (p.Rails.length : Int)) = 2 * (p.Rails.length : Int) := wrap_in (by omega) (by omega)
  have hb0 : 0 ≤ numM m ∧ numM m < 2 * p.Rails.length := by unfold numM; split <;> omega
  have hnm := c_rNumber m (by omega) (by omega)
  generalize numM m = to at hb0 hnm ⊢
  refine PureCall.of_body Tryz.func47 rfl (by decide) (by simp [Tryz.ntmps47]) ?_
  simp only [Tryz.ntmps47, Tryz.results47]
  refine awp_sr rfl fun K hK => ?_
  simp -dsimp
  refine hK _ _ ?_; clear hK K
  refine awp_seq_k fun K1 hK1 => ?_
  refine awp_sr rfl fun K hK => ?_
  simp -dsimp [w2]
  refine hK _ _ ?_; clear hK K
  refine awp_cond rfl (fun hc0 => ?_) (fun hc0 => ?_)
  · skip
    skip
    have hne : l.length ≠ 2 * p.Rails.length := by simp at hc0; omega
    refine awp_sr rfl fun K hK => ?_
    simp -dsimp
    refine hK _ _ ?_; clear hK K
    exact awp_ret (by simp [consB_len hne])
  · skip
    skip
    have hll : l.length = 2 * p.Rails.length := by simp at hc0; omega
    refine awp_skip ?_
    simp only [thenA, inBlockA, reduceIte, Nat.reduceEqDiff, eq_self]
    refine hK1 _ _ ?_
    refine awp_prune [2, 3, 4] ?_
    simp only [prune, List.map_cons, List.map_nil, Go.AM.look, Nat.reduceEqDiff, reduceIte]
    refine awp_seq_k fun K2 hK2 => ?_
    refine awp_sr rfl fun K hK => ?_
    simp -dsimp
    refine hK _ _ ?_; clear hK K
    refine awp_block ?_
    refine awp_prune [2, 3, 4, 7] ?_
    simp only [prune, List.map_cons, List.map_nil, Go.AM.look, Nat.reduceEqDiff, reduceIte]
    refine awp_loop_l [2, 3, 4] (α := Nat) (fun k => [(7, I k)]) (fun k => [some (.els 2 [p.cells]), some (.els 2 [m.cells])]) (fun k => k ≤ l.length ∧ (List.range k).all (cAt p to l (crS p l)) = true) (fun k => l.length - k) 0 ?_ ?_ ?_
    · simp
    · exact sub_same (by simp)
    rintro k ⟨k1, k2⟩
    simp only [List.cons_append, List.nil_append, prune, List.map_cons, List.map_nil, Go.AM.look, Nat.reduceEqDiff, reduceIte]
    refine awp_seq_k fun K3 hK3 => ?_
    refine awp_sr rfl fun K hK => ?_
    simp -dsimp
    refine hK _ _ ?_; clear hK K
    refine awp_cond rfl (fun hc1 => ?_) (fun hc1 => ?_)
    · skip
      skip
      have hk : k < l.length := by simpa using hc1
      have wk : IntKind.i64.wrap ((k : Int) + 1) = (k : Int) + 1 := wrap_in (by omega) (by omega)
      obtain ⟨d, hd⟩ : ∃ d, l[k]? = some d := ⟨_, List.getElem?_eq_getElem hk⟩
      have hgd : gd l k = d := by have := getD_at hk; rw [hd] at this; exact (Option.some.inj this).symm
      have hbd := fun y hy => nxI_bd (p := p) (k := k) hv (by omega) (by omega) (y := y) hy
      have hln := fun y hy => len_nx (p := p) (k := k) hv (by omega) (by omega) (y := y) hy
      have hnl := nextL_len p (moveM k) hv (mov_of (by omega) (by omega))
      have hnx := c_rNext p (moveM k) hv (mov_of (by omega) (by omega))
      have hat : cAt p to l (crS p l) k = decide (gd l k = if (k : Int) = to then 0 else cFold (crS p l) (nxI p k)) := rfl
      rw [← nxI_len] at hnl
      rw [← mvL_nxI] at hnx
      generalize nxI p k = N at hbd hln hnl hnx hat
      refine awp_skip ?_
      simp only [thenA, inBlockA, reduceIte, Nat.reduceEqDiff, eq_self]
      refine hK3 _ _ ?_
      refine awp_prune [2, 3, 4, 7] ?_
      simp only [prune, List.map_cons, List.map_nil, Go.AM.look, Nat.reduceEqDiff, reduceIte]
      refine awp_seq_k fun K4 hK4 => ?_
      refine awp_block ?_
      refine awp_sr rfl fun K hK => ?_
      simp -dsimp
      refine hK _ _ ?_; clear hK K
      refine awp_sd mixed rfl fun K hK => ?_
      simp -dsimp
      refine callK_intro _ (c_rOf k (by omega) (by omega)) (by simp) ?_
      simp -dsimp
      refine callK_intro _ (hnx) (by simp) ?_
      simp -dsimp
      refine hK _ _ _ (by decide +kernel) ?_; clear hK K
      refine awp_seq_k fun K5 hK5 => ?_
      refine awp_sr rfl fun K hK => ?_
      simp -dsimp
      refine hK _ _ ?_; clear hK K
      refine awp_block ?_
      refine awp_prune [2, 3, 4, 7, 8, 9, 10] ?_
      simp only [prune, List.map_cons, List.map_nil, Go.AM.look, Nat.reduceEqDiff, reduceIte]
      refine awp_loop_l [2, 3, 4, 7, 9] (α := Nat) (fun e => [(10, I e), (8, I (cFold (crS p l) (N.take e)))]) (fun e => [some (.els 2 [p.cells]), some (.els 2 [m.cells])]) (fun e => e ≤ N.length) (fun e => N.length - e) 0 ?_ ?_ ?_
      · simp
      · exact sub_same (by simp [cFold])
      rintro e e1
      simp only [List.cons_append, List.nil_append, prune, List.map_cons, List.map_nil, Go.AM.look, Nat.reduceEqDiff, reduceIte]
      refine awp_seq_k fun K6 hK6 => ?_
      refine awp_sr rfl fun K hK => ?_
      simp -dsimp
      refine hK _ _ ?_; clear hK K
      refine awp_cond rfl (fun hc2 => ?_) (fun hc2 => ?_)
      · skip
        skip
        have he : e < N.length := by simpa using hc2
        have we : IntKind.i64.wrap ((e : Int) + 1) = (e : Int) + 1 := wrap_in (by omega) (by omega)
        obtain ⟨y, hy⟩ : ∃ y, N[e]? = some y := ⟨_, List.getElem?_eq_getElem he⟩
        have hyN := List.mem_of_getElem? hy
        have hyb := hbd y hyN
        have hyl := hln y hyN
        have hyb0 := hyb.1
        have hgy : l[y.toNat]? = some (gd l y.toNat) := getD_at (by omega)
        have hyx := hb _ (List.mem_of_getElem? hgy)
        have hsn : cFold (crS p l) (N.take (e + 1)) = crS p l (cFold (crS p l) (N.take e)) y := by rw [List.take_add_one, hy]; exact cFold_snoc _ _ _
        have hval : ∀ b, crS p l b y = if gd l y.toNat = -1 then b else if b < 0 ∨ gd l y.toNat + p.len (y / 2) < b then gd l y.toNat + p.len (y / 2) else b := fun _ => rfl
        generalize cFold (crS p l) (N.take e) = b at hsn ⊢
        rw [hval] at hsn
        generalize gd l y.toNat = Y at hgy hyx hsn
        have hnum := c_rNumber (moveM y) (by simp only [moveM]; omega) (by simp only [moveM]; omega)
        rw [numM_moveM hyb.1] at hnum
        refine awp_skip ?_
        simp only [thenA, inBlockA, reduceIte, Nat.reduceEqDiff, eq_self]
        refine hK6 _ _ ?_
        refine awp_prune [2, 3, 4, 7, 8, 9, 10] ?_
        simp only [prune, List.map_cons, List.map_nil, Go.AM.look, Nat.reduceEqDiff, reduceIte]
        refine awp_seq_k fun K7 hK7 => ?_
        refine awp_block ?_
        refine awp_sr rfl fun K hK => ?_
        simp -dsimp [hy, hgy, hyb0]
        refine callK_intro _ (hnum) (by simp) ?_
        simp -dsimp [hy, hgy, hyb0]
        refine hK _ _ ?_; clear hK K
        refine awp_seq_k fun K8 hK8 => ?_
        refine awp_sr rfl fun K hK => ?_
        simp -dsimp
        refine hK _ _ ?_; clear hK K
        refine awp_cond rfl (fun hc3 => ?_) (fun hc3 => ?_)
        · skip
          skip
          have hY : Y = -1 := by simpa using hc3
          rw [if_pos hY] at hsn
          refine awp_exit ?_
          simp only [thenA, inBlockA, reduceIte, Nat.reduceEqDiff, eq_self]
          refine hK7 _ _ ?_
          refine awp_prune [2, 3, 4, 7, 8, 9, 10] ?_
          simp only [prune, List.map_cons, List.map_nil, Go.AM.look, Nat.reduceEqDiff, reduceIte]
          refine awp_r rfl fun K hK => ?_
          simp -dsimp [we]
          refine hK _ _ ?_; clear hK K
          simp only [thenA, inBlockA, reduceIte, Nat.reduceEqDiff, eq_self]
          exact ⟨e + 1, by omega, by omega, sub_same (by simp [hsn])⟩
        · skip
          skip
          have hY : ¬ Y = -1 := by simpa using hc3
          rw [if_neg hY] at hsn
          have wl : IntKind.i64.wrap (Y + p.len (y / 2)) = Y + p.len (y / 2) := wrap_in (by omega) (by omega)
          have hlen : PureCall Tryz.prog 49 [p.av, I (moveM y).Rail] (I (p.len (y / 2))) := c_rLenK p (y / 2) hv (by omega) (by omega)
          refine awp_skip ?_
          simp only [thenA, inBlockA, reduceIte, Nat.reduceEqDiff, eq_self]
          refine hK8 _ _ ?_
          refine awp_prune [2, 3, 4, 7, 8, 9, 10, 11] ?_
          simp only [prune, List.map_cons, List.map_nil, Go.AM.look, Nat.reduceEqDiff, reduceIte]
          refine awp_sd mixed rfl fun K hK => ?_
          simp -dsimp [hy, wl]
          refine callK_intro _ (hlen) (by simp) ?_
          simp -dsimp [hy, wl]
          refine hK _ _ _ (by decide +kernel) ?_; clear hK K
          refine awp_sr rfl fun K hK => ?_
          simp -dsimp
          refine hK _ _ ?_; clear hK K
          refine awp_cond rfl (fun hc4 => ?_) (fun hc4 => ?_)
          · skip
            skip
            have hg : b < 0 ∨ Y + p.len (y / 2) < b := by simpa using hc4
            rw [if_pos hg] at hsn
            refine awp_r rfl fun K hK => ?_
            simp -dsimp
            refine hK _ _ ?_; clear hK K
            simp only [thenA, inBlockA, reduceIte, Nat.reduceEqDiff, eq_self]
            refine hK7 _ _ ?_
            refine awp_prune [2, 3, 4, 7, 8, 9, 10] ?_
            simp only [prune, List.map_cons, List.map_nil, Go.AM.look, Nat.reduceEqDiff, reduceIte]
            refine awp_r rfl fun K hK => ?_
            simp -dsimp [we]
            refine hK _ _ ?_; clear hK K
            simp only [thenA, inBlockA, reduceIte, Nat.reduceEqDiff, eq_self]
            exact ⟨e + 1, by omega, by omega, sub_same (by simp [hsn])⟩
          · skip
            skip
            have hg : ¬ (b < 0 ∨ Y + p.len (y / 2) < b) := by simpa using hc4
            rw [if_neg hg] at hsn
            refine awp_skip ?_
            simp only [thenA, inBlockA, reduceIte, Nat.reduceEqDiff, eq_self]
            refine hK7 _ _ ?_
            refine awp_prune [2, 3, 4, 7, 8, 9, 10] ?_
            simp only [prune, List.map_cons, List.map_nil, Go.AM.look, Nat.reduceEqDiff, reduceIte]
            refine awp_r rfl fun K hK => ?_
            simp -dsimp [we]
            refine hK _ _ ?_; clear hK K
            simp only [thenA, inBlockA, reduceIte, Nat.reduceEqDiff, eq_self]
            exact ⟨e + 1, by omega, by omega, sub_same (by simp [hsn])⟩
      · skip
        skip
        have hee : e = N.length := by simp at hc2; omega
        subst hee
        rw [List.take_length]
        refine awp_exit ?_
        simp only [thenA, inBlockA, reduceIte, Nat.reduceEqDiff, eq_self]
        refine hK5 _ _ ?_
        refine awp_prune [2, 3, 4, 7, 8] ?_
        simp only [prune, List.map_cons, List.map_nil, Go.AM.look, Nat.reduceEqDiff, reduceIte]
        refine awp_seq_k fun K9 hK9 => ?_
        refine awp_sr rfl fun K hK => ?_
        simp -dsimp
        refine callK_intro _ (hnm) (by simp) ?_
        simp -dsimp
        refine hK _ _ ?_; clear hK K
        refine awp_cond rfl (fun hc5 => ?_) (fun hc5 => ?_)
        · skip
          skip
          have hkt : (k : Int) = to := by simpa using hc5
          rw [if_pos hkt, hgd] at hat
          refine awp_r rfl fun K hK => ?_
          simp -dsimp
          refine hK _ _ ?_; clear hK K
          simp only [thenA, inBlockA, reduceIte, Nat.reduceEqDiff, eq_self]
          refine hK9 _ _ ?_
          refine awp_prune [2, 3, 4, 7, 8] ?_
          simp only [prune, List.map_cons, List.map_nil, Go.AM.look, Nat.reduceEqDiff, reduceIte]
          refine awp_sr rfl fun K hK => ?_
          simp -dsimp [hd]
          refine hK _ _ ?_; clear hK K
          refine awp_cond rfl (fun hc6 => ?_) (fun hc6 => ?_)
          · skip
            skip
            have hcf : cAt p to l (crS p l) k = false := by rw [hat]; simpa using hc6
            refine awp_sr rfl fun K hK => ?_
            simp -dsimp
            refine hK _ _ ?_; clear hK K
            exact awp_ret (by simp [consB_at (by omega) hcf])
          · skip
            skip
            have hct : cAt p to l (crS p l) k = true := by rw [hat]; simpa using hc6
            refine awp_skip ?_
            simp only [thenA, inBlockA, reduceIte, Nat.reduceEqDiff, eq_self]
            refine hK4 _ _ ?_
            refine awp_prune [2, 3, 4, 7] ?_
            simp only [prune, List.map_cons, List.map_nil, Go.AM.look, Nat.reduceEqDiff, reduceIte]
            refine awp_r rfl fun K hK => ?_
            simp -dsimp [wk]
            refine hK _ _ ?_; clear hK K
            simp only [thenA, inBlockA, reduceIte, Nat.reduceEqDiff, eq_self]
            exact ⟨k + 1, ⟨by omega, by rw [allR_succ, k2, hct]; rfl⟩, by omega, sub_same (by simp)⟩
        · skip
          skip
          have hkt : ¬ (k : Int) = to := by simpa using hc5
          rw [if_neg hkt, hgd] at hat
          refine awp_skip ?_
          simp only [thenA, inBlockA, reduceIte, Nat.reduceEqDiff, eq_self]
          refine hK9 _ _ ?_
          refine awp_prune [2, 3, 4, 7, 8] ?_
          simp only [prune, List.map_cons, List.map_nil, Go.AM.look, Nat.reduceEqDiff, reduceIte]
          refine awp_sr rfl fun K hK => ?_
          simp -dsimp [hd]
          refine hK _ _ ?_; clear hK K
          refine awp_cond rfl (fun hc6 => ?_) (fun hc6 => ?_)
          · skip
            skip
            have hcf : cAt p to l (crS p l) k = false := by rw [hat]; simpa using hc6
            refine awp_sr rfl fun K hK => ?_
            simp -dsimp
            refine hK _ _ ?_; clear hK K
            exact awp_ret (by simp [consB_at (by omega) hcf])
          · skip
            skip
            have hct : cAt p to l (crS p l) k = true := by rw [hat]; simpa using hc6
            refine awp_skip ?_
            simp only [thenA, inBlockA, reduceIte, Nat.reduceEqDiff, eq_self]
            refine hK4 _ _ ?_
            refine awp_prune [2, 3, 4, 7] ?_
            simp only [prune, List.map_cons, List.map_nil, Go.AM.look, Nat.reduceEqDiff, reduceIte]
            refine awp_r rfl fun K hK => ?_
            simp -dsimp [wk]
            refine hK _ _ ?_; clear hK K
            simp only [thenA, inBlockA, reduceIte, Nat.reduceEqDiff, eq_self]
            exact ⟨k + 1, ⟨by omega, by rw [allR_succ, k2, hct]; rfl⟩, by omega, sub_same (by simp)⟩
    · skip
      skip
      have hke : k = l.length := by simp at hc1; omega
      subst hke
      rw [hll] at k2
      refine awp_exit ?_
      simp only [thenA, inBlockA, reduceIte, Nat.reduceEqDiff, eq_self]
      refine hK2 _ _ ?_
      refine awp_prune [] ?_
      simp only [prune, List.map_cons, List.map_nil, Go.AM.look, Nat.reduceEqDiff, reduceIte]
      refine awp_sr rfl fun K hK => ?_
      simp -dsimp
      refine hK _ _ ?_; clear hK K
      exact awp_ret (by simp [consB_all hll k2])
end Go.Tram
/- Walks: consistent lists and the shortest way, in the program. -/
namespace Go.Tram
open Go.AM Go.Proofs
set_option maxRecDepth 10000
set_option maxHeartbeats 4000000
set_option linter.unusedVariables false
set_option linter.unusedSimpArgs false

theorem c_tConsistent_v (p : Plan) (m : Move) (l : List Int) (h : validB p = false) : PureCall Tryz.prog 46 [p.av, m.av, iLst l] (Bo false) := by
  refine PureCall.of_bodyG Tryz.func46 rfl (by decide) (by simp [Tryz.ntmps46]) ?_
  intro J hJ
  simp only [Tryz.ntmps46, Tryz.results46]
  refine gwp_sr rfl (by decide) rfl rfl fun K hK => ?_
  simp -dsimp
  refine hK _ _ ?_; clear hK K
  refine gwp_sr rfl (by decide) rfl rfl fun K hK => ?_
  simp -dsimp
  refine callK_intro _ (c_open_f p h) (by simp) ?_
  simp -dsimp
  refine hK _ _ ?_; clear hK K
  refine gwp_seq_k fun K1 hK1 => ?_
  refine gwp_sr rfl (by decide) rfl rfl fun K hK => ?_
  simp -dsimp
  refine callK_may (Bo true) (fun hm => by simp at hm) (by simp) ?_
  simp -dsimp
  refine hK _ _ ?_; clear hK K
  refine gwp_cond rfl (fun hc0 => ?_) (fun hc0 => ?_)
  · skip
    skip
    refine gwp_sr rfl (by decide) rfl rfl fun K hK => ?_
    simp -dsimp
    refine hK _ _ ?_; clear hK K
    exact gwp_ret (by simp)
  · skip
    skip
    simp at hc0
theorem c_tConsistent_m (p : Plan) (m : Move) (l : List Int) (hv : validB p = true) (h : movB p m = false) : PureCall Tryz.prog 46 [p.av, m.av, iLst l] (Bo false) := by
  have hop := c_open_t p hv
  have hh := c_nhas p m.Rail m.Back hv
  rw [show inr m.Rail 0 (p.Rails.length - 1) = false from h] at hh
  generalize net p = sh at hop hh
  refine PureCall.of_bodyG Tryz.func46 rfl (by decide) (by simp [Tryz.ntmps46]) ?_
  intro J hJ
  simp only [Tryz.ntmps46, Tryz.results46]
  refine gwp_sr rfl (by decide) rfl rfl fun K hK => ?_
  simp -dsimp
  refine hK _ _ ?_; clear hK K
  refine gwp_sr rfl (by decide) rfl rfl fun K hK => ?_
  simp -dsimp
  refine callK_intro _ (hop) (by simp) ?_
  simp -dsimp
  refine hK _ _ ?_; clear hK K
  refine gwp_seq_k fun K1 hK1 => ?_
  refine gwp_sr rfl (by decide) rfl rfl fun K hK => ?_
  simp -dsimp
  refine callK_may _ (fun hm => hh) (by simp) ?_
  simp -dsimp
  refine hK _ _ ?_; clear hK K
  refine gwp_cond rfl (fun hc0 => ?_) (fun hc0 => ?_)
  · skip
    skip
    refine gwp_sr rfl (by decide) rfl rfl fun K hK => ?_
    simp -dsimp
    refine hK _ _ ?_; clear hK K
    exact gwp_ret (by simp)
  · skip
    skip
    simp at hc0
theorem moveM_eq {p : Plan} {m : Move} {k : Int} (h0 : 0 ≤ k) (hm : 0 ≤ m.Rail) : moveM k = m ↔ k = numM m := by
  constructor
  · rintro rfl; rw [numM_moveM h0]
  · rintro rfl; exact moveM_numM hm
theorem c_tConsistent_t (p : Plan) (m : Move) (l : List Int) (hv : validB p = true) (hm : movB p m = true) (hl : l.length ≤ 9223372036854775807) (hb : ∀ x ∈ l, -9223372036854775808 ≤ x ∧ x ≤ 1125899906842624) :
    PureCall Tryz.prog 46 [p.av, m.av, iLst l] (Bo (consB p (numM m) l (cpS p l))) := by
  have hR := (valid_parts hv).2.1
  have hm' := movB_iff.1 hm
  have w2 : IntKind.i64.wrap (2 * (p.Rails.length : Int)) = 2 * (p.Rails.length : Int) := wrap_in (by omega) (by omega)
  have hb0 : 0 ≤ numM m ∧ numM m < 2 * p.Rails.length := by unfold numM; split <;> omega
  have hop := c_open_t p hv
  have hh := c_nhas p m.Rail m.Back hv
  rw [show inr m.Rail 0 (p.Rails.length - 1) = true from hm] at hh
  have hnx := c_tnext p
  have hit := fun k => c_next1 p (moveM k) hv
  have hmk : ∀ k : Int, 0 ≤ k → (moveM k = m ↔ k = numM m) := fun k h => moveM_eq (p := p) h hm'.1
  generalize numM m = to at hb0 hmk ⊢
  refine PureCall.of_bodyG Tryz.func46 rfl (by decide) (by simp [Tryz.ntmps46]) ?_
  intro J hJ
  simp only [Tryz.ntmps46, Tryz.results46]
  refine gwp_sr rfl (by decide) rfl rfl fun K hK => ?_
  simp -dsimp
  refine hK _ _ ?_; clear hK K
  refine gwp_sr rfl (by decide) rfl rfl fun K hK => ?_
  simp -dsimp
  refine callK_intro _ (hop) (by simp) ?_
  simp -dsimp
  refine hK _ _ ?_; clear hK K
  refine gwp_seq_k fun K1 hK1 => ?_
  refine gwp_sr rfl (by decide) rfl rfl fun K hK => ?_
  simp -dsimp [w2]
  refine callK_may _ (fun hm => hh) (by simp) ?_
  simp -dsimp [w2]
  refine hK _ _ ?_; clear hK K
  refine gwp_cond rfl (fun hc0 => ?_) (fun hc0 => ?_)
  · skip
    skip
    have hne : l.length ≠ 2 * p.Rails.length := by simp at hc0; omega
    refine gwp_sr rfl (by decide) rfl rfl fun K hK => ?_
    simp -dsimp
    refine hK _ _ ?_; clear hK K
    exact gwp_ret (by simp [consB_len hne])
  · skip
    skip
    have hll : l.length = 2 * p.Rails.length := by simp at hc0; omega
    refine gwp_skip ?_
    simp only [thenA, inBlockA, reduceIte, Nat.reduceEqDiff, eq_self]
    refine hK1 _ _ ?_
    refine gwp_prune [4, 5, 7] (Or.inr (by simp)) ?_
    simp only [prune, List.map_cons, List.map_nil, Go.AM.look, Nat.reduceEqDiff, reduceIte]
    refine gwp_seq_k fun K2 hK2 => ?_
    refine gwp_sr rfl (by decide) rfl rfl fun K hK => ?_
    simp -dsimp
    refine hK _ _ ?_; clear hK K
    refine gwp_block ?_
    refine gwp_prune [4, 5, 7, 37, 38, 39] (Or.inr (by simp)) ?_
    simp only [prune, List.map_cons, List.map_nil, Go.AM.look, Nat.reduceEqDiff, reduceIte]
    refine gwp_loop_l [4, 5, 7, 37, 38] (α := Nat) (fun k => [(39, I k)]) (fun k => [none, some (.els 2 [m.cells]), some (.els 1 [[iLst l]]), some (.els 1 [[.iptr (net p)]])]) (fun k => k ≤ l.length ∧ (List.range k).all (cAt p to l (cpS p l)) = true) (fun k => l.length - k) 0 ?_ ?_ ?_
    · simp
    · exact gsub (sub_rb [none, some 1, some 2, some 3] rfl (by simp) (by simp [net])) (by simp)
    rintro k ⟨k1, k2⟩
    simp only [List.cons_append, List.nil_append, prune, List.map_cons, List.map_nil, Go.AM.look, Nat.reduceEqDiff, reduceIte]
    refine gwp_sr rfl (by decide) rfl rfl fun K hK => ?_
    simp -dsimp
    refine hK _ _ ?_; clear hK K
    refine gwp_seq_k fun K3 hK3 => ?_
    refine gwp_cond rfl (fun hc1 => ?_) (fun hc1 => ?_)
    · skip
      skip
      have hk : k < l.length := by simpa using hc1
      have wk : IntKind.i64.wrap ((k : Int) + 1) = (k : Int) + 1 := wrap_in (by omega) (by omega)
      obtain ⟨d, hd⟩ : ∃ d, l[k]? = some d := ⟨_, List.getElem?_eq_getElem hk⟩
      have hgd : gd l k = d := by have := getD_at hk; rw [hd] at this; exact (Option.some.inj this).symm
      have hbd := fun y hy => nxI_bd (p := p) (k := k) hv (by omega) (by omega) (y := y) hy
      have hln := fun y hy => len_nx (p := p) (k := k) hv (by omega) (by omega) (y := y) hy
      have hat : cAt p to l (cpS p l) k = decide (gd l k = if (k : Int) = to then 0 else cFold (cpS p l) (nxI p k)) := rfl
      have hitk := hit k (mov_of (by omega) (by omega))
      have hmkk := hmk k (by omega)
      rw [nxI_next] at hitk
      generalize nxI p k = N at hbd hln hat hitk
      refine gwp_skip ?_
      simp only [thenA, inBlockA, reduceIte, Nat.reduceEqDiff, eq_self]
      refine hK3 _ _ ?_
      refine gwp_prune [4, 5, 7, 37, 38, 39] (Or.inr (by simp)) ?_
      simp only [prune, List.map_cons, List.map_nil, Go.AM.look, Nat.reduceEqDiff, reduceIte]
      refine gwp_seq_k fun K4 hK4 => ?_
      refine gwp_block ?_
      refine gwp_sr rfl (by decide) rfl rfl fun K hK => ?_
      simp -dsimp [hd]
      refine hK _ _ ?_; clear hK K
      refine gwp_sr rfl (by decide) rfl rfl fun K hK => ?_
      simp -dsimp
      refine hK _ _ ?_; clear hK K
      refine gwp_seq_k fun K5 hK5 => ?_
      refine gwp_sd mixed rfl (by decide) rfl rfl fun K hK => ?_
      simp -dsimp
      refine callK_intro _ (c_move k (by omega) (by omega)) (by simp) ?_
      simp -dsimp
      refine callK_intro _ (hnx (moveM k)) (by simp) ?_
      simp -dsimp
      refine hK _ _ _ (by decide +kernel) ?_; clear hK K
      refine gwp_block ?_
      refine gwp_prune [4, 5, 7, 9, 10, 11, 37, 38, 39, 47] (Or.inr (by simp)) ?_
      simp only [prune, List.map_cons, List.map_nil, Go.AM.look, Nat.reduceEqDiff, reduceIte]
      refine gwp_range_s hJ [4, 5, 7, 9, 10, 11, 37, 38, 39, 47] (fun e => [none, some (.els 2 [m.cells]), some (.els 1 [[iLst l]]), some (.els 1 [[.iptr (net p)]]), some (.els 1 [[I (cFold (cpS p l) (N.take e))]])]) (fun e => True) rfl (hitk) rfl (by simp) (by decide) (by decide) (by decide) (by intro z hz; obtain ⟨q, _, rfl⟩ := List.mem_map.1 hz; rfl) ?_ ?_ ?_ ?_
      · trivial
      · exact sub_rb [none, some 1, some 2, some 3, some 4] rfl (by simp) (by simp [cFold, net])
      · intro n xv hxn hi l1 J1 hJ1
        obtain ⟨y, hy, rfl⟩ : ∃ y, N[n]? = some y ∧ [(moveM y).av] = xv := by simpa using hxn
        have hyN := List.mem_of_getElem? hy
        have hyb := hbd y hyN
        have hyl := hln y hyN
        have hyb0 := hyb.1
        have hgy : l[y.toNat]? = some (gd l y.toNat) := getD_at (by omega)
        have hyx := hb _ (List.mem_of_getElem? hgy)
        have hsn : cFold (cpS p l) (N.take (n + 1)) = cpS p l (cFold (cpS p l) (N.take n)) y := by rw [List.take_add_one, hy]; exact cFold_snoc _ _ _
        have hval : ∀ b, cpS p l b y = if gd l y.toNat = -1 then b else if b = -1 ∨ gd l y.toNat + p.len (y / 2) < b then gd l y.toNat + p.len (y / 2) else b := fun _ => rfl
        generalize cFold (cpS p l) (N.take n) = b at hsn ⊢
        rw [hval] at hsn
        generalize gd l y.toNat = Y at hgy hyx hsn
        have hnum := c_number (moveM y) (by simp only [moveM]; omega) (by simp only [moveM]; omega)
        rw [numM_moveM hyb.1] at hnum
        have hlg : (lensA p p.Rails.length)[((moveM y).Rail).toNat]? = some [I (p.len (y / 2))] := by rw [show (moveM y).Rail = y / 2 from rfl, lensA_get (by omega), show (((y / 2).toNat : Nat) : Int) = y / 2 by omega]
        have hr0 : 0 ≤ (moveM y).Rail := by show 0 ≤ y / 2; omega
        simp only [List.zip_cons_cons, List.zip_nil_left, List.zip_nil_right, List.cons_append, List.nil_append]
        refine gwp_r rfl (by decide) rfl rfl fun K hK => ?_
        simp -dsimp
        refine hK _ _ ?_; clear hK K
        simp only [onlyN]
        intro J2 hJ2
        refine gwp_prune [4, 5, 7, 9, 10, 11, 12, 37, 38, 39, 47] (Or.inr (by simp)) ?_
        simp only [prune, List.map_cons, List.map_nil, Go.AM.look, Nat.reduceEqDiff, reduceIte]
        refine gwp_block ?_
        refine gwp_sd mixed rfl (by decide) rfl rfl fun K hK => ?_
        simp -dsimp [hgy, hyb0]
        refine callK_intro _ (hnum) (by simp) ?_
        simp -dsimp [hgy, hyb0]
        refine hK _ _ _ (by decide +kernel) ?_; clear hK K
        refine gwp_seq_k fun K6 hK6 => ?_
        refine gwp_sr rfl (by decide) rfl rfl fun K hK => ?_
        simp -dsimp
        refine hK _ _ ?_; clear hK K
        refine gwp_cond rfl (fun hc2 => ?_) (fun hc2 => ?_)
        · skip
          skip
          have hY : Y = -1 := by simpa using hc2
          rw [if_pos hY] at hsn
          refine gwp_exit ?_
          simp only [thenA, inBlockA, roundQ, reduceIte, Nat.reduceEqDiff, eq_self]
          refine ⟨trivial, sub_rb [none, some 1, some 2, some 3, some 4] rfl (by simp) (by simp [hsn, net])⟩
        · skip
          skip
          have hY : ¬ Y = -1 := by simpa using hc2
          rw [if_neg hY] at hsn
          have wl : IntKind.i64.wrap (Y + p.len (y / 2)) = Y + p.len (y / 2) := wrap_in (by omega) (by omega)
          refine gwp_skip ?_
          simp only [thenA, inBlockA, reduceIte, Nat.reduceEqDiff, eq_self]
          refine hK6 _ _ ?_
          refine gwp_prune [4, 5, 7, 9, 10, 11, 12, 13, 37, 38, 39, 47] (Or.inr (by simp)) ?_
          simp only [prune, List.map_cons, List.map_nil, Go.AM.look, Nat.reduceEqDiff, reduceIte]
          refine gwp_sd mixed rfl (by decide) rfl rfl fun K hK => ?_
          simp -dsimp [net, hlg, hr0, wl]
          refine hK _ _ _ (by decide +kernel) ?_; clear hK K
          refine gwp_sr rfl (by decide) rfl rfl fun K hK => ?_
          simp -dsimp
          refine hK _ _ ?_; clear hK K
          refine gwp_cond rfl (fun hc3 => ?_) (fun hc3 => ?_)
          · skip
            skip
            have hg : b = -1 ∨ Y + p.len (y / 2) < b := by simpa using hc3
            rw [if_pos hg] at hsn
            refine gwp_r rfl (by decide) rfl rfl fun K hK => ?_
            simp -dsimp
            refine hK _ _ ?_; clear hK K
            simp only [thenA, inBlockA, roundQ, reduceIte, Nat.reduceEqDiff, eq_self]
            refine ⟨trivial, sub_rb [none, some 1, some 2, some 3, some 4] rfl (by simp [net]) (by simp [hsn, net])⟩
          · skip
            skip
            have hg : ¬ (b = -1 ∨ Y + p.len (y / 2) < b) := by simpa using hc3
            rw [if_neg hg] at hsn
            refine gwp_skip ?_
            simp only [thenA, inBlockA, roundQ, reduceIte, Nat.reduceEqDiff, eq_self]
            refine ⟨trivial, sub_rb [none, some 1, some 2, some 3, some 4] rfl (by simp [net]) (by simp [hsn, net])⟩
      · intro hdone
        simp only [thenA, inBlockA, reduceIte, Nat.reduceEqDiff, eq_self]
        refine hK5 _ _ ?_
        refine gwp_prune [4, 5, 7, 9, 10, 11, 37, 38, 39] (Or.inr (by simp)) ?_
        simp only [prune, List.map_cons, List.map_nil, Go.AM.look, Nat.reduceEqDiff, reduceIte]
        refine gwp_seq_k fun K7 hK7 => ?_
        refine gwp_sd mixed rfl (by decide) rfl rfl fun K hK => ?_
        simp -dsimp
        refine callK_intro _ (c_move k (by omega) (by omega)) (by simp) ?_
        simp -dsimp
        refine hK _ _ _ (by decide +kernel) ?_; clear hK K
        refine gwp_cond rfl (fun hc4 => ?_) (fun hc4 => ?_)
        · skip
          skip
          have hkt : (k : Int) = to := hmkk.1 (by generalize moveM k = q at hc4; simp at hc4; cases q; cases m; simp_all)
          rw [if_pos hkt, hgd] at hat
          refine gwp_r rfl (by decide) rfl rfl fun K hK => ?_
          simp -dsimp
          refine hK _ _ ?_; clear hK K
          simp only [thenA, inBlockA, reduceIte, Nat.reduceEqDiff, eq_self]
          refine hK7 _ _ ?_
          refine gwp_prune [4, 5, 7, 10, 11, 37, 38, 39] (Or.inr (by simp)) ?_
          simp only [prune, List.map_cons, List.map_nil, Go.AM.look, Nat.reduceEqDiff, reduceIte]
          refine gwp_sr rfl (by decide) rfl rfl fun K hK => ?_
          simp -dsimp
          refine hK _ _ ?_; clear hK K
          refine gwp_cond rfl (fun hc5 => ?_) (fun hc5 => ?_)
          · skip
            skip
            have hcf : cAt p to l (cpS p l) k = false := by rw [hat]; simpa using hc5
            refine gwp_sr rfl (by decide) rfl rfl fun K hK => ?_
            simp -dsimp
            refine hK _ _ ?_; clear hK K
            exact gwp_ret (by simp [consB_at (by omega) hcf])
          · skip
            skip
            have hct : cAt p to l (cpS p l) k = true := by rw [hat]; simpa using hc5
            refine gwp_skip ?_
            simp only [thenA, inBlockA, reduceIte, Nat.reduceEqDiff, eq_self]
            refine hK4 _ _ ?_
            refine gwp_prune [4, 5, 7, 37, 38, 39] (Or.inr (by simp)) ?_
            simp only [prune, List.map_cons, List.map_nil, Go.AM.look, Nat.reduceEqDiff, reduceIte]
            refine gwp_r rfl (by decide) rfl rfl fun K hK => ?_
            simp -dsimp [wk]
            refine hK _ _ ?_; clear hK K
            simp only [thenA, inBlockA, reduceIte, Nat.reduceEqDiff, eq_self]
            exact ⟨k + 1, ⟨by omega, by rw [allR_succ, k2, hct]; rfl⟩, by omega, gsub (sub_rb [none, some 1, some 2, some 3] rfl (by simp) (by simp [net])) (by simp)⟩
        · skip
          skip
          have hkt : ¬ (k : Int) = to := fun e => by have := hmkk.2 e; rw [this] at hc4; simp at hc4
          rw [if_neg hkt, hgd] at hat
          refine gwp_skip ?_
          simp only [thenA, inBlockA, reduceIte, Nat.reduceEqDiff, eq_self]
          refine hK7 _ _ ?_
          refine gwp_prune [4, 5, 7, 10, 11, 37, 38, 39] (Or.inr (by simp)) ?_
          simp only [prune, List.map_cons, List.map_nil, Go.AM.look, Nat.reduceEqDiff, reduceIte]
          refine gwp_sr rfl (by decide) rfl rfl fun K hK => ?_
          simp -dsimp
          refine hK _ _ ?_; clear hK K
          refine gwp_cond rfl (fun hc5 => ?_) (fun hc5 => ?_)
          · skip
            skip
            have hcf : cAt p to l (cpS p l) k = false := by rw [hat]; simpa using hc5
            refine gwp_sr rfl (by decide) rfl rfl fun K hK => ?_
            simp -dsimp
            refine hK _ _ ?_; clear hK K
            exact gwp_ret (by simp [consB_at (by omega) hcf])
          · skip
            skip
            have hct : cAt p to l (cpS p l) k = true := by rw [hat]; simpa using hc5
            refine gwp_skip ?_
            simp only [thenA, inBlockA, reduceIte, Nat.reduceEqDiff, eq_self]
            refine hK4 _ _ ?_
            refine gwp_prune [4, 5, 7, 37, 38, 39] (Or.inr (by simp)) ?_
            simp only [prune, List.map_cons, List.map_nil, Go.AM.look, Nat.reduceEqDiff, reduceIte]
            refine gwp_r rfl (by decide) rfl rfl fun K hK => ?_
            simp -dsimp [wk]
            refine hK _ _ ?_; clear hK K
            simp only [thenA, inBlockA, reduceIte, Nat.reduceEqDiff, eq_self]
            exact ⟨k + 1, ⟨by omega, by rw [allR_succ, k2, hct]; rfl⟩, by omega, gsub (sub_rb [none, some 1, some 2, some 3] rfl (by simp) (by simp [net])) (by simp)⟩
    · skip
      skip
      have hke : k = l.length := by simp at hc1; omega
      subst hke
      rw [hll] at k2
      refine gwp_exit ?_
      simp only [thenA, inBlockA, reduceIte, Nat.reduceEqDiff, eq_self]
      refine hK2 _ _ ?_
      refine gwp_prune [] (Or.inr (by simp)) ?_
      simp only [prune, List.map_cons, List.map_nil, Go.AM.look, Nat.reduceEqDiff, reduceIte]
      refine gwp_sr rfl (by decide) rfl rfl fun K hK => ?_
      simp -dsimp
      refine hK _ _ ?_; clear hK K
      exact gwp_ret (by simp [consB_all hll k2])
end Go.Tram
/- Walks: the shortest way, in the program. -/
namespace Go.Tram
open Go.AM Go.Proofs
set_option maxRecDepth 10000
set_option maxHeartbeats 4000000
set_option linter.unusedVariables false
set_option linter.unusedSimpArgs false

theorem num_bd11 {p : Plan} {m : Move} (h : movB p m = true) : 0 ≤ numM m ∧ numM m < 2 * p.Rails.length := by
  have := movB_iff.1 h
  unfold numM; split <;> omega
theorem c_tShortest_v (p : Plan) (a b : Move) (h : validB p = false) : PureCall Tryz.prog 48 [p.av, a.av, b.av] (.tup [nilS, I 2]) := by
  refine PureCall.of_bodyG Tryz.func48 rfl (by decide) (by simp [Tryz.ntmps48]) ?_
  intro J hJ
  simp only [Tryz.ntmps48, Tryz.results48]
  refine gwp_sr rfl (by decide) rfl rfl fun K hK => ?_
  simp -dsimp
  refine hK _ _ ?_; clear hK K
  refine gwp_sr rfl (by decide) rfl rfl fun K hK => ?_
  simp -dsimp
  refine callK_intro _ (c_open_f p h) (by simp) ?_
  simp -dsimp
  refine hK _ _ ?_; clear hK K
  refine gwp_seq_k fun K1 hK1 => ?_
  refine gwp_sr rfl (by decide) rfl rfl fun K hK => ?_
  simp -dsimp
  refine callK_may (Bo true) (fun hm => by simp at hm) (by simp) ?_
  simp -dsimp
  refine callK_may (Bo true) (fun hm => by simp at hm) (by simp) ?_
  simp -dsimp
  refine hK _ _ ?_; clear hK K
  refine gwp_cond rfl (fun hc0 => ?_) (fun hc0 => ?_)
  · skip
    skip
    refine gwp_sr rfl (by decide) rfl rfl fun K hK => ?_
    simp -dsimp
    refine hK _ _ ?_; clear hK K
    exact gwp_ret (by simp)
  · skip
    skip
    simp at hc0
theorem c_tShortest_m (p : Plan) (a b : Move) (hv : validB p = true) (h : (movB p a && movB p b) = false) : PureCall Tryz.prog 48 [p.av, a.av, b.av] (.tup [nilS, I 2]) := by
  have hop := c_open_t p hv
  have hh := c_nhas p a.Rail a.Back hv
  have hk := c_nhas p b.Rail b.Back hv
  rw [show inr a.Rail 0 (p.Rails.length - 1) = movB p a from rfl] at hh
  rw [show inr b.Rail 0 (p.Rails.length - 1) = movB p b from rfl] at hk
  generalize net p = sh at hop hh hk
  refine PureCall.of_bodyG Tryz.func48 rfl (by decide) (by simp [Tryz.ntmps48]) ?_
  intro J hJ
  simp only [Tryz.ntmps48, Tryz.results48]
  refine gwp_sr rfl (by decide) rfl rfl fun K hK => ?_
  simp -dsimp
  refine hK _ _ ?_; clear hK K
  refine gwp_sr rfl (by decide) rfl rfl fun K hK => ?_
  simp -dsimp
  refine callK_intro _ (hop) (by simp) ?_
  simp -dsimp
  refine hK _ _ ?_; clear hK K
  refine gwp_seq_k fun K1 hK1 => ?_
  refine gwp_sr rfl (by decide) rfl rfl fun K hK => ?_
  simp -dsimp
  refine callK_may _ (fun hm => hh) (by simp) ?_
  simp -dsimp
  refine callK_may _ (fun hm => hk) (by simp) ?_
  simp -dsimp
  refine hK _ _ ?_; clear hK K
  refine gwp_cond rfl (fun hc0 => ?_) (fun hc0 => ?_)
  · skip
    skip
    refine gwp_sr rfl (by decide) rfl rfl fun K hK => ?_
    simp -dsimp
    refine hK _ _ ?_; clear hK K
    exact gwp_ret (by simp)
  · skip
    skip
    simp at hc0; simp [hc0] at h
theorem c_tShortest_n (p : Plan) (a b : Move) (hv : validB p = true) (ha : movB p a = true) (hb : movB p b = true) (h : gd (dEnd p (numM b)).ln (numM a).toNat < 0) : PureCall Tryz.prog 48 [p.av, a.av, b.av] (.tup [nilS, I 4]) := by
  have hR := (valid_parts hv).2.1
  have ha' := movB_iff.1 ha
  have hb' := movB_iff.1 hb
  have hop := c_open_t p hv
  have hh := c_nhas p a.Rail a.Back hv
  have hk := c_nhas p b.Rail b.Back hv
  rw [show inr a.Rail 0 (p.Rails.length - 1) = true from ha] at hh
  rw [show inr b.Rail 0 (p.Rails.length - 1) = true from hb] at hk
  have hna := num_bd11 ha
  have hnb := num_bd11 hb
  have hd := c_distances p (numM b) hv hnb.1 hnb.2
  have hE := dEnd_ok hv hnb.1 hnb.2
  have hca := c_number a ha'.1 (by omega)
  have hcb := c_number b hb'.1 (by omega)
  have hg : (dEnd p (numM b)).ln[(numM a).toNat]? = some (gd (dEnd p (numM b)).ln (numM a).toNat) := getD_at (by rw [hE.ll]; omega)
  have h0 := hna.1
  generalize (dEnd p (numM b)).ln = ln at hd hg h
  generalize (dEnd p (numM b)).mv = mv at hd
  generalize net p = sh at hop hh hk hd
  refine PureCall.of_bodyG Tryz.func48 rfl (by decide) (by simp [Tryz.ntmps48]) ?_
  intro J hJ
  simp only [Tryz.ntmps48, Tryz.results48]
  refine gwp_sr rfl (by decide) rfl rfl fun K hK => ?_
  simp -dsimp
  refine hK _ _ ?_; clear hK K
  refine gwp_sr rfl (by decide) rfl rfl fun K hK => ?_
  simp -dsimp
  refine callK_intro _ (hop) (by simp) ?_
  simp -dsimp
  refine hK _ _ ?_; clear hK K
  refine gwp_seq_k fun K1 hK1 => ?_
  refine gwp_sr rfl (by decide) rfl rfl fun K hK => ?_
  simp -dsimp
  refine callK_may _ (fun hm => hh) (by simp) ?_
  simp -dsimp
  refine callK_may _ (fun hm => hk) (by simp) ?_
  simp -dsimp
  refine hK _ _ ?_; clear hK K
  refine gwp_cond rfl (fun hc0 => ?_) (fun hc0 => ?_)
  · skip
    skip
    simp at hc0
  · skip
    skip
    refine gwp_skip ?_
    simp only [thenA, inBlockA, reduceIte, Nat.reduceEqDiff, eq_self]
    refine hK1 _ _ ?_
    refine gwp_prune [4, 5, 8] (Or.inr (by simp)) ?_
    simp only [prune, List.map_cons, List.map_nil, Go.AM.look, Nat.reduceEqDiff, reduceIte]
    refine gwp_sd mixed rfl (by decide) rfl rfl fun K hK => ?_
    simp -dsimp
    refine callK_intro _ (hcb) (by simp) ?_
    simp -dsimp
    refine callK_intro _ (hd) (by simp) ?_
    simp -dsimp
    refine hK _ _ _ (by decide +kernel) ?_; clear hK K
    refine gwp_seq_k fun K2 hK2 => ?_
    refine gwp_sd mixed rfl (by decide) rfl rfl fun K hK => ?_
    simp -dsimp [hg, h0]
    refine callK_intro _ (hca) (by simp) ?_
    simp -dsimp [hg, h0]
    refine hK _ _ _ (by decide +kernel) ?_; clear hK K
    refine gwp_cond rfl (fun hc1 => ?_) (fun hc1 => ?_)
    · skip
      skip
      refine gwp_sr rfl (by decide) rfl rfl fun K hK => ?_
      simp -dsimp
      refine hK _ _ ?_; clear hK K
      exact gwp_ret (by simp)
    · skip
      skip
      simp at hc1; omega
theorem find_at {α : Type} {f : α → Bool} {l : List α} {i : Nat} {y : α} (hy : l[i]? = some y) (hf : f y = true) (h : ∀ z ∈ l.take i, f z = false) : l.find? f = some y := by
  have hi := (List.getElem?_eq_some_iff.1 hy).1
  have e : l = l.take i ++ y :: l.drop (i + 1) := by
    have : l[i] = y := (List.getElem?_eq_some_iff.1 hy).2
    rw [← this, ← List.drop_eq_getElem_cons hi, List.take_append_drop]
  rw [e, List.find?_append, List.find?_eq_none.2 (fun z hz => by simp [h z hz])]
  simp [List.find?, hf]
theorem c_tShortest_t (p : Plan) (a b : Move) (hv : validB p = true) (ha : movB p a = true) (hb : movB p b = true) (h : 0 ≤ gd (dEnd p (numM b)).ln (numM a).toNat) :
    PureCall Tryz.prog 48 [p.av, a.av, b.av] (.tup [mLst (mvL (shL p (dEnd p (numM b)).ln (dEnd p (numM b)).mv (gd (dEnd p (numM b)).mv (numM a).toNat).toNat (numM a))), I 0]) := by
  have hR := (valid_parts hv).2.1
  have ha' := movB_iff.1 ha
  have hb' := movB_iff.1 hb
  have hop := c_open_t p hv
  have hh := c_nhas p a.Rail a.Back hv
  have hk := c_nhas p b.Rail b.Back hv
  rw [show inr a.Rail 0 (p.Rails.length - 1) = true from ha] at hh
  rw [show inr b.Rail 0 (p.Rails.length - 1) = true from hb] at hk
  have hna := num_bd11 ha
  have hnb := num_bd11 hb
  have hd := c_distances p (numM b) hv hnb.1 hnb.2
  have hE := dEnd_ok hv hnb.1 hnb.2
  have hmb := mvb_end hv hnb.1 hnb.2
  have hca := c_number a ha'.1 (by omega)
  have hcb := c_number b hb'.1 (by omega)
  have hnx := c_tnext p
  have hit := fun k => c_next1 p (moveM k) hv
  have hmk : ∀ k : Int, 0 ≤ k → (moveM k = b ↔ k = numM b) := fun k h => moveM_eq (p := p) h hb'.1
  have hma : moveM (numM a) = a := moveM_numM ha'.1
  have hsn := fun k h0 h1 => sNext_ok hv hnb.1 hnb.2 hE (k := k) h0 h1
  have hmz := fun k h0 h1 => mv_zero hv hnb.1 hnb.2 hE (k := k) h0 h1
  have hll := hE.ll
  have hlm := hE.lm
  unfold MvB at hmb
  generalize (dEnd p (numM b)).ln = ln at *
  generalize (dEnd p (numM b)).mv = mv at *
  have hga : ∀ k : Int, 0 ≤ k → k < 2 * p.Rails.length → ln[k.toNat]? = some (gd ln k.toNat) := fun k h0 h1 => getD_at (by omega)
  have hgm : ∀ k : Int, 0 ≤ k → k < 2 * p.Rails.length → mv[k.toNat]? = some (gd mv k.toNat) := fun k h0 h1 => getD_at (by omega)
  have hn0 := hmz (numM a) hna.1 hna.2 h
  have hn1 := (hmb (numM a).toNat (by omega) h).1
  obtain ⟨n0, hn0e⟩ : ∃ n0 : Nat, gd mv (numM a).toNat = n0 := ⟨(gd mv (numM a).toNat).toNat, by omega⟩
  rw [hn0e]
  have hgA := hga (numM a) hna.1 hna.2
  have h00 := hna.1
  generalize numM a = fa at *
  generalize numM b = to at *
  subst hma
  simp only [Int.toNat_natCast]
  refine PureCall.of_bodyG Tryz.func48 rfl (by decide) (by simp [Tryz.ntmps48]) ?_
  intro J hJ
  simp only [Tryz.ntmps48, Tryz.results48]
  refine gwp_sr rfl (by decide) rfl rfl fun K hK => ?_
  simp -dsimp
  refine hK _ _ ?_; clear hK K
  refine gwp_sr rfl (by decide) rfl rfl fun K hK => ?_
  simp -dsimp
  refine callK_intro _ (hop) (by simp) ?_
  simp -dsimp
  refine hK _ _ ?_; clear hK K
  refine gwp_seq_k fun K1 hK1 => ?_
  refine gwp_sr rfl (by decide) rfl rfl fun K hK => ?_
  simp -dsimp
  refine callK_may _ (fun hm => hh) (by simp) ?_
  simp -dsimp
  refine callK_may _ (fun hm => hk) (by simp) ?_
  simp -dsimp
  refine hK _ _ ?_; clear hK K
  refine gwp_cond rfl (fun hc0 => ?_) (fun hc0 => ?_)
  · skip
    skip
    simp at hc0
  · skip
    skip
    refine gwp_skip ?_
    simp only [thenA, inBlockA, reduceIte, Nat.reduceEqDiff, eq_self]
    refine hK1 _ _ ?_
    refine gwp_prune [4, 5, 8] (Or.inr (by simp)) ?_
    simp only [prune, List.map_cons, List.map_nil, Go.AM.look, Nat.reduceEqDiff, reduceIte]
    refine gwp_sd mixed rfl (by decide) rfl rfl fun K hK => ?_
    simp -dsimp
    refine callK_intro _ (hcb) (by simp) ?_
    simp -dsimp
    refine callK_intro _ (hd) (by simp) ?_
    simp -dsimp
    refine hK _ _ _ (by decide +kernel) ?_; clear hK K
    refine gwp_seq_k fun K2 hK2 => ?_
    refine gwp_sd mixed rfl (by decide) rfl rfl fun K hK => ?_
    simp -dsimp [hgA, h00]
    refine callK_intro _ (hca) (by simp) ?_
    simp -dsimp [hgA, h00]
    refine hK _ _ _ (by decide +kernel) ?_; clear hK K
    refine gwp_cond rfl (fun hc1 => ?_) (fun hc1 => ?_)
    · skip
      skip
      simp at hc1; omega
    · skip
      skip
      refine gwp_skip ?_
      simp only [thenA, inBlockA, reduceIte, Nat.reduceEqDiff, eq_self]
      refine hK2 _ _ ?_
      refine gwp_prune [4, 5, 8, 10, 11] (Or.inr (by simp)) ?_
      simp only [prune, List.map_cons, List.map_nil, Go.AM.look, Nat.reduceEqDiff, reduceIte]
      refine gwp_flag (by decide) ?_
      refine gwp_sr rfl (by decide) rfl rfl fun K hK => ?_
      simp -dsimp
      refine hK _ _ ?_; clear hK K
      refine gwp_seq_k fun K3 hK3 => ?_
      refine gwp_sr rfl (by decide) rfl rfl fun K hK => ?_
      simp -dsimp
      refine hK _ _ ?_; clear hK K
      refine gwp_block ?_
      refine gwp_prune [5, 8, 10, 11, 12, 13] (Or.inr (by simp)) ?_
      simp only [prune, List.map_cons, List.map_nil, Go.AM.look, Nat.reduceEqDiff, reduceIte]
      refine gwp_loop_l [5, 8, 10, 11] (α := List Int × Int × Nat) (fun s => [(12, .row 6 0 (s.1.length + 1)), (13, .ptr 7 0 0)]) (fun s => [none, none, some (.els 2 [b.cells]), some (.els 1 [[.iptr (net p)]]), some (.els 1 [[iLst ln]]), some (.els 1 [[iLst mv]]), mrow (s.1 ++ [s.2.1]), some (.els 2 [(moveM s.2.1).cells])]) (fun s => (0 ≤ s.2.1 ∧ s.2.1 < 2 * p.Rails.length) ∧ 0 ≤ gd ln s.2.1.toNat ∧ gd mv s.2.1.toNat = s.2.2 ∧ s.1.length + s.2.2 = n0 ∧ s.1 ++ shL p ln mv s.2.2 s.2.1 = shL p ln mv n0 fa) (fun s => s.2.2) ([], fa, n0) ?_ ?_ ?_
      · exact ⟨hna, h, hn0e, by simp, by simp⟩
      · exact gsub (sub_rb [none, none, some 2, some 3, some 4, some 5, some 6, some 7] rfl (by simp) (by simp [mvL])) (by simp)
      rintro ⟨acc, k, n⟩ ⟨⟨i0, i1⟩, i2, i3, i4, i5⟩
      simp only at i0 i1 i2 i3 i4 i5 ⊢
      simp only [List.cons_append, List.nil_append, prune, List.map_cons, List.map_nil, Go.AM.look, Nat.reduceEqDiff, reduceIte]
      refine gwp_seq_k fun K4 hK4 => ?_
      refine gwp_sr rfl (by decide) rfl rfl fun K hK => ?_
      simp -dsimp
      refine hK _ _ ?_; clear hK K
      refine gwp_cond rfl (fun hc2 => ?_) (fun hc2 => ?_)
      · skip
        skip
        have hkt : k ≠ to := fun e => by have := (hmk k i0).2 e; rw [this] at hc2; simp at hc2
        obtain ⟨n', rfl⟩ : ∃ n', n = n' + 1 := ⟨n - 1, by have := (hmz k i0 i1 i2); rw [i3] at this; have h2 := this.2.1; rcases n with _ | n; exact absurd (h2 rfl) hkt; rfl⟩
        obtain ⟨y0, hf0, hs0, hy0, hso⟩ := hsn k i0 i1 i2 hkt
        have hbd := fun y hy => nxI_bd (p := p) (k := k) hv i0 i1 (y := y) hy
        have hln := fun y hy => len_nx (p := p) (k := k) hv i0 i1 (y := y) hy
        have hitk := hit k (mov_of i0 i1)
        have hcn := c_number (moveM k) (by simp only [moveM]; omega) (by simp only [moveM]; omega)
        rw [numM_moveM i0] at hcn
        have hgk := hga k i0 i1
        have hmk2 := hgm k i0 i1
        rw [nxI_next] at hitk
        have hsk : ∀ y, sOk p ln mv k y = (decide (0 ≤ gd ln y.toNat) && (decide (gd ln y.toNat + p.len (y / 2) = gd ln k.toNat) && decide (gd mv y.toNat + 1 = gd mv k.toNat))) := fun _ => rfl
        generalize nxI p k = N at hbd hln hitk hf0 hy0
        generalize hW : gd ln k.toNat = W at *
        rw [i3] at hmk2 hsk
        have f2 : Fits (acc.length + 1 + 1) 17 := fits_of (by omega) (by omega)
        have hmt : List.take (acc.length + 1) ((mvL (acc ++ [k])).map Move.cells) = (mvL (acc ++ [k])).map Move.cells := List.take_of_length_le (by simp)
        refine gwp_skip ?_
        simp only [thenA, inBlockA, reduceIte, Nat.reduceEqDiff, eq_self]
        refine hK4 _ _ ?_
        refine gwp_prune [5, 8, 10, 11, 12, 13] (Or.inr (by simp)) ?_
        simp only [prune, List.map_cons, List.map_nil, Go.AM.look, Nat.reduceEqDiff, reduceIte]
        refine gwp_seq_k fun K5 hK5 => ?_
        refine gwp_block ?_
        refine gwp_sd mixed rfl (by decide) rfl rfl fun K hK => ?_
        simp -dsimp [hgk, hmk2, i0]
        refine callK_intro _ (hcn) (by simp) ?_
        simp -dsimp [hgk, hmk2, i0]
        refine callK_intro _ (hcn) (by simp) ?_
        simp -dsimp [hgk, hmk2, i0]
        refine hK _ _ _ (by decide +kernel) ?_; clear hK K
        refine gwp_sr rfl (by decide) rfl rfl fun K hK => ?_
        simp -dsimp
        refine callK_intro _ (hnx (moveM k)) (by simp) ?_
        simp -dsimp
        refine hK _ _ ?_; clear hK K
        refine gwp_block ?_
        refine gwp_prune [5, 8, 10, 11, 12, 13, 14, 15, 72] (Or.inr (by simp)) ?_
        simp only [prune, List.map_cons, List.map_nil, Go.AM.look, Nat.reduceEqDiff, reduceIte]
        refine gwp_range_s hJ [5, 8, 10, 11, 12, 13, 14, 15, 72] (fun _ => [none, none, some (.els 2 [b.cells]), some (.els 1 [[.iptr (net p)]]), some (.els 1 [[iLst ln]]), some (.els 1 [[iLst mv]]), mrow (acc ++ [k]), some (.els 2 [(moveM k).cells]), some (.els 1 [[I W]]), some (.els 1 [[I ((n' + 1 : Nat) : Int)]])]) (fun n => ∀ z ∈ N.take n, sOk p ln mv k z = false) rfl (hitk) rfl (by simp) (by decide) (by decide) (by decide) (by intro z hz; obtain ⟨q, _, rfl⟩ := List.mem_map.1 hz; rfl) ?_ ?_ ?_ ?_
        · simp
        · exact sub_same (by simp)
        · intro n xv hxn hi l1 J1 hJ1
          obtain ⟨y, hy, rfl⟩ : ∃ y, N[n]? = some y ∧ [(moveM y).av] = xv := by simpa using hxn
          have hyN := List.mem_of_getElem? hy
          obtain ⟨hyb0, hyb1⟩ := hbd y hyN
          have hyl := hln y hyN
          have hgy := hga y hyb0 hyb1
          have hmy := hgm y hyb0 hyb1
          have hnum := c_number (moveM y) (by simp only [moveM]; omega) (by simp only [moveM]; omega)
          rw [numM_moveM hyb0] at hnum
          have hlg : (lensA p p.Rails.length)[((moveM y).Rail).toNat]? = some [I (p.len (y / 2))] := by rw [show (moveM y).Rail = y / 2 from rfl, lensA_get (by omega), show (((y / 2).toNat : Nat) : Int) = y / 2 by omega]
          have hr0 : 0 ≤ (moveM y).Rail := by show 0 ≤ y / 2; omega
          have hsy := hsk y
          have hymb := hmb y.toNat (by omega)
          have hmzy := hmz y hyb0 hyb1
          generalize hY : gd ln y.toNat = Y at *
          generalize hM : gd mv y.toNat = M at *
          simp only [List.zip_cons_cons, List.zip_nil_left, List.zip_nil_right, List.cons_append, List.nil_append]
          refine gwp_r rfl (by decide) rfl rfl fun K hK => ?_
          simp -dsimp
          refine hK _ _ ?_; clear hK K
          simp only [onlyN]
          intro J2 hJ2
          refine gwp_prune [5, 8, 10, 11, 12, 13, 14, 15, 16, 72] (Or.inr (by simp)) ?_
          simp only [prune, List.map_cons, List.map_nil, Go.AM.look, Nat.reduceEqDiff, reduceIte]
          refine gwp_block ?_
          refine gwp_sr rfl (by decide) rfl rfl fun K hK => ?_
          simp -dsimp
          refine callK_intro _ (hnum) (by simp) ?_
          simp -dsimp
          refine hK _ _ ?_; clear hK K
          refine gwp_sd mixed rfl (by decide) rfl rfl fun K hK => ?_
          simp -dsimp [hgy, hyb0, net, hr0]
          refine idxK_intro [I Y] (fun hm => by rw [List.getElem?_map, hgy]; rfl) ?_
          simp -dsimp [hgy, hyb0, net, hr0]
          refine idxK_intro [I (p.len (y / 2))] (fun hm => hlg) ?_
          simp -dsimp [hgy, hyb0, net, hr0]
          refine idxK_intro [I M] (fun hm => by rw [List.getElem?_map, hmy]; rfl) ?_
          simp -dsimp [hgy, hyb0, net, hr0]
          refine hK _ _ _ (by decide +kernel) ?_; clear hK K
          refine gwp_cond rfl (fun hc3 => ?_) (fun hc3 => ?_)
          · skip
            have hcond : (decide (0 ≤ Y) && IntKind.i64.wrap (Y + p.len (y / 2)) == W && IntKind.i64.wrap (M + 1) == ((n' : Int) + 1)) = sOk p ln mv k y := by
              rw [hsy]
              by_cases hY0 : 0 ≤ Y
              · have g1 := hymb hY0
                have g2 := (hmzy hY0).1
                rw [wrap_in (by omega) (by omega), wrap_in (by omega) (by omega), Bool.eq_iff_iff]
                simp [hY0, and_assoc]
              · simp [hY0]
            rw [hcond] at hc3
            obtain rfl : y0 = y := by have := find_at hy hc3 hi; rw [hf0] at this; exact Option.some.inj this
            refine gwp_sr rfl (by decide) rfl rfl fun K hK => ?_
            simp -dsimp
            refine hK _ _ ?_; clear hK K
            refine gwp_exit ?_
            simp only [thenA, inBlockA, roundQ, reduceIte, Nat.reduceEqDiff, eq_self]
            refine ⟨[none, none, some (.els 2 [b.cells]), some (.els 1 [[.iptr (net p)]]), some (.els 1 [[iLst ln]]), some (.els 1 [[iLst mv]]), mrow (acc ++ [k]), some (.els 2 [(moveM y0).cells]), some (.els 1 [[I W]]), some (.els 1 [[I ((n' + 1 : Nat) : Int)]])], sub_rb [none, none, some 2, some 3, some 4, some 5, some 6, some 7, some 8, some 9] rfl (by simp [net]) (by simp [net]), ?_⟩
            try simp only [thenA, inBlockA, reduceIte, Nat.reduceEqDiff, eq_self]
            refine hK5 _ _ ?_
            refine gwp_prune [5, 8, 10, 11, 12, 13] (Or.inr (by simp)) ?_
            simp only [prune, List.map_cons, List.map_nil, Go.AM.look, Nat.reduceEqDiff, reduceIte]
            refine gwp_seq_k fun K6 hK6 => ?_
            refine gwp_sr rfl (by decide) rfl rfl fun K hK => ?_
            simp -dsimp
            refine hK _ _ ?_; clear hK K
            refine gwp_r rfl (by decide) rfl rfl fun K hK => ?_
            simp -dsimp
            refine hK _ _ ?_; clear hK K
            simp only [thenA, inBlockA, reduceIte, Nat.reduceEqDiff, eq_self]
            refine hK6 _ _ ?_
            refine gwp_prune [5, 8, 10, 11, 12, 13] (Or.inr (by simp)) ?_
            simp only [prune, List.map_cons, List.map_nil, Go.AM.look, Nat.reduceEqDiff, reduceIte]
            refine gwp_r rfl (by decide) rfl rfl fun K hK => ?_
            simp -dsimp [f2, hmt]
            refine hK _ _ ?_; clear hK K
            simp only [thenA, inBlockA, reduceIte, Nat.reduceEqDiff, eq_self]
            have hsO := hc3
            rw [hsy, Bool.and_eq_true, Bool.and_eq_true, decide_eq_true_eq, decide_eq_true_eq, decide_eq_true_eq] at hsO
            have hsh : shL p ln mv (n' + 1) k = k :: shL p ln mv n' y0 := by rw [← hs0]; rfl
            rw [hsh] at i5
            refine ⟨(acc ++ [k], y0, n'), ⟨⟨hyb0, hyb1⟩, by show 0 ≤ gd ln y0.toNat; rw [hY]; exact hsO.1, by show gd mv y0.toNat = n'; rw [hM]; omega, by simp; omega, by simpa using i5⟩, by simp, gsub (sub_rb [none, none, some 2, some 3, some 4, some 5, some 11, some 10] rfl (by simp) (by simp [mvL])) (by simp)⟩
          · skip
            have hcond : (decide (0 ≤ Y) && IntKind.i64.wrap (Y + p.len (y / 2)) == W && IntKind.i64.wrap (M + 1) == ((n' : Int) + 1)) = sOk p ln mv k y := by
              rw [hsy]
              by_cases hY0 : 0 ≤ Y
              · have g1 := hymb hY0
                have g2 := (hmzy hY0).1
                rw [wrap_in (by omega) (by omega), wrap_in (by omega) (by omega), Bool.eq_iff_iff]
                simp [hY0, and_assoc]
              · simp [hY0]
            rw [hcond] at hc3
            refine gwp_skip ?_
            simp only [thenA, inBlockA, roundQ, reduceIte, Nat.reduceEqDiff, eq_self]
            refine ⟨?_, sub_rb [none, none, some 2, some 3, some 4, some 5, some 6, some 7, some 8, some 9] rfl (by simp [net]) (by simp [net])⟩
            intro z hz
            rw [List.take_add_one, hy] at hz
            rcases List.mem_append.1 hz with hz | hz
            · exact hi z hz
            · obtain rfl : z = y := by simpa using hz
              exact hc3
        · intro hdone
          rw [List.take_of_length_le (by simp)] at hdone
          have := hdone y0 hy0
          rw [hso] at this; cases this
      · skip
        skip
        have hkt : k = to := (hmk k i0).1 (by generalize moveM k = q at hc2; simp at hc2; cases q; cases b; simp_all)
        have hn : n = 0 := by have := (hmz k i0 i1 i2).2.2 hkt; omega
        subst hn
        simp only [shL] at i5
        refine gwp_exit ?_
        simp only [thenA, inBlockA, reduceIte, Nat.reduceEqDiff, eq_self]
        refine hK3 _ _ ?_
        refine gwp_prune [12] (Or.inr (by simp)) ?_
        simp only [prune, List.map_cons, List.map_nil, Go.AM.look, Nat.reduceEqDiff, reduceIte]
        refine gwp_sr rfl (by decide) rfl rfl fun K hK => ?_
        simp -dsimp
        refine hK _ _ ?_; clear hK K
        have g1 : List.take (acc.length + 1) ((mvL (acc ++ [k])).map Move.cells) = (mvL (acc ++ [k])).map Move.cells := List.take_of_length_le (by simp)
        exact gwp_ret (by simp [← i5, g1])
end Go.Tram
