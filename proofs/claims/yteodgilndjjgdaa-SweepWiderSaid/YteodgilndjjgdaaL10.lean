/- Walks: the theorem of profiles. -/
import Derived.Test.YteodgilndjjgdaaL9
import Derived.Test.YteodgilndjjgdaaT2
namespace Go.Tram
open Go.AM Go.Proofs
set_option maxRecDepth 100000
set_option maxHeartbeats 4000000
set_option linter.unusedVariables false
set_option linter.unusedSimpArgs false

theorem wide_le {h m w : Int} (hh : 0 ≤ h) (h2 : h ≤ 10000) (hm : I64 m) (hw : w = IntKind.i64.wrap (h + if 0 < m then m else 0)) (w0 : 0 ≤ w) : h ≤ w := by
  unfold I64 at hm
  rw [IntKind.wrap_i64] at hw
  split at hw <;> omega

theorem c_SweepWider (p : Plan) (x m : Profile) (hf : p.Fit) (bm : I64 m.Half ∧ I64 m.Swing) : PureCall Try.prog 12 [p.av, x.av, m.av] (Bo true) := by
  obtain ⟨W, hW⟩ : ∃ W : Profile, W = ⟨IntKind.i64.wrap (x.Half + if 0 < m.Half then m.Half else 0), IntKind.i64.wrap (x.Swing + if 0 < m.Swing then m.Swing else 0)⟩ := ⟨_, rfl⟩
  have w1 : IntKind.i64.wrap (x.Half + if 0 < m.Half then m.Half else 0) = W.Half := by rw [hW]
  have w2 : IntKind.i64.wrap (x.Swing + if 0 < m.Swing then m.Swing else 0) = W.Swing := by rw [hW]
  have hle : profB x = true → profB W = true → x.Half ≤ W.Half ∧ x.Swing ≤ W.Swing := by
    intro a b
    rw [profB_iff] at a b
    exact ⟨wide_le (by omega) (by omega) bm.1 w1.symm (by omega), wide_le (by omega) (by omega) bm.2 w2.symm (by omega)⟩
  clear hW
  refine PureCall.of_body Try.func12 rfl (by decide) (by simp [Try.ntmps12]) ?_
  simp only [Try.ntmps12, Try.results12]
  refine awp_sr rfl fun K hK => ?_
  simp -dsimp
  refine hK _ _ ?_; clear hK K
  refine awp_sr rfl fun K hK => ?_
  simp -dsimp [w1, w2]
  refine hK _ _ ?_; clear hK K
  refine awp_seq_k fun K1 hK1 => ?_
  refine awp_sr rfl fun K hK => ?_
  simp -dsimp
  refine callK_intro _ (c_few p hf) (by simp) ?_
  simp -dsimp
  refine callK_may _ (fun hm => c_Valid p) (by simp) ?_
  simp -dsimp
  refine callK_may _ (fun hm => c_rProfile x) (by simp) ?_
  simp -dsimp
  refine callK_may _ (fun hm => c_rProfile W) (by simp) ?_
  simp -dsimp
  refine hK _ _ ?_; clear hK K
  refine awp_cond rfl (fun hc0 => ?_) (fun hc0 => ?_)
  · skip
    skip
    refine awp_sr rfl fun K hK => ?_
    simp -dsimp
    refine callK_intro _ (c_known) (by simp) ?_
    simp -dsimp
    refine hK _ _ ?_; clear hK K
    exact awp_ret (by simp)
  · skip
    skip
    have hall : fewB p = true ∧ validB p = true ∧ profB x = true ∧ profB W = true := by simp at hc0; simp [hc0]
    obtain ⟨hfw, hv, hx, hWp⟩ := hall
    have hN : p.Rails.length ≤ 12 := by simp [fewB] at hfw; omega
    have hl2 := hle hx hWp
    have h1 := (c_Fouls_t p [x] hv (by simp [profsB, hx]) hN).wk (args := [p.av, .full 2 [x.cells]]) (by simp [AM.wk])
    have h2 := (c_Fouls_t p [W] hv (by simp [profsB, hWp]) hN).wk (args := [p.av, .full 2 [W.cells]]) (by simp [AM.wk])
    have hF1 : (foulsL p [x]).length ≤ 100000 := foulsL_len hN (by simp)
    have hF2 : (foulsL p [W]).length ≤ 100000 := foulsL_len hN (by simp)
    have hFG : ∀ f ∈ foulsL p [x], f ∈ foulsL p [W] := fun f hf => fouls_wider hv hx hl2.1 hl2.2 hf
    have hFm : ∀ a b : Nat, a ≤ b → b < p.Rails.length → meetB p a b = true → (⟨a, 0, b, 0⟩ : Foul) ∈ foulsL p [x] := fun a b hab hb hm => fouls_meet hv hx hab hb hm
    generalize foulsL p [x] = F at h1 hF1 hFG hFm
    generalize foulsL p [W] = G at h2 hF2 hFG
    refine awp_skip ?_
    simp only [thenA, inBlockA, reduceIte, Nat.reduceEqDiff, eq_self]
    refine hK1 _ _ ?_
    refine awp_prune [3, 4, 7] ?_
    simp only [prune, List.map_cons, List.map_nil, Go.AM.look, Nat.reduceEqDiff, reduceIte]
    refine awp_sr rfl fun K hK => ?_
    simp -dsimp
    refine callK_intro _ (h1) (by simp) ?_
    simp -dsimp
    refine hK _ _ ?_; clear hK K
    refine awp_sr rfl fun K hK => ?_
    simp -dsimp
    refine callK_intro _ (h2) (by simp) ?_
    simp -dsimp
    refine hK _ _ ?_; clear hK K
    refine awp_seq_k fun K2 hK2 => ?_
    refine awp_sr rfl fun K hK => ?_
    simp -dsimp
    refine hK _ _ ?_; clear hK K
    refine awp_cond rfl (fun hc1 => ?_) (fun hc1 => ?_)
    · skip
      skip
      simp at hc1
    · skip
      skip
      refine awp_skip ?_
      simp only [thenA, inBlockA, reduceIte, Nat.reduceEqDiff, eq_self]
      refine hK2 _ _ ?_
      refine awp_prune [3, 8, 10] ?_
      simp only [prune, List.map_cons, List.map_nil, Go.AM.look, Nat.reduceEqDiff, reduceIte]
      refine awp_seq_k fun K3 hK3 => ?_
      refine awp_sr rfl fun K hK => ?_
      simp -dsimp
      refine hK _ _ ?_; clear hK K
      refine awp_block ?_
      refine awp_prune [3, 8, 10, 12] ?_
      simp only [prune, List.map_cons, List.map_nil, Go.AM.look, Nat.reduceEqDiff, reduceIte]
      refine awp_loop_l [3, 8, 10] (α := Nat) (fun k => [(12, I k)]) (fun _ => [some (.els 2 [p.cells]), some (.els 2 [x.cells]), some (.els 2 [m.cells]), some (.els 2 [W.cells])]) (fun k => k ≤ F.length) (fun k => F.length - k) 0 ?_ ?_ ?_
      · simp
      · exact sub_same (by simp)
      rintro k k1
      simp only [List.cons_append, List.nil_append, prune, List.map_cons, List.map_nil, Go.AM.look, Nat.reduceEqDiff, reduceIte]
      refine awp_seq_k fun K4 hK4 => ?_
      refine awp_sr rfl fun K hK => ?_
      simp -dsimp
      refine hK _ _ ?_; clear hK K
      refine awp_cond rfl (fun hc2 => ?_) (fun hc2 => ?_)
      · skip
        try simp at hc2
        obtain ⟨f, hk⟩ : ∃ f, F[k]? = some f := ⟨_, List.getElem?_eq_getElem hc2⟩
        have wk : IntKind.i64.wrap ((k : Int) + 1) = (k : Int) + 1 := wrap_in (by omega) (by omega)
        refine awp_skip ?_
        simp only [thenA, inBlockA, reduceIte, Nat.reduceEqDiff, eq_self]
        refine hK4 _ _ ?_
        refine awp_prune [3, 8, 10, 12] ?_
        simp only [prune, List.map_cons, List.map_nil, Go.AM.look, Nat.reduceEqDiff, reduceIte]
        refine awp_seq_k fun K5 hK5 => ?_
        refine awp_block ?_
        refine awp_sr rfl fun K hK => ?_
        simp -dsimp [hk]
        refine callK_intro _ (c_has G f hF2 (hFG f (List.mem_of_getElem? hk))) (by simp) ?_
        simp -dsimp [hk]
        refine hK _ _ ?_; clear hK K
        refine awp_cond rfl (fun hc3 => ?_) (fun hc3 => ?_)
        · skip
          skip
          simp at hc3
        · skip
          skip
          refine awp_skip ?_
          simp only [thenA, inBlockA, reduceIte, Nat.reduceEqDiff, eq_self]
          refine hK5 _ _ ?_
          refine awp_prune [3, 8, 10, 12] ?_
          simp only [prune, List.map_cons, List.map_nil, Go.AM.look, Nat.reduceEqDiff, reduceIte]
          refine awp_r rfl fun K hK => ?_
          simp -dsimp [wk]
          refine hK _ _ ?_; clear hK K
          simp only [thenA, inBlockA, reduceIte, Nat.reduceEqDiff, eq_self]
          exact ⟨k + 1, by omega, by omega, sub_same (by simp)⟩
      · skip
        try simp at hc2
        refine awp_exit ?_
        simp only [thenA, inBlockA, reduceIte, Nat.reduceEqDiff, eq_self]
        refine hK3 _ _ ?_
        refine awp_prune [3, 8] ?_
        simp only [prune, List.map_cons, List.map_nil, Go.AM.look, Nat.reduceEqDiff, reduceIte]
        refine awp_seq_k fun K6 hK6 => ?_
        refine awp_sr rfl fun K hK => ?_
        simp -dsimp
        refine hK _ _ ?_; clear hK K
        refine awp_block ?_
        refine awp_prune [3, 8, 13] ?_
        simp only [prune, List.map_cons, List.map_nil, Go.AM.look, Nat.reduceEqDiff, reduceIte]
        refine awp_loop_l [3, 8] (α := Nat) (fun a => [(13, I a)]) (fun _ => [some (.els 2 [p.cells]), some (.els 2 [x.cells]), some (.els 2 [m.cells]), some (.els 2 [W.cells])]) (fun a => a ≤ p.Rails.length) (fun a => p.Rails.length - a) 0 ?_ ?_ ?_
        · simp
        · exact sub_same (by simp)
        rintro a a1
        simp only [List.cons_append, List.nil_append, prune, List.map_cons, List.map_nil, Go.AM.look, Nat.reduceEqDiff, reduceIte]
        refine awp_seq_k fun K7 hK7 => ?_
        refine awp_sr rfl fun K hK => ?_
        simp -dsimp
        refine hK _ _ ?_; clear hK K
        refine awp_cond rfl (fun hc4 => ?_) (fun hc4 => ?_)
        · skip
          try simp at hc4
          have wa : IntKind.i64.wrap ((a : Int) + 1) = (a : Int) + 1 := wrap_in (by omega) (by omega)
          have ga := Plan.rail_get (p := p) (i := a) (by omega) (by omega)
          rw [Int.toNat_natCast] at ga
          refine awp_skip ?_
          simp only [thenA, inBlockA, reduceIte, Nat.reduceEqDiff, eq_self]
          refine hK7 _ _ ?_
          refine awp_prune [3, 8, 13] ?_
          simp only [prune, List.map_cons, List.map_nil, Go.AM.look, Nat.reduceEqDiff, reduceIte]
          refine awp_seq_k fun K8 hK8 => ?_
          refine awp_block ?_
          refine awp_sr rfl fun K hK => ?_
          simp -dsimp
          refine hK _ _ ?_; clear hK K
          refine awp_block ?_
          refine awp_prune [3, 8, 13, 14] ?_
          simp only [prune, List.map_cons, List.map_nil, Go.AM.look, Nat.reduceEqDiff, reduceIte]
          refine awp_loop_l [3, 8, 13] (α := Nat) (fun b => [(14, I b)]) (fun _ => [some (.els 2 [p.cells]), some (.els 2 [x.cells]), some (.els 2 [m.cells]), some (.els 2 [W.cells])]) (fun b => a ≤ b ∧ b ≤ p.Rails.length) (fun b => p.Rails.length - b) a ?_ ?_ ?_
          · exact ⟨Nat.le_refl _, a1⟩
          · exact sub_same (by simp)
          rintro b ⟨b1, b2⟩
          simp only [List.cons_append, List.nil_append, prune, List.map_cons, List.map_nil, Go.AM.look, Nat.reduceEqDiff, reduceIte]
          refine awp_seq_k fun K9 hK9 => ?_
          refine awp_sr rfl fun K hK => ?_
          simp -dsimp
          refine hK _ _ ?_; clear hK K
          refine awp_cond rfl (fun hc5 => ?_) (fun hc5 => ?_)
          · skip
            try simp at hc5
            have wb : IntKind.i64.wrap ((b : Int) + 1) = (b : Int) + 1 := wrap_in (by omega) (by omega)
            have gb := Plan.rail_get (p := p) (i := b) (by omega) (by omega)
            rw [Int.toNat_natCast] at gb
            refine awp_skip ?_
            simp only [thenA, inBlockA, reduceIte, Nat.reduceEqDiff, eq_self]
            refine hK9 _ _ ?_
            refine awp_prune [3, 8, 13, 14] ?_
            simp only [prune, List.map_cons, List.map_nil, Go.AM.look, Nat.reduceEqDiff, reduceIte]
            refine awp_seq_k fun K10 hK10 => ?_
            refine awp_block ?_
            refine awp_sd mixed rfl fun K hK => ?_
            simp -dsimp [ga, gb]
            refine hK _ _ _ (by decide +kernel) ?_; clear hK K
            refine awp_sr rfl fun K hK => ?_
            simp -dsimp
            refine hK _ _ ?_; clear hK K
            refine awp_sr rfl fun K hK => ?_
            simp -dsimp
            refine callK_may _ (fun hm => (c_has F ⟨a, 0, b, 0⟩ hF1 (hFm a b b1 hc5 (by simp at hm; simp [meetB]; omega)))) (by simp) ?_
            simp -dsimp
            refine hK _ _ ?_; clear hK K
            refine awp_cond rfl (fun hc6 => ?_) (fun hc6 => ?_)
            · skip
              skip
              simp at hc6
            · skip
              skip
              refine awp_skip ?_
              simp only [thenA, inBlockA, reduceIte, Nat.reduceEqDiff, eq_self]
              refine hK10 _ _ ?_
              refine awp_prune [3, 8, 13, 14] ?_
              simp only [prune, List.map_cons, List.map_nil, Go.AM.look, Nat.reduceEqDiff, reduceIte]
              refine awp_r rfl fun K hK => ?_
              simp -dsimp [wb]
              refine hK _ _ ?_; clear hK K
              simp only [thenA, inBlockA, reduceIte, Nat.reduceEqDiff, eq_self]
              exact ⟨b + 1, ⟨by omega, by omega⟩, by omega, sub_rb [some 0, some 1, some 2, some 3] rfl (by simp) (by simp)⟩
          · skip
            try simp at hc5
            refine awp_exit ?_
            simp only [thenA, inBlockA, reduceIte, Nat.reduceEqDiff, eq_self]
            refine hK8 _ _ ?_
            refine awp_prune [3, 8, 13] ?_
            simp only [prune, List.map_cons, List.map_nil, Go.AM.look, Nat.reduceEqDiff, reduceIte]
            refine awp_r rfl fun K hK => ?_
            simp -dsimp [wa]
            refine hK _ _ ?_; clear hK K
            simp only [thenA, inBlockA, reduceIte, Nat.reduceEqDiff, eq_self]
            exact ⟨a + 1, by omega, by omega, sub_same (by simp)⟩
        · skip
          try simp at hc4
          refine awp_exit ?_
          simp only [thenA, inBlockA, reduceIte, Nat.reduceEqDiff, eq_self]
          refine hK6 _ _ ?_
          refine awp_prune [] ?_
          simp only [prune, List.map_cons, List.map_nil, Go.AM.look, Nat.reduceEqDiff, reduceIte]
          refine awp_sr rfl fun K hK => ?_
          simp -dsimp
          refine callK_intro _ (c_known) (by simp) ?_
          simp -dsimp
          refine hK _ _ ?_; clear hK K
          exact awp_ret (by simp)
end Go.Tram
