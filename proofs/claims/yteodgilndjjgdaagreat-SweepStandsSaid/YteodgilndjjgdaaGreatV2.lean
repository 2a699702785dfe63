/- Walks: whether two rails are foul, and where they come nearest. -/
import Derived.Test.YteodgilndjjgdaaGreatV1
namespace Go.Tram
open Go.AM Go.Proofs
set_option maxRecDepth 10000
set_option maxHeartbeats 4000000
set_option linter.unusedVariables false
set_option linter.unusedSimpArgs false

theorem rails_at {p : Plan} {r : Int} (hr : inr r 0 (p.Rails.length - 1) = true) : p.Rails[r.toNat]? = some (p.rail r) := by
  have := inr_iff.1 hr
  exact Plan.rail_get (by omega) (by omega)

theorem c_meet (p : Plan) (a b : Int) (ha : inr a 0 (p.Rails.length - 1) = true) (hb : inr b 0 (p.Rails.length - 1) = true) : PureCall Tryz.prog 51 [.iptr (sheet p), I a, I b] (Bo (meetB p a b)) := by
  have ia := inr_iff.1 ha
  have ib := inr_iff.1 hb
  have ga := rails_at ha
  have gb := rails_at hb
  unfold sheet
  refine PureCall.of_body Tryz.func51 rfl (by decide) (by simp [Tryz.ntmps51]) ?_
  simp only [Tryz.ntmps51, Tryz.results51]
  refine awp_sr rfl fun K hK => ?_
  simp -dsimp
  refine hK _ _ ?_; clear hK K
  refine awp_sd mixed rfl fun K hK => ?_
  simp -dsimp [ga, gb, ia.1, ib.1]
  refine hK _ _ _ (by decide +kernel) ?_; clear hK K
  refine awp_sr rfl fun K hK => ?_
  simp -dsimp
  refine hK _ _ ?_; clear hK K
  refine awp_ret ?_
  simp [meetB]
  exact Bool.eq_iff_iff.2 (by simp; try omega)

def foulR (p : Plan) (a : Int) (x : Profile) (b : Int) (y : Profile) : Bool := meetB p a b || (pairs p a b).any fun q => foulB q.1 x q.2 y

theorem c_fouls (p : Plan) (a : Int) (x : Profile) (b : Int) (y : Profile) (hv : validB p = true) (ha : inr a 0 (p.Rails.length - 1) = true) (hb : inr b 0 (p.Rails.length - 1) = true) (hx : profB x = true) (hy : profB y = true) :
    PureCall Tryz.prog 30 [.iptr (sheet p), I a, x.av, I b, y.av] (Bo (railsB p a x b y)) := by
  have ia := inr_iff.1 ha
  have ib := inr_iff.1 hb
  have ra := rail_ok hv (r := a) (by omega) (by omega)
  have rb := rail_ok hv (r := b) (by omega) (by omega)
  have sa := ra.s
  have sb := rb.s
  have la := strips_len p a
  have lb := strips_len p b
  have hm := c_meet p a b ha hb
  have hall := c_all p a b
  have hit := c_all1 p a b ha hb (by omega) (by omega)
  generalize hsh : sheet p = sh at hm hall hit
  refine PureCall.of_bodyG Tryz.func30 rfl (by decide) (by simp [Tryz.ntmps30]) ?_
  intro J hJ
  simp only [Tryz.ntmps30, Tryz.results30]
  refine gwp_sr rfl (by decide) rfl rfl fun K hK => ?_
  simp -dsimp
  refine hK _ _ ?_; clear hK K
  refine gwp_seq_k fun K1 hK1 => ?_
  refine gwp_sr rfl (by decide) rfl rfl fun K hK => ?_
  simp -dsimp
  refine callK_intro _ (hm) (by simp) ?_
  simp -dsimp
  refine hK _ _ ?_; clear hK K
  refine gwp_cond rfl (fun hc0 => ?_) (fun hc0 => ?_)
  · skip
    try simp at hc0
    refine gwp_sr rfl (by decide) rfl rfl fun K hK => ?_
    simp -dsimp
    refine hK _ _ ?_; clear hK K
    exact gwp_ret (by simp [rails_meet hv ha hb hx hy hc0])
  · skip
    try simp at hc0
    refine gwp_skip ?_
    simp only [thenA, inBlockA, reduceIte, Nat.reduceEqDiff, eq_self]
    refine hK1 _ _ ?_
    refine gwp_prune [0, 1, 3, 7, 9, 10] (Or.inr (by simp)) ?_
    simp only [prune, List.map_cons, List.map_nil, Go.AM.look, Nat.reduceEqDiff, reduceIte]
    refine gwp_seq_k fun K2 hK2 => ?_
    refine gwp_sr rfl (by decide) rfl rfl fun K hK => ?_
    simp -dsimp
    refine callK_intro _ (hall) (by simp) ?_
    simp -dsimp
    refine hK _ _ ?_; clear hK K
    refine gwp_block ?_
    refine gwp_prune [7, 9, 10, 20] (Or.inr (by simp)) ?_
    simp only [prune, List.map_cons, List.map_nil, Go.AM.look, Nat.reduceEqDiff, reduceIte]
    refine gwp_range_s hJ [7, 9, 10, 20] (fun _ => [some (.els 2 [x.cells]), some (.els 2 [y.cells]), some (.els 1 [[Bo false]])]) (fun n => ((pairs p a b).take n).any (fun q => foulB q.1 x q.2 y) = false) rfl (hit) rfl (by simp) (by decide) (by decide) (by decide) (pairAV_len p a b) ?_ ?_ ?_ ?_
    · trivial
    · exact sub_same (by simp)
    · intro n xv hxn hi l1 J1 hJ1
      obtain ⟨q, hq, rfl⟩ : ∃ q, (pairs p a b)[n]? = some q ∧ pairAV q = xv := by simpa using hxn
      have hmq := pairs_mem (List.mem_of_getElem? hq)
      have os := strips_ok ra hmq.1
      have ot := strips_ok rb hmq.2
      have hcf := c_foul q.1 q.2 x y os ot hx hy
      obtain ⟨s, t⟩ := q
      simp only [pairAV] at hcf ⊢
      simp only [List.zip_cons_cons, List.zip_nil_left, List.zip_nil_right, List.cons_append, List.nil_append]
      refine gwp_sr rfl (by decide) rfl rfl fun K hK => ?_
      simp -dsimp
      refine hK _ _ ?_; clear hK K
      refine gwp_r rfl (by decide) rfl rfl fun K hK => ?_
      simp -dsimp
      refine hK _ _ ?_; clear hK K
      simp only [onlyN]
      intro J2 hJ2
      refine gwp_prune [7, 9, 10, 11, 12, 20] (Or.inr (by simp)) ?_
      simp only [prune, List.map_cons, List.map_nil, Go.AM.look, Nat.reduceEqDiff, reduceIte]
      refine gwp_block ?_
      refine gwp_sr rfl (by decide) rfl rfl fun K hK => ?_
      simp -dsimp
      refine callK_intro _ (hcf) (by simp) ?_
      simp -dsimp
      refine hK _ _ ?_; clear hK K
      refine gwp_cond rfl (fun hc1 => ?_) (fun hc1 => ?_)
      · skip
        try simp at hc1
        have hany : (pairs p a b).any (fun q => foulB q.1 x q.2 y) = true := List.any_eq_true.2 ⟨(s, t), List.mem_of_getElem? hq, hc1⟩
        refine gwp_sr rfl (by decide) rfl rfl fun K hK => ?_
        simp -dsimp
        refine hK _ _ ?_; clear hK K
        exact gwp_ret ⟨[some (.els 2 [x.cells]), some (.els 2 [y.cells]), some (.els 1 [[Bo true]])], sub_rb [some 0, some 1, some 2] rfl (by simp) (by simp), by simp [railsB, hany]⟩
      · skip
        try simp at hc1
        refine gwp_skip ?_
        simp only [thenA, inBlockA, roundQ, reduceIte, Nat.reduceEqDiff, eq_self]
        refine ⟨?_, sub_rb [some 0, some 1, some 2] rfl (by simp) (by simp)⟩
        rw [List.take_add_one, List.any_append, hi, hq]; simp [hc1]
    · intro hdone
      simp only [thenA, inBlockA, reduceIte, Nat.reduceEqDiff, eq_self]
      refine hK2 _ _ ?_
      refine gwp_prune [10] (Or.inr (by simp)) ?_
      simp only [prune, List.map_cons, List.map_nil, Go.AM.look, Nat.reduceEqDiff, reduceIte]
      refine gwp_sr rfl (by decide) rfl rfl fun K hK => ?_
      simp -dsimp
      refine hK _ _ ?_; clear hK K
      refine gwp_ret ?_
      rw [List.take_of_length_le (by simp)] at hdone
      simp [railsB, hdone]
end Go.Tram
