/- Walks: what is foul. -/
import Derived.Test.YteodgilndjjgdaaGreatW11
namespace Go.Tram
open Go.AM Go.Proofs
set_option maxRecDepth 10000
set_option maxHeartbeats 4000000
set_option linter.unusedVariables false
set_option linter.unusedSimpArgs false

theorem profB_iff {x : Profile} : profB x = true ↔ (1 ≤ x.Half ∧ x.Half ≤ 2000) ∧ 0 ≤ x.Swing ∧ x.Swing ≤ 1500 := by simp [profB, inr_iff]

theorem c_prof1 (x : Profile) : PureCall Tryz.prog 48 [.agg x.cells] (Bo (!profB x)) := by
  refine PureCall.of_body Tryz.func48 rfl (by decide) (by simp [Tryz.ntmps48]) ?_
  simp only [Tryz.ntmps48, Tryz.results48]
  refine awp_sr rfl fun K hK => ?_
  simp -dsimp
  refine hK _ _ ?_; clear hK K
  refine awp_sr rfl fun K hK => ?_
  simp -dsimp
  refine hK _ _ ?_; clear hK K
  refine awp_ret ?_
  simp [profB, inr]
  exact Bool.eq_iff_iff.2 (by simp; omega)

theorem c_profiles (l : List Profile) (hn : l.length ≤ 100000) : PureCall Tryz.prog 27 [.lst 2 (l.map Profile.cells)] (Bo (l.all profB)) := by
  have hq : (l.any fun x => !profB x) = !l.all profB := (List.not_all_eq_any_not).symm
  have hc := c_Cont_Profile l 48 [] (fun x => !profB x) (fun x _ => c_prof1 x) hn
  refine PureCall.of_body Tryz.func27 rfl (by decide) (by simp [Tryz.ntmps27]) ?_
  simp only [Tryz.ntmps27, Tryz.results27]
  refine awp_sr rfl fun K hK => ?_
  simp -dsimp
  refine hK _ _ ?_; clear hK K
  refine awp_sr rfl fun K hK => ?_
  simp -dsimp
  refine callK_intro _ (hc) (by simp) ?_
  simp -dsimp
  refine hK _ _ ?_; clear hK K
  exact awp_ret (by simp [hq])

theorem c_near (s t : SS) (x y : Profile) (hs : s.Ok) (ht : t.Ok) (hx : profB x = true) (hy : profB y = true) : PureCall Tryz.prog 69 [s.av, x.av, t.av, y.av] (Bo (decide (apart s.a s.b t.a t.b (x.Half + y.Half) ≤ 0))) := by
  rw [profB_iff] at hx hy
  have w : IntKind.i64.wrap (x.Half + y.Half) = x.Half + y.Half := wrap_in (by omega) (by omega)
  refine PureCall.of_body Tryz.func69 rfl (by decide) (by simp [Tryz.ntmps69]) ?_
  simp only [Tryz.ntmps69, Tryz.results69]
  refine awp_sr rfl fun K hK => ?_
  simp -dsimp
  refine hK _ _ ?_; clear hK K
  refine awp_sr rfl fun K hK => ?_
  simp -dsimp [w]
  refine callK_intro _ (c_apart s.a s.b t.a t.b (x.Half + y.Half) hs.a hs.b ht.a ht.b (by omega) (by omega)) (by simp) ?_
  simp -dsimp [w]
  refine hK _ _ ?_; clear hK K
  exact awp_ret (by simp)

theorem c_swung1 (t : SS) (x y : Profile) (q : Spot) (ht : t.Ok) (hq : spotB q = true) (hx : profB x = true) (hy : profB y = true) :
    PureCall Tryz.prog 90 [.agg q.cells, .iptr t.cells, .iptr x.cells, .iptr y.cells] (Bo (decide (spotted t.a t.b q (x.Half + x.Swing + y.Half) ≤ 0))) := by
  rw [profB_iff] at hx hy
  have w1 : IntKind.i64.wrap (x.Half + x.Swing) = x.Half + x.Swing := wrap_in (by omega) (by omega)
  have w2 : IntKind.i64.wrap (x.Half + x.Swing + y.Half) = x.Half + x.Swing + y.Half := wrap_in (by omega) (by omega)
  refine PureCall.of_body Tryz.func90 rfl (by decide) (by simp [Tryz.ntmps90]) ?_
  simp only [Tryz.ntmps90, Tryz.results90]
  refine awp_sr rfl fun K hK => ?_
  simp -dsimp
  refine hK _ _ ?_; clear hK K
  refine awp_sr rfl fun K hK => ?_
  simp -dsimp [w1, w2]
  refine callK_intro _ (c_spotted t.a t.b q (x.Half + x.Swing + y.Half) ht.a ht.b hq (by omega) (by omega)) (by simp) ?_
  simp -dsimp [w1, w2]
  refine hK _ _ ?_; clear hK K
  exact awp_ret (by simp)

theorem c_swung (s t : SS) (x y : Profile) (hs : s.Ok) (ht : t.Ok) (hx : profB x = true) (hy : profB y = true) : PureCall Tryz.prog 70 [s.av, x.av, t.av, y.av] (Bo (swungB s t (x.Half + x.Swing + y.Half))) := by
  have hsn := hs.n
  have hc := c_Cont_Spot s.bends 90 [t.cells, x.cells, y.cells] (fun q => decide (spotted t.a t.b q (x.Half + x.Swing + y.Half) ≤ 0)) (fun q hq => c_swung1 t x y q ht (List.all_eq_true.1 hs.l q hq) hx hy) (by omega)
  refine PureCall.of_body Tryz.func70 rfl (by decide) (by simp [Tryz.ntmps70]) ?_
  simp only [Tryz.ntmps70, Tryz.results70]
  refine awp_sr rfl fun K hK => ?_
  simp -dsimp
  refine hK _ _ ?_; clear hK K
  refine awp_sr rfl fun K hK => ?_
  simp -dsimp
  refine callK_intro _ (hc) (by simp) ?_
  simp -dsimp
  refine hK _ _ ?_; clear hK K
  exact awp_ret (by simp [swungB])

theorem c_tests1 (s t : SS) (x y : Profile) (hs : s.Ok) (ht : t.Ok) (hx : profB x = true) (hy : profB y = true) : PureCall Tryz.prog 71 [s.av, x.av, t.av, y.av] (Bo (swungB t s (y.Half + y.Swing + x.Half))) := by
  refine PureCall.of_body Tryz.func71 rfl (by decide) (by simp [Tryz.ntmps71]) ?_
  simp only [Tryz.ntmps71, Tryz.results71]
  refine awp_sr rfl fun K hK => ?_
  simp -dsimp
  refine hK _ _ ?_; clear hK K
  refine awp_sr rfl fun K hK => ?_
  simp -dsimp
  refine callK_intro _ (c_swung t s y x ht hs hy hx) (by simp) ?_
  simp -dsimp
  refine hK _ _ ?_; clear hK K
  exact awp_ret (by simp)

theorem c_both (s t : SS) (x y : Profile) (hs : s.Ok) (ht : t.Ok) (hx : profB x = true) (hy : profB y = true) : PureCall Tryz.prog 72 [s.av, x.av, t.av, y.av] (Bo (bothB s t (x.Half + x.Swing + y.Half + y.Swing))) := by
  rw [profB_iff] at hx hy
  have w1 : IntKind.i64.wrap (x.Half + x.Swing) = x.Half + x.Swing := wrap_in (by omega) (by omega)
  have w2 : IntKind.i64.wrap (x.Half + x.Swing + y.Half) = x.Half + x.Swing + y.Half := wrap_in (by omega) (by omega)
  have w3 : IntKind.i64.wrap (x.Half + x.Swing + y.Half + y.Swing) = x.Half + x.Swing + y.Half + y.Swing := wrap_in (by omega) (by omega)
  have hsn := hs.n
  have htn := ht.n
  refine PureCall.of_body Tryz.func72 rfl (by decide) (by simp [Tryz.ntmps72]) ?_
  simp only [Tryz.ntmps72, Tryz.results72]
  refine awp_sr rfl fun K hK => ?_
  simp -dsimp
  refine hK _ _ ?_; clear hK K
  refine awp_sr rfl fun K hK => ?_
  simp -dsimp [w1, w2, w3]
  refine hK _ _ ?_; clear hK K
  refine awp_seq_k fun K1 hK1 => ?_
  refine awp_sr rfl fun K hK => ?_
  simp -dsimp
  refine hK _ _ ?_; clear hK K
  refine awp_block ?_
  refine awp_prune [6, 9, 27, 28, 29] ?_
  simp only [prune, List.map_cons, List.map_nil, Go.AM.look, Nat.reduceEqDiff, reduceIte]
  refine awp_loop_l [6, 9, 27, 28] (α := Nat) (fun k => [(29, I k)]) (fun _ => [some (.els 9 [s.cells]), some (.els 2 [x.cells]), some (.els 9 [t.cells]), some (.els 2 [y.cells])]) (fun k => k ≤ s.bends.length ∧ ((s.bends.take k).any fun q => t.bends.any fun r => decide (dotS q r q r ≤ (x.Half + x.Swing + y.Half + y.Swing) * (x.Half + x.Swing + y.Half + y.Swing))) = false) (fun k => s.bends.length - k) 0 ?_ ?_ ?_
  · simp
  · exact sub_same (by simp)
  rintro k ⟨k1, k2⟩
  simp only [List.cons_append, List.nil_append, prune, List.map_cons, List.map_nil, Go.AM.look, Nat.reduceEqDiff, reduceIte]
  refine awp_sr rfl fun K hK => ?_
  simp -dsimp
  refine hK _ _ ?_; clear hK K
  refine awp_seq_k fun K2 hK2 => ?_
  refine awp_cond rfl (fun hc0 => ?_) (fun hc0 => ?_)
  · skip
    try simp at hc0
    obtain ⟨q, hq⟩ : ∃ q, s.bends[k]? = some q := ⟨_, List.getElem?_eq_getElem hc0⟩
    have wk : IntKind.i64.wrap ((k : Int) + 1) = (k : Int) + 1 := wrap_in (by omega) (by omega)
    have sq := List.all_eq_true.1 hs.l q (List.mem_of_getElem? hq)
    refine awp_skip ?_
    simp only [thenA, inBlockA, reduceIte, Nat.reduceEqDiff, eq_self]
    refine hK2 _ _ ?_
    refine awp_prune [6, 9, 27, 28, 29] ?_
    simp only [prune, List.map_cons, List.map_nil, Go.AM.look, Nat.reduceEqDiff, reduceIte]
    refine awp_seq_k fun K3 hK3 => ?_
    refine awp_block ?_
    refine awp_sr rfl fun K hK => ?_
    simp -dsimp [hq]
    refine hK _ _ ?_; clear hK K
    refine awp_sr rfl fun K hK => ?_
    simp -dsimp
    refine hK _ _ ?_; clear hK K
    refine awp_block ?_
    refine awp_prune [6, 9, 11, 27, 28, 29, 34, 35, 36] ?_
    simp only [prune, List.map_cons, List.map_nil, Go.AM.look, Nat.reduceEqDiff, reduceIte]
    refine awp_loop_l [6, 9, 11, 27, 28, 29, 34, 35] (α := Nat) (fun j => [(36, I j)]) (fun _ => [some (.els 9 [s.cells]), some (.els 2 [x.cells]), some (.els 9 [t.cells]), some (.els 2 [y.cells]), some (.els 2 [q.cells])]) (fun j => j ≤ t.bends.length ∧ ((t.bends.take j).any fun r => decide (dotS q r q r ≤ (x.Half + x.Swing + y.Half + y.Swing) * (x.Half + x.Swing + y.Half + y.Swing))) = false) (fun j => t.bends.length - j) 0 ?_ ?_ ?_
    · simp
    · exact sub_same (by simp)
    rintro j ⟨j1, j2⟩
    simp only [List.cons_append, List.nil_append, prune, List.map_cons, List.map_nil, Go.AM.look, Nat.reduceEqDiff, reduceIte]
    refine awp_sr rfl fun K hK => ?_
    simp -dsimp
    refine hK _ _ ?_; clear hK K
    refine awp_seq_k fun K4 hK4 => ?_
    refine awp_cond rfl (fun hc1 => ?_) (fun hc1 => ?_)
    · skip
      try simp at hc1
      obtain ⟨r, hr⟩ : ∃ r, t.bends[j]? = some r := ⟨_, List.getElem?_eq_getElem hc1⟩
      have wj : IntKind.i64.wrap ((j : Int) + 1) = (j : Int) + 1 := wrap_in (by omega) (by omega)
      have sr := List.all_eq_true.1 ht.l r (List.mem_of_getElem? hr)
      have hdd := mul_bd (a := x.Half + x.Swing + y.Half + y.Swing) (b := x.Half + x.Swing + y.Half + y.Swing) (A := 7000) (B := 7000) (by omega) (by omega) (by omega) (by omega)
      have w4 : IntKind.i64.wrap ((x.Half + x.Swing + y.Half + y.Swing) * (x.Half + x.Swing + y.Half + y.Swing)) = (x.Half + x.Swing + y.Half + y.Swing) * (x.Half + x.Swing + y.Half + y.Swing) := wrap_in (by omega) (by omega)
      refine awp_skip ?_
      simp only [thenA, inBlockA, reduceIte, Nat.reduceEqDiff, eq_self]
      refine hK4 _ _ ?_
      refine awp_prune [6, 9, 11, 27, 28, 29, 34, 35, 36] ?_
      simp only [prune, List.map_cons, List.map_nil, Go.AM.look, Nat.reduceEqDiff, reduceIte]
      refine awp_seq_k fun K5 hK5 => ?_
      refine awp_block ?_
      refine awp_sr rfl fun K hK => ?_
      simp -dsimp [hr]
      refine hK _ _ ?_; clear hK K
      refine awp_sr rfl fun K hK => ?_
      simp -dsimp
      refine callK_intro _ (c_from q r sq sr) (by simp) ?_
      simp -dsimp
      refine hK _ _ ?_; clear hK K
      refine awp_sr rfl fun K hK => ?_
      simp -dsimp [w4]
      refine callK_intro _ (c_dot q r q r sq sr sq sr) (by simp) ?_
      simp -dsimp [w4]
      refine hK _ _ ?_; clear hK K
      refine awp_cond rfl (fun hc2 => ?_) (fun hc2 => ?_)
      · skip
        try simp at hc2
        have hb : bothB s t (x.Half + x.Swing + y.Half + y.Swing) = true := by
          unfold bothB
          rw [List.any_eq_true]
          exact ⟨q, List.mem_of_getElem? hq, List.any_eq_true.2 ⟨r, List.mem_of_getElem? hr, by simpa using hc2⟩⟩
        refine awp_sr rfl fun K hK => ?_
        simp -dsimp
        refine hK _ _ ?_; clear hK K
        exact awp_ret (by simp [hb])
      · skip
        try simp at hc2
        refine awp_skip ?_
        simp only [thenA, inBlockA, reduceIte, Nat.reduceEqDiff, eq_self]
        refine hK5 _ _ ?_
        refine awp_prune [6, 9, 11, 27, 28, 29, 34, 35, 36] ?_
        simp only [prune, List.map_cons, List.map_nil, Go.AM.look, Nat.reduceEqDiff, reduceIte]
        refine awp_r rfl fun K hK => ?_
        simp -dsimp [wj]
        refine hK _ _ ?_; clear hK K
        simp only [thenA, inBlockA, reduceIte, Nat.reduceEqDiff, eq_self]
        exact ⟨j + 1, ⟨by omega, by rw [any_take hr, j2]; simp; omega⟩, by omega, sub_rb [some 0, some 1, some 2, some 3, some 4] rfl (by simp) (by simp)⟩
    · skip
      try simp at hc1
      have hin := any_of_take (by omega) j2
      refine awp_exit ?_
      simp only [thenA, inBlockA, reduceIte, Nat.reduceEqDiff, eq_self]
      refine hK3 _ _ ?_
      refine awp_prune [6, 9, 27, 28, 29] ?_
      simp only [prune, List.map_cons, List.map_nil, Go.AM.look, Nat.reduceEqDiff, reduceIte]
      refine awp_r rfl fun K hK => ?_
      simp -dsimp [wk]
      refine hK _ _ ?_; clear hK K
      simp only [thenA, inBlockA, reduceIte, Nat.reduceEqDiff, eq_self]
      exact ⟨k + 1, ⟨by omega, by rw [any_take hq, k2, hin]; rfl⟩, by omega, sub_rb [some 0, some 1, some 2, some 3] rfl (by simp) (by simp)⟩
  · skip
    try simp at hc0
    have hall := any_of_take (by omega) k2
    have hb : bothB s t (x.Half + x.Swing + y.Half + y.Swing) = false := hall
    refine awp_exit ?_
    simp only [thenA, inBlockA, reduceIte, Nat.reduceEqDiff, eq_self]
    refine hK1 _ _ ?_
    refine awp_prune [] ?_
    simp only [prune, List.map_cons, List.map_nil, Go.AM.look, Nat.reduceEqDiff, reduceIte]
    refine awp_sr rfl fun K hK => ?_
    simp -dsimp
    refine hK _ _ ?_; clear hK K
    exact awp_ret (by simp [hb])

def testFs : List FuncId := [69, 70, 71, 72]
def testBs (s : SS) (x : Profile) (t : SS) (y : Profile) : List Bool := [decide (apart s.a s.b t.a t.b (x.Half + y.Half) ≤ 0), swungB s t (x.Half + x.Swing + y.Half), swungB t s (y.Half + y.Swing + x.Half), bothB s t (x.Half + x.Swing + y.Half + y.Swing)]
theorem testBs_foul (s : SS) (x : Profile) (t : SS) (y : Profile) : (testBs s x t y).any id = foulB s x t y := by simp [testBs, foulB]

theorem c_tests : PureCall Tryz.prog 50 [] (.full 1 (testFs.map fun f => [.clo f []])) := by
  refine PureCall.of_body Tryz.func50 rfl (by decide) (by simp [Tryz.ntmps50]) ?_
  simp only [Tryz.ntmps50, Tryz.results50]
  refine awp_sr rfl fun K hK => ?_
  simp -dsimp
  refine hK _ _ ?_; clear hK K
  refine awp_sr rfl fun K hK => ?_
  simp -dsimp
  refine hK _ _ ?_; clear hK K
  exact awp_ret (by simp [testFs])

theorem c_test (s t : SS) (x y : Profile) (hs : s.Ok) (ht : t.Ok) (hx : profB x = true) (hy : profB y = true) {k : Nat} {f : FuncId} {b : Bool} (hf : testFs[k]? = some f) (hb : (testBs s x t y)[k]? = some b) :
    PureCall Tryz.prog f [s.av, x.av, t.av, y.av] (Bo b) := by
  match k, hf, hb with
  | 0, hf, hb => simp [testFs, testBs] at hf hb; subst hf hb; exact c_near s t x y hs ht hx hy
  | 1, hf, hb => simp [testFs, testBs] at hf hb; subst hf hb; exact c_swung s t x y hs ht hx hy
  | 2, hf, hb => simp [testFs, testBs] at hf hb; subst hf hb; exact c_tests1 s t x y hs ht hx hy
  | 3, hf, hb => simp [testFs, testBs] at hf hb; subst hf hb; exact c_both s t x y hs ht hx hy
  | k + 4, hf, hb => simp [testFs] at hf

theorem c_foul (s t : SS) (x y : Profile) (hs : s.Ok) (ht : t.Ok) (hx : profB x = true) (hy : profB y = true) : PureCall Tryz.prog 29 [s.av, x.av, t.av, y.av] (Bo (foulB s x t y)) := by
  have hfl : testFs.length = 4 := rfl
  have hbl : (testBs s x t y).length = 4 := rfl
  refine PureCall.of_body Tryz.func29 rfl (by decide) (by simp [Tryz.ntmps29]) ?_
  simp only [Tryz.ntmps29, Tryz.results29]
  refine awp_sr rfl fun K hK => ?_
  simp -dsimp
  refine hK _ _ ?_; clear hK K
  refine awp_scope ?_
  refine awp_sr rfl fun K hK => ?_
  simp -dsimp
  refine hK _ _ ?_; clear hK K
  refine awp_sl ?_
  refine awp_seq_k fun K1 hK1 => ?_
  refine awp_sr rfl fun K hK => ?_
  simp -dsimp [hfl]
  refine callK_intro _ (c_tests) (by simp) ?_
  simp -dsimp [hfl]
  refine hK _ _ ?_; clear hK K
  refine awp_block ?_
  refine awp_prune [4, 5, 6, 7, 9, 12, 13, 14] ?_
  simp only [prune, List.map_cons, List.map_nil, Go.AM.look, Nat.reduceEqDiff, reduceIte]
  refine awp_loop_l [4, 5, 6, 7, 12, 13] (α := Nat) (fun k => [(14, I k), (9, Bo false)]) (fun _ => [some (.els 9 [s.cells]), some (.els 2 [x.cells]), some (.els 9 [t.cells]), some (.els 2 [y.cells])]) (fun k => k ≤ 4 ∧ ((testBs s x t y).take k).any id = false) (fun k => 4 - k) 0 ?_ ?_ ?_
  · simp
  · exact sub_same (by simp)
  rintro k ⟨k1, k2⟩
  simp only [List.cons_append, List.nil_append, prune, List.map_cons, List.map_nil, Go.AM.look, Nat.reduceEqDiff, reduceIte]
  refine awp_sr rfl fun K hK => ?_
  simp -dsimp
  refine hK _ _ ?_; clear hK K
  refine awp_seq_k fun K2 hK2 => ?_
  refine awp_cond rfl (fun hc0 => ?_) (fun hc0 => ?_)
  · skip
    try simp at hc0
    obtain ⟨f, hf⟩ : ∃ f, testFs[k]? = some f := ⟨_, List.getElem?_eq_getElem (by omega)⟩
    obtain ⟨b, hb⟩ : ∃ b, (testBs s x t y)[k]? = some b := ⟨_, List.getElem?_eq_getElem (by omega)⟩
    have wk : IntKind.i64.wrap ((k : Int) + 1) = (k : Int) + 1 := wrap_in (by omega) (by omega)
    refine awp_skip ?_
    simp only [thenA, inBlockA, noGotoA, reduceIte, Nat.reduceEqDiff, eq_self]
    refine hK2 _ _ ?_
    refine awp_prune [4, 5, 6, 7, 9, 12, 13, 14] ?_
    simp only [prune, List.map_cons, List.map_nil, Go.AM.look, Nat.reduceEqDiff, reduceIte]
    refine awp_seq_k fun K3 hK3 => ?_
    refine awp_block ?_
    refine awp_sr rfl fun K hK => ?_
    simp -dsimp [hf]
    refine hK _ _ ?_; clear hK K
    refine awp_sr rfl fun K hK => ?_
    simp -dsimp
    refine callK_intro _ (c_test s t x y hs ht hx hy hf hb) (by simp) ?_
    simp -dsimp
    refine hK _ _ ?_; clear hK K
    refine awp_cond rfl (fun hc1 => ?_) (fun hc1 => ?_)
    · skip
      try simp at hc1
      have hv : foulB s x t y = true := by rw [← testBs_foul, List.any_eq_true]; exact ⟨b, List.mem_of_getElem? hb, by simpa using hc1⟩
      refine awp_sr rfl fun K hK => ?_
      simp -dsimp
      refine hK _ _ ?_; clear hK K
      refine awp_exit ?_
      simp only [thenA, inBlockA, noGotoA, reduceIte, Nat.reduceEqDiff, eq_self]
      refine hK1 _ _ ?_
      refine awp_prune [9] ?_
      simp only [prune, List.map_cons, List.map_nil, Go.AM.look, Nat.reduceEqDiff, reduceIte]
      refine awp_sr rfl fun K hK => ?_
      simp -dsimp
      refine hK _ _ ?_; clear hK K
      exact awp_ret (by simp [hv])
    · skip
      try simp at hc1
      refine awp_skip ?_
      simp only [thenA, inBlockA, noGotoA, reduceIte, Nat.reduceEqDiff, eq_self]
      refine hK3 _ _ ?_
      refine awp_prune [4, 5, 6, 7, 9, 12, 13, 14] ?_
      simp only [prune, List.map_cons, List.map_nil, Go.AM.look, Nat.reduceEqDiff, reduceIte]
      refine awp_r rfl fun K hK => ?_
      simp -dsimp [wk]
      refine hK _ _ ?_; clear hK K
      simp only [thenA, inBlockA, noGotoA, reduceIte, Nat.reduceEqDiff, eq_self]
      exact ⟨k + 1, ⟨by omega, by rw [any_take hb, k2, hc1]; rfl⟩, by omega, sub_rb [some 0, some 1, some 2, some 3] rfl (by simp) (by simp)⟩
  · skip
    try simp at hc0
    have hv : foulB s x t y = false := by rw [← testBs_foul]; exact any_of_take (by omega) k2
    refine awp_exit ?_
    simp only [thenA, inBlockA, noGotoA, reduceIte, Nat.reduceEqDiff, eq_self]
    refine hK1 _ _ ?_
    refine awp_prune [9] ?_
    simp only [prune, List.map_cons, List.map_nil, Go.AM.look, Nat.reduceEqDiff, reduceIte]
    refine awp_sr rfl fun K hK => ?_
    simp -dsimp
    refine hK _ _ ?_; clear hK K
    exact awp_ret (by simp [hv])
end Go.Tram
