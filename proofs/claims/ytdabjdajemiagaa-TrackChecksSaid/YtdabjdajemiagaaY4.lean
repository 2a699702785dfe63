/- Walks: what a car covers. -/
import Derived.Test.YtdabjdajemiagaaY3
namespace Go.Tram
open Go.AM Go.Proofs
set_option maxRecDepth 10000
set_option maxHeartbeats 4000000
set_option linter.unusedVariables false
set_option linter.unusedSimpArgs false

def mvAt (l : List Move) (i : Nat) : Move := l[i]?.getD default
/-- The length of the first moves of a way. -/
def begTo (p : Plan) (l : List Move) : Nat → Int
  | 0 => 0
  | i + 1 => begTo p l i + p.len (mvAt l i).Rail
def cvF (front long beg : Int) : Int := if front - long - beg < 0 then 0 else front - long - beg
def cvT (front beg L : Int) : Int := if L < front - beg then L else front - beg
def cvStep (p : Plan) (front long beg : Int) (m : Move) : List Cover :=
  if cvT front beg (p.len m.Rail) ≤ cvF front long beg then []
  else if m.Back then [⟨m.Rail, p.len m.Rail - cvT front beg (p.len m.Rail), p.len m.Rail - cvF front long beg⟩] else [⟨m.Rail, cvF front long beg, cvT front beg (p.len m.Rail)⟩]
def cvTo (p : Plan) (l : List Move) (front long : Int) (n : Nat) : List Cover := (List.range n).flatMap fun i => cvStep p front long (begTo p l i) (mvAt l i)
theorem cvTo_succ (p : Plan) (l : List Move) (front long : Int) (n : Nat) : cvTo p l front long (n + 1) = cvTo p l front long n ++ cvStep p front long (begTo p l n) (mvAt l n) := by
  simp only [cvTo, List.range_succ, List.flatMap_append, List.flatMap_cons, List.flatMap_nil, List.append_nil]
theorem cvTo_len (p : Plan) (l : List Move) (front long : Int) (n : Nat) : (cvTo p l front long n).length ≤ n := by
  induction n with
  | zero => simp [cvTo]
  | succ n ih =>
    rw [cvTo_succ, List.length_append]
    have : (cvStep p front long (begTo p l n) (mvAt l n)).length ≤ 1 := by unfold cvStep; split <;> (try split) <;> simp
    omega
theorem len_bd {p : Plan} (hv : validB p = true) {r : Int} (h0 : 0 ≤ r) (h1 : r < p.Rails.length) : 1 ≤ p.len r ∧ p.len r ≤ 31000000 := by
  have ro := rail_ok hv h0 h1
  have hl := ro.len
  have hs := ro.s
  have h := sumTo_bd ro ((p.rail r).Shape.length + 1) (by omega)
  unfold Plan.len
  omega
theorem way_mov {p : Plan} {l : List Move} (h : wayB p l = true) : ∀ i, i < l.length → movB p (mvAt l i) = true := by
  intro i hi
  have := (Bool.and_eq_true_iff.1 h).1
  exact (Bool.and_eq_true_iff.1 (allR_at this hi)).1
theorem way_len {p : Plan} {l : List Move} (h : wayB p l = true) : 1 ≤ l.length ∧ l.length ≤ 2000 := by
  have := inr_iff.1 (Bool.and_eq_true_iff.1 h).2
  omega
theorem begTo_bd {p : Plan} {l : List Move} (hv : validB p = true) (h : wayB p l = true) : ∀ i, i ≤ l.length → 0 ≤ begTo p l i ∧ begTo p l i ≤ 31000000 * i
  | 0, _ => by simp [begTo]
  | i + 1, hi => by
    have h1 := begTo_bd hv h i (by omega)
    have h2 := movB_iff.1 (way_mov h i (by omega))
    have h3 := len_bd hv h2.1 h2.2
    simp only [begTo]
    omega

theorem c_wayLength (p : Plan) (l : List Move) (hv : validB p = true) (hw : wayB p l = true) : PureCall Try.prog 42 [.iptr (net p), .lst 2 (l.map Move.cells)] (I (begTo p l l.length)) := by
  have hl := way_len hw
  unfold net
  refine PureCall.of_body Try.func42 rfl (by decide) (by simp [Try.ntmps42]) ?_
  simp only [Try.ntmps42, Try.results42]
  refine awp_sr rfl fun K hK => ?_
  simp -dsimp
  refine hK _ _ ?_; clear hK K
  refine awp_sr rfl fun K hK => ?_
  simp -dsimp
  refine hK _ _ ?_; clear hK K
  refine awp_seq_k fun K1 hK1 => ?_
  refine awp_sr rfl fun K hK => ?_
  simp -dsimp
  refine hK _ _ ?_; clear hK K
  refine awp_block ?_
  refine awp_prune [0, 5, 8, 9, 10] ?_
  simp only [prune, List.map_cons, List.map_nil, Go.AM.look, Nat.reduceEqDiff, reduceIte]
  refine awp_loop_l [0, 8, 9] (α := Nat) (fun i => [(10, I i), (5, I (begTo p l i))]) (fun i => []) (fun i => i ≤ l.length) (fun i => l.length - i) 0 ?_ ?_ ?_
  · simp
  · exact sub_same (by simp [begTo])
  rintro i i1
  simp only [List.cons_append, List.nil_append, prune, List.map_cons, List.map_nil, Go.AM.look, Nat.reduceEqDiff, reduceIte]
  refine awp_sr rfl fun K hK => ?_
  simp -dsimp
  refine hK _ _ ?_; clear hK K
  refine awp_seq_k fun K2 hK2 => ?_
  refine awp_cond rfl (fun hc0 => ?_) (fun hc0 => ?_)
  · skip
    try simp at hc0
    obtain ⟨m, hgm⟩ : ∃ m, l[i]? = some m := ⟨_, List.getElem?_eq_getElem hc0⟩
    have wi : IntKind.i64.wrap ((i : Int) + 1) = (i : Int) + 1 := wrap_in (by omega) (by omega)
    have hma : mvAt l i = m := by simp [mvAt, hgm]
    have hmv := way_mov hw i hc0
    have hb1 := begTo_bd hv hw (i + 1) (by omega)
    have hbs : begTo p l (i + 1) = begTo p l i + p.len m.Rail := by simp only [begTo]; rw [hma]
    rw [hma] at hmv
    have hmr := movB_iff.1 hmv
    have hlg : (lensA p p.Rails.length)[m.Rail.toNat]? = some [I (p.len m.Rail)] := by rw [lensA_get (by omega), show ((m.Rail.toNat : Nat) : Int) = m.Rail by omega]
    have ws : IntKind.i64.wrap (begTo p l i + p.len m.Rail) = begTo p l (i + 1) := by rw [← hbs]; exact wrap_in (by omega) (by omega)
    refine awp_skip ?_
    simp only [thenA, inBlockA, reduceIte, Nat.reduceEqDiff, eq_self]
    refine hK2 _ _ ?_
    refine awp_prune [0, 5, 8, 9, 10] ?_
    simp only [prune, List.map_cons, List.map_nil, Go.AM.look, Nat.reduceEqDiff, reduceIte]
    refine awp_seq_k fun K3 hK3 => ?_
    refine awp_block ?_
    refine awp_sr rfl fun K hK => ?_
    simp -dsimp [hgm]
    refine hK _ _ ?_; clear hK K
    refine awp_draw mixed rfl fun K hK => ?_
    simp -dsimp [hlg, ws, hmr.1]
    refine hK _ _ _ (by decide +kernel) ?_; clear hK K
    simp only [thenA, inBlockA, reduceIte, Nat.reduceEqDiff, eq_self]
    refine hK3 _ _ ?_
    refine awp_prune [0, 5, 8, 9, 10] ?_
    simp only [prune, List.map_cons, List.map_nil, Go.AM.look, Nat.reduceEqDiff, reduceIte]
    refine awp_r rfl fun K hK => ?_
    simp -dsimp [wi]
    refine hK _ _ ?_; clear hK K
    simp only [thenA, inBlockA, reduceIte, Nat.reduceEqDiff, eq_self]
    exact ⟨i + 1, by omega, by omega, sub_rb [] rfl (by simp) (by simp)⟩
  · skip
    try simp at hc0
    have hie : i = l.length := by omega
    subst hie
    refine awp_exit ?_
    simp only [thenA, inBlockA, reduceIte, Nat.reduceEqDiff, eq_self]
    refine hK1 _ _ ?_
    refine awp_prune [5] ?_
    simp only [prune, List.map_cons, List.map_nil, Go.AM.look, Nat.reduceEqDiff, reduceIte]
    refine awp_sr rfl fun K hK => ?_
    simp -dsimp
    refine hK _ _ ?_; clear hK K
    exact awp_ret (by simp)

theorem c_tCovers_f (p : Plan) (l : List Move) (front long : Int) (hv : validB p = true) (hn : l.length ≤ 100000) (h : (wayB p l && (decide (1 ≤ long) && (decide (long ≤ front) && decide (front ≤ begTo p l l.length)))) = false) :
    PureCall Try.prog 16 [p.av, .lst 2 (l.map Move.cells), I front, I long] (.tup [.v (.slice none 0 0), I 2]) := by
  have hop := c_open_t p hv
  have hw := c_way p l hv hn
  have hwl := c_wayLength p l hv
  generalize net p = sh at hop hw hwl
  refine PureCall.of_body Try.func16 rfl (by decide) (by simp [Try.ntmps16]) ?_
  simp only [Try.ntmps16, Try.results16]
  refine awp_sr rfl fun K hK => ?_
  simp -dsimp
  refine hK _ _ ?_; clear hK K
  refine awp_sr rfl fun K hK => ?_
  simp -dsimp
  refine callK_intro _ (hop) (by simp) ?_
  simp -dsimp
  refine hK _ _ ?_; clear hK K
  refine awp_seq_k fun K1 hK1 => ?_
  refine awp_sr rfl fun K hK => ?_
  simp -dsimp
  refine callK_may _ (fun hm => hw) (by simp) ?_
  simp -dsimp
  refine callK_may _ (fun hm => (hwl (by simp at hm; exact hm.1.1))) (by simp) ?_
  simp -dsimp
  refine hK _ _ ?_; clear hK K
  refine awp_cond rfl (fun hc0 => ?_) (fun hc0 => ?_)
  · skip
    skip
    refine awp_sr rfl fun K hK => ?_
    simp -dsimp
    refine hK _ _ ?_; clear hK K
    exact awp_ret (by simp)
  · skip
    skip
    exfalso; simp at hc0; simp [hc0] at h

theorem c_tCovers_t (p : Plan) (l : List Move) (front long : Int) (hv : validB p = true) (hw : wayB p l = true) (h1 : 1 ≤ long) (h2 : long ≤ front) (h3 : front ≤ begTo p l l.length) :
    PureCall Try.prog 16 [p.av, .lst 2 (l.map Move.cells), I front, I long] (.tup [.lst 3 ((cvTo p l front long l.length).map Cover.cells), I 0]) := by
  have hl := way_len hw
  have hop := c_open_t p hv
  have hwy := c_way p l hv (by omega)
  have hwl := c_wayLength p l hv hw
  rw [hw] at hwy
  have hbl := begTo_bd hv hw l.length (Nat.le_refl _)
  unfold net at hop hwy hwl
  refine PureCall.of_body Try.func16 rfl (by decide) (by simp [Try.ntmps16]) ?_
  simp only [Try.ntmps16, Try.results16]
  refine awp_sr rfl fun K hK => ?_
  simp -dsimp
  refine hK _ _ ?_; clear hK K
  refine awp_sr rfl fun K hK => ?_
  simp -dsimp
  refine callK_intro _ (hop) (by simp) ?_
  simp -dsimp
  refine hK _ _ ?_; clear hK K
  refine awp_seq_k fun K1 hK1 => ?_
  refine awp_sr rfl fun K hK => ?_
  simp -dsimp
  refine callK_may _ (fun hm => hwy) (by simp) ?_
  simp -dsimp
  refine callK_may _ (fun hm => hwl) (by simp) ?_
  simp -dsimp
  refine hK _ _ ?_; clear hK K
  refine awp_cond rfl (fun hc0 => ?_) (fun hc0 => ?_)
  · skip
    skip
    simp at hc0; omega
  · skip
    skip
    refine awp_skip ?_
    simp only [thenA, inBlockA, reduceIte, Nat.reduceEqDiff, eq_self]
    refine hK1 _ _ ?_
    refine awp_prune [1, 2, 3, 10] ?_
    simp only [prune, List.map_cons, List.map_nil, Go.AM.look, Nat.reduceEqDiff, reduceIte]
    refine awp_sr rfl fun K hK => ?_
    simp -dsimp
    refine hK _ _ ?_; clear hK K
    refine awp_sr rfl fun K hK => ?_
    simp -dsimp
    refine hK _ _ ?_; clear hK K
    refine awp_seq_k fun K2 hK2 => ?_
    refine awp_sr rfl fun K hK => ?_
    simp -dsimp
    refine hK _ _ ?_; clear hK K
    refine awp_block ?_
    refine awp_prune [2, 3, 10, 12, 13, 48, 49, 50] ?_
    simp only [prune, List.map_cons, List.map_nil, Go.AM.look, Nat.reduceEqDiff, reduceIte]
    refine awp_loop_l [2, 3, 10, 48, 49] (α := Nat) (fun i => [(50, I i), (13, I (begTo p l i)), (12, .row 1 0 (cvTo p l front long i).length)]) (fun i => [some (.els 2 [p.cells]), some (.els 3 ((cvTo p l front long i).map Cover.cells))]) (fun i => i ≤ l.length) (fun i => l.length - i) 0 ?_ ?_ ?_
    · simp
    · exact (sub_nil 12 3 (by simp)).trans (sub_rb [some 0, some 1] rfl (by simp [cvTo, begTo]) (by simp [cvTo]))
    rintro i i1
    have hcl := cvTo_len p l front long i
    have hcs := cvTo_succ p l front long i
    simp only [List.cons_append, List.nil_append, prune, List.map_cons, List.map_nil, Go.AM.look, Nat.reduceEqDiff, reduceIte]
    refine awp_sr rfl fun K hK => ?_
    simp -dsimp
    refine hK _ _ ?_; clear hK K
    refine awp_seq_k fun K3 hK3 => ?_
    refine awp_cond rfl (fun hc1 => ?_) (fun hc1 => ?_)
    · skip
      try simp at hc1
      obtain ⟨m, hgm⟩ : ∃ m, l[i]? = some m := ⟨_, List.getElem?_eq_getElem hc1⟩
      have wi : IntKind.i64.wrap ((i : Int) + 1) = (i : Int) + 1 := wrap_in (by omega) (by omega)
      have hma : mvAt l i = m := by simp [mvAt, hgm]
      have hmv := way_mov hw i hc1
      have hb0 := begTo_bd hv hw i (by omega)
      have hb1 := begTo_bd hv hw (i + 1) (by omega)
      have hbs : begTo p l (i + 1) = begTo p l i + p.len m.Rail := by simp only [begTo]; rw [hma]
      rw [hma] at hmv hcs
      have hmr := movB_iff.1 hmv
      have hlb := len_bd hv hmr.1 hmr.2
      have hlg : (lensA p p.Rails.length)[m.Rail.toNat]? = some [I (p.len m.Rail)] := by rw [lensA_get (by omega), show ((m.Rail.toNat : Nat) : Int) = m.Rail by omega]
      generalize hB : begTo p l i = B at hb0 hbs hcs ⊢
      have ws : IntKind.i64.wrap (B + p.len m.Rail) = begTo p l (i + 1) := by rw [← hbs]; exact wrap_in (by omega) (by omega)
      have wa : IntKind.i64.wrap (front - long) = front - long := wrap_in (by omega) (by omega)
      have wb : IntKind.i64.wrap (front - long - B) = front - long - B := wrap_in (by omega) (by omega)
      have wc : IntKind.i64.wrap (front - B) = front - B := wrap_in (by omega) (by omega)
      have hF : (if front - long - B < 0 then 0 else front - long - B) = cvF front long B := rfl
      have hT : (if p.len m.Rail < front - B then p.len m.Rail else front - B) = cvT front B (p.len m.Rail) := rfl
      have hFb : 0 ≤ cvF front long B ∧ cvF front long B ≤ 100000000000 := by unfold cvF; split <;> omega
      have hTb : -100000000000 ≤ cvT front B (p.len m.Rail) ∧ cvT front B (p.len m.Rail) ≤ 100000000000 := by unfold cvT; split <;> omega
      generalize hO : cvTo p l front long i = O at hcl hcs ⊢
      have f1 : Fits (O.length + 1) 25 := fits_of (by omega) (by omega)
      have hot := cov_take O
      unfold cvStep at hcs
      generalize cvF front long B = F at hF hFb hcs
      generalize cvT front B (p.len m.Rail) = TT at hT hTb hcs
      have wd : IntKind.i64.wrap (p.len m.Rail - TT) = p.len m.Rail - TT := wrap_in (by omega) (by omega)
      have we : IntKind.i64.wrap (p.len m.Rail - F) = p.len m.Rail - F := wrap_in (by omega) (by omega)
      refine awp_skip ?_
      simp only [thenA, inBlockA, reduceIte, Nat.reduceEqDiff, eq_self]
      refine hK3 _ _ ?_
      refine awp_prune [2, 3, 10, 12, 13, 48, 49, 50] ?_
      simp only [prune, List.map_cons, List.map_nil, Go.AM.look, Nat.reduceEqDiff, reduceIte]
      refine awp_seq_k fun K4 hK4 => ?_
      refine awp_block ?_
      refine awp_sr rfl fun K hK => ?_
      simp -dsimp [hgm]
      refine hK _ _ ?_; clear hK K
      refine awp_sd mixed rfl fun K hK => ?_
      simp -dsimp [hlg, hmr.1]
      refine hK _ _ _ (by decide +kernel) ?_; clear hK K
      refine awp_sr rfl fun K hK => ?_
      simp -dsimp [wa, wb, wc, hF, hT]
      refine hK _ _ ?_; clear hK K
      refine awp_sr rfl fun K hK => ?_
      simp -dsimp [ws]
      refine hK _ _ ?_; clear hK K
      refine awp_seq_k fun K5 hK5 => ?_
      refine awp_sr rfl fun K hK => ?_
      simp -dsimp
      refine hK _ _ ?_; clear hK K
      refine awp_cond rfl (fun hc2 => ?_) (fun hc2 => ?_)
      · skip
        try simp at hc2
        rw [if_pos hc2, List.append_nil] at hcs
        refine awp_exit ?_
        simp only [thenA, inBlockA, reduceIte, Nat.reduceEqDiff, eq_self]
        refine hK4 _ _ ?_
        refine awp_prune [2, 3, 10, 12, 13, 48, 49, 50] ?_
        simp only [prune, List.map_cons, List.map_nil, Go.AM.look, Nat.reduceEqDiff, reduceIte]
        refine awp_r rfl fun K hK => ?_
        simp -dsimp [wi]
        refine hK _ _ ?_; clear hK K
        simp only [thenA, inBlockA, reduceIte, Nat.reduceEqDiff, eq_self]
        exact ⟨i + 1, by omega, by omega, sub_rb [some 0, some 1] rfl (by simp [hcs]) (by simp [hcs])⟩
      · skip
        try simp at hc2
        rw [if_neg (by omega)] at hcs
        refine awp_skip ?_
        simp only [thenA, inBlockA, reduceIte, Nat.reduceEqDiff, eq_self]
        refine hK5 _ _ ?_
        refine awp_prune [2, 3, 10, 12, 13, 15, 16, 17, 18, 48, 49, 50] ?_
        simp only [prune, List.map_cons, List.map_nil, Go.AM.look, Nat.reduceEqDiff, reduceIte]
        refine awp_seq_k fun K6 hK6 => ?_
        refine awp_sr rfl fun K hK => ?_
        simp -dsimp
        refine hK _ _ ?_; clear hK K
        refine awp_cond rfl (fun hc3 => ?_) (fun hc3 => ?_)
        · skip
          try simp at hc3
          rw [hc3, if_pos rfl] at hcs
          refine awp_r rfl fun K hK => ?_
          simp -dsimp [wd, we]
          refine hK _ _ ?_; clear hK K
          simp only [thenA, inBlockA, reduceIte, Nat.reduceEqDiff, eq_self]
          refine hK6 _ _ ?_
          refine awp_prune [2, 3, 10, 12, 13, 15, 17, 18, 48, 49, 50] ?_
          simp only [prune, List.map_cons, List.map_nil, Go.AM.look, Nat.reduceEqDiff, reduceIte]
          refine awp_r rfl fun K hK => ?_
          simp -dsimp [f1]
          refine hK _ _ ?_; clear hK K
          simp only [thenA, inBlockA, reduceIte, Nat.reduceEqDiff, eq_self]
          refine hK4 _ _ ?_
          refine awp_prune [2, 3, 10, 12, 13, 48, 49, 50] ?_
          simp only [prune, List.map_cons, List.map_nil, Go.AM.look, Nat.reduceEqDiff, reduceIte]
          refine awp_r rfl fun K hK => ?_
          simp -dsimp [wi]
          refine hK _ _ ?_; clear hK K
          simp only [thenA, inBlockA, reduceIte, Nat.reduceEqDiff, eq_self]
          exact ⟨i + 1, by omega, by omega, sub_rb [some 0, some 3] rfl (by simp [hcs]) (by simp [hcs, hot])⟩
        · skip
          try simp at hc3
          rw [hc3, if_neg (by simp)] at hcs
          refine awp_skip ?_
          simp only [thenA, inBlockA, reduceIte, Nat.reduceEqDiff, eq_self]
          refine hK6 _ _ ?_
          refine awp_prune [2, 3, 10, 12, 13, 15, 17, 18, 48, 49, 50] ?_
          simp only [prune, List.map_cons, List.map_nil, Go.AM.look, Nat.reduceEqDiff, reduceIte]
          refine awp_r rfl fun K hK => ?_
          simp -dsimp [f1]
          refine hK _ _ ?_; clear hK K
          simp only [thenA, inBlockA, reduceIte, Nat.reduceEqDiff, eq_self]
          refine hK4 _ _ ?_
          refine awp_prune [2, 3, 10, 12, 13, 48, 49, 50] ?_
          simp only [prune, List.map_cons, List.map_nil, Go.AM.look, Nat.reduceEqDiff, reduceIte]
          refine awp_r rfl fun K hK => ?_
          simp -dsimp [wi]
          refine hK _ _ ?_; clear hK K
          simp only [thenA, inBlockA, reduceIte, Nat.reduceEqDiff, eq_self]
          exact ⟨i + 1, by omega, by omega, sub_rb [some 0, some 3] rfl (by simp [hcs]) (by simp [hcs, hot])⟩
    · skip
      try simp at hc1
      have hie : i = l.length := by omega
      subst hie
      refine awp_exit ?_
      simp only [thenA, inBlockA, reduceIte, Nat.reduceEqDiff, eq_self]
      refine hK2 _ _ ?_
      refine awp_prune [12] ?_
      simp only [prune, List.map_cons, List.map_nil, Go.AM.look, Nat.reduceEqDiff, reduceIte]
      refine awp_sr rfl fun K hK => ?_
      simp -dsimp
      refine hK _ _ ?_; clear hK K
      exact awp_ret (by simp [cov_take])
end Go.Tram
