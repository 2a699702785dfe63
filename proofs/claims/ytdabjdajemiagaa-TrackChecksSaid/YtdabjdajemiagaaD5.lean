/- Walks: the distances to a move. -/
import Derived.Test.YtdabjdajemiagaaD4
namespace Go.Tram
open Go.AM Go.Proofs
set_option maxRecDepth 10000
set_option maxHeartbeats 4000000
set_option linter.unusedVariables false
set_option linter.unusedSimpArgs false

theorem c_before (p : Plan) (x : Int) : PureCall Try.prog 59 [.iptr (net p), I x] (.clo 71 [.iptr [.iptr (net p)], .iptr [I x]]) := by
  generalize net p = sh
  refine PureCall.of_body Try.func59 rfl (by decide) (by simp [Try.ntmps59]) ?_
  simp only [Try.ntmps59, Try.results59]
  refine awp_sr rfl fun K hK => ?_
  simp -dsimp
  refine hK _ _ ?_; clear hK K
  refine awp_sr rfl fun K hK => ?_
  simp -dsimp
  refine hK _ _ ?_; clear hK K
  exact awp_ret (by simp)

/-- The best one, taken out of a list of which nothing more is known. -/
theorem m_best1 (q : List Fnd) (h : q ≠ []) (hb : q.length ≤ 900000) :
    MutCall Try.prog 113 [.ptr 0 0 0] [hrow 1 q.length] [frow q] (popX q).av [hrow 1 (q.length - 1)] [frow (popE q q.length), frow [popX q]] :=
  m_best q q.length (List.length_pos_iff.2 h) (Nat.le_refl _) hb
theorem m_hPush1 (q : List Fnd) (x : Fnd) (hb : q.length ≤ 900000) :
    MutCall Try.prog 60 [qAV, fAV x] [hrow 1 q.length] [frow q] (.tup []) [hrow 1 (q.length + 1)] [frow (pushL ltF q x)] := by
  have h := m_hPush q q.length x (Nat.le_refl _) hb
  rwa [List.take_length] at h

theorem c_lLenQ (q : List Fnd) : PureCall Try.prog 109 [.lst 3 (List.take q.length (q.map Fnd.cells))] (I q.length) := by
  rw [List.take_of_length_le (by simp)]; exact c_lLen q
abbrev irow (l : List Int) : Option ARow := some (.els 1 (l.map nCell))
abbrev dRows (p : Plan) (s : DSt) : Hp := [some (.els 1 [[.iptr (net p)]]), irow s.ln, irow s.mv, frow s.q, hrow 3 s.q.length, some (.els 1 [[.ifc 114 (.ptr 4 0 0)]])]

theorem c_distances (p : Plan) (to : Int) (hv : validB p = true) (h0 : 0 ≤ to) (h1 : to < 2 * p.Rails.length) :
    PureCall Try.prog 43 [.iptr (net p), I to] (.tup [.lst 1 ((dEnd p to).ln.map nCell), .lst 1 ((dEnd p to).mv.map nCell)]) := by
  have hR := (valid_parts hv).2.1
  have w2 : IntKind.i64.wrap (2 * (p.Rails.length : Int)) = 2 * (p.Rails.length : Int) := wrap_in (by omega) (by omega)
  have wt : (2 * (p.Rails.length : Int)).toNat = 2 * p.Rails.length := by omega
  have f1 : Fits (2 * p.Rails.length) 9 := fits_of (by omega) (by omega)
  have w0 : 0 ≤ 2 * (p.Rails.length : Int) := by omega
  refine PureCall.of_bodyG Try.func43 rfl (by decide) (by simp [Try.ntmps43]) ?_
  intro J hJ
  simp only [Try.ntmps43, Try.results43]
  refine gwp_sr rfl (by decide) rfl rfl fun K hK => ?_
  simp -dsimp
  refine hK _ _ ?_; clear hK K
  refine gwp_sd mixed rfl (by decide) rfl rfl fun K hK => ?_
  simp -dsimp [w2, wt, f1, w0, net]
  refine hK _ _ _ (by decide +kernel) ?_; clear hK K
  refine gwp_seq_k fun K1 hK1 => ?_
  refine gwp_sr rfl (by decide) rfl rfl fun K hK => ?_
  simp -dsimp
  refine hK _ _ ?_; clear hK K
  refine gwp_block ?_
  refine gwp_prune [1, 2, 6, 7, 29, 30] (Or.inr (by simp)) ?_
  simp only [prune, List.map_cons, List.map_nil, Go.AM.look, Nat.reduceEqDiff, reduceIte]
  refine gwp_loop_l [1, 2, 6, 7, 29] (α := Nat) (fun k => [(30, I k)]) (fun k => [some (.els 1 [[.iptr (net p)]]), irow (List.replicate k (-1) ++ List.replicate (2 * p.Rails.length - k) 0), irow (List.replicate (2 * p.Rails.length) 0)]) (fun k => k ≤ 2 * p.Rails.length) (fun k => 2 * p.Rails.length - k) 0 ?_ ?_ ?_
  · simp
  · exact gsub (sub_rb [some 0, some 1, some 2] rfl (by simp) (by simp [net])) (by simp)
  rintro k k1
  simp only [List.cons_append, List.nil_append, prune, List.map_cons, List.map_nil, Go.AM.look, Nat.reduceEqDiff, reduceIte]
  refine gwp_sr rfl (by decide) rfl rfl fun K hK => ?_
  simp -dsimp
  refine hK _ _ ?_; clear hK K
  refine gwp_seq_k fun K2 hK2 => ?_
  refine gwp_cond rfl (fun hc0 => ?_) (fun hc0 => ?_)
  · skip
    try simp at hc0
    have hk : k < 2 * p.Rails.length := by omega
    have wk : IntKind.i64.wrap ((k : Int) + 1) = (k : Int) + 1 := wrap_in (by omega) (by omega)
    have hg0 : (List.replicate k [I (-1)] ++ List.replicate (2 * p.Rails.length - k) [I 0])[k]? = some [I 0] := by rw [List.getElem?_append_right (by simp), List.length_replicate, Nat.sub_self, List.getElem?_replicate, if_pos (by omega)]
    have hs0 : List.replicate k [I (-1)] ++ (List.replicate (2 * p.Rails.length - k) [I 0]).set 0 [I (-1)] = List.replicate (k + 1) [I (-1)] ++ List.replicate (2 * p.Rails.length - (k + 1)) [I 0] := by
      obtain ⟨m, hm⟩ : ∃ m, 2 * p.Rails.length - k = m + 1 := ⟨2 * p.Rails.length - k - 1, by omega⟩
      rw [hm, show 2 * p.Rails.length - (k + 1) = m by omega, List.replicate_succ' (n := k), List.append_assoc]; simp [List.replicate_succ]
    refine gwp_skip ?_
    simp only [thenA, inBlockA, reduceIte, Nat.reduceEqDiff, eq_self]
    refine hK2 _ _ ?_
    refine gwp_prune [1, 2, 6, 7, 29, 30] (Or.inr (by simp)) ?_
    simp only [prune, List.map_cons, List.map_nil, Go.AM.look, Nat.reduceEqDiff, reduceIte]
    refine gwp_seq_k fun K3 hK3 => ?_
    refine gwp_block ?_
    refine gwp_sr rfl (by decide) rfl rfl fun K hK => ?_
    simp -dsimp
    refine hK _ _ ?_; clear hK K
    refine gwp_r rfl (by decide) rfl rfl fun K hK => ?_
    simp -dsimp [hk, hg0]
    refine hK _ _ ?_; clear hK K
    simp only [thenA, inBlockA, reduceIte, Nat.reduceEqDiff, eq_self]
    refine hK3 _ _ ?_
    refine gwp_prune [1, 2, 6, 7, 29, 30] (Or.inr (by simp)) ?_
    simp only [prune, List.map_cons, List.map_nil, Go.AM.look, Nat.reduceEqDiff, reduceIte]
    refine gwp_r rfl (by decide) rfl rfl fun K hK => ?_
    simp -dsimp [wk]
    refine hK _ _ ?_; clear hK K
    simp only [thenA, inBlockA, reduceIte, Nat.reduceEqDiff, eq_self]
    exact ⟨k + 1, by omega, by omega, gsub (sub_rb [some 0, some 1, some 2] rfl (by simp) (by simp [hs0])) (by simp)⟩
  · skip
    try simp at hc0
    have hke : k = 2 * p.Rails.length := by omega
    subst hke
    refine gwp_exit ?_
    simp only [thenA, inBlockA, reduceIte, Nat.reduceEqDiff, eq_self]
    refine hK1 _ _ ?_
    refine gwp_prune [1, 2, 6, 7] (Or.inr (by simp)) ?_
    simp only [prune, List.map_cons, List.map_nil, Go.AM.look, Nat.reduceEqDiff, reduceIte]
    refine gwp_sr rfl (by decide) rfl rfl fun K hK => ?_
    simp -dsimp
    refine hK _ _ ?_; clear hK K
    refine gwp_seq_k fun K4 hK4 => ?_
    refine gwp_block ?_
    refine gwp_prune [2, 6, 7, 9] (Or.inr (by simp)) ?_
    simp only [prune, List.map_cons, List.map_nil, Go.AM.look, Nat.reduceEqDiff, reduceIte]
    refine gwp_loop_l [2, 6, 7, 9] (α := DSt × Nat) (fun _ => []) (fun s => dRows p s.1) (fun s => DOk p s.1 ∧ dMu p s.1 ≤ s.2 ∧ dRun p s.2 s.1 = dEnd p to) (fun s => s.2) (dInit p to, dMu p (dInit p to)) ?_ ?_ ?_
    · exact ⟨dInit_ok h0 h1, Nat.le_refl _, rfl⟩
    · exact gsub (sub_rb [some 0, some 1, some 2, some 3, some 4, some 5] rfl (by simp) (by simp [dInit])) (by simp)
    rintro ⟨s, k⟩ ⟨i1, i2, i3⟩
    simp only at i1 i2 i3 ⊢
    have hsq : 2 * p.Rails.length * (2 * p.Rails.length) ≤ 800 * 800 := Nat.mul_le_mul (by omega) (by omega)
    have hql : s.q.length ≤ 900000 := by have := i1.size; omega
    simp only [List.cons_append, List.nil_append, prune, List.map_cons, List.map_nil, Go.AM.look, Nat.reduceEqDiff, reduceIte]
    refine gwp_seq_k fun K5 hK5 => ?_
    refine gwp_sr rfl (by decide) rfl rfl fun K hK => ?_
    simp -dsimp
    refine callK_intro _ (c_lLenQ s.q) (by simp) ?_
    simp -dsimp
    refine hK _ _ ?_; clear hK K
    refine gwp_cond rfl (fun hc1 => ?_) (fun hc1 => ?_)
    · skip
      try simp at hc1
      have hq : s.q ≠ [] := by rintro h; simp [h] at hc1
      have hq1 : 1 ≤ s.q.length := List.length_pos_iff.2 hq
      obtain ⟨k', rfl⟩ : ∃ k', k = k' + 1 := ⟨k - 1, by simp only [dMu] at i2; omega⟩
      have hx := i1.q _ (popX_mem hq)
      have hst := dStep_ok hv i1 hq
      have hrun : dRun p k' (dStep p s) = dEnd p to := by rw [← i3]; simp only [dRun, if_neg hq]
      have hb := m_best1 s.q hq hql
      have hds : dStep p s = if 0 ≤ gd s.ln (popX s.q).Move.toNat then ⟨s.ln, s.mv, popQ s.q⟩ else ⟨s.ln.set (popX s.q).Move.toNat (popX s.q).Len, s.mv.set (popX s.q).Move.toNat (popX s.q).Mv, pushTo p (popX s.q) (popQ s.q) (befL p (popX s.q).Move)⟩ := rfl
      generalize popX s.q = x at hx hb hds
      obtain ⟨⟨hx0, hx1⟩, hx2, hx3⟩ := hx
      have hxt : x.Move.toNat < 2 * p.Rails.length := by omega
      have hgl : s.ln[x.Move.toNat]? = some (gd s.ln x.Move.toNat) := getD_at (by rw [i1.ln]; exact hxt)
      have hmin : min (s.q.length - 1) (popE s.q s.q.length).length = s.q.length - 1 := by rw [popE_len]; omega
      refine gwp_skip ?_
      simp only [thenA, inBlockA, reduceIte, Nat.reduceEqDiff, eq_self]
      refine hK5 _ _ ?_
      refine gwp_prune [2, 6, 7, 9] (Or.inr (by simp)) ?_
      simp only [prune, List.map_cons, List.map_nil, Go.AM.look, Nat.reduceEqDiff, reduceIte]
      refine gwp_block ?_
      refine gwp_sr rfl (by decide) rfl rfl fun K hK => ?_
      simp -dsimp
      refine callK_mut [4] [3] [none, none, none, none, some 0, none, some 1, some 2] (hb) (by decide) rfl (by simp) (by simp) rfl (by simp) ?_
      simp -dsimp
      refine hK _ _ ?_; clear hK K
      refine gwp_seq_k fun K6 hK6 => ?_
      refine gwp_sr rfl (by decide) rfl rfl fun K hK => ?_
      simp -dsimp [hgl, hx0, hxt]
      refine hK _ _ ?_; clear hK K
      refine gwp_cond rfl (fun hc2 => ?_) (fun hc2 => ?_)
      · skip
        try simp at hc2
        rw [if_pos hc2] at hds
        refine gwp_exit ?_
        simp only [thenA, inBlockA, reduceIte, Nat.reduceEqDiff, eq_self]
        exact ⟨(dStep p s, k'), ⟨hst.1, by show dMu p (dStep p s) ≤ k'; omega, hrun⟩, by simp, by rw [hds]; exact gsub ((sub_cut 6 (s.q.length - 1) rfl).trans (sub_rb [some 0, some 1, some 2, some 6, some 4, some 5] rfl (by simp) (by simp [popQ, hmin]))) (by simp)⟩
      · skip
        try simp at hc2
        rw [if_neg (by omega)] at hds
        have hmt : s.mv[x.Move.toNat]? = some (gd s.mv x.Move.toNat) := getD_at (by rw [i1.mv]; exact hxt)
        refine gwp_skip ?_
        simp only [thenA, inBlockA, reduceIte, Nat.reduceEqDiff, eq_self]
        refine hK6 _ _ ?_
        refine gwp_prune [2, 6, 7, 9, 10] (Or.inr (by simp)) ?_
        simp only [prune, List.map_cons, List.map_nil, Go.AM.look, Nat.reduceEqDiff, reduceIte]
        refine gwp_sd mixed rfl (by decide) rfl rfl fun K hK => ?_
        simp -dsimp [hgl, hmt, hx0, hxt]
        refine hK _ _ _ (by decide +kernel) ?_; clear hK K
        refine gwp_sr rfl (by decide) rfl rfl fun K hK => ?_
        simp -dsimp
        refine callK_intro _ (c_before p x.Move) (by simp) ?_
        simp -dsimp
        refine hK _ _ ?_; clear hK K
        refine gwp_block ?_
        refine gwp_prune [2, 6, 7, 9, 10, 68] (Or.inr (by simp)) ?_
        simp only [prune, List.map_cons, List.map_nil, Go.AM.look, Nat.reduceEqDiff, reduceIte]
        refine gwp_range_s hJ [2, 6, 7, 9, 10, 68] (fun n => [some (.els 1 [[.iptr (net p)]]), irow (s.ln.set x.Move.toNat x.Len), irow (s.mv.set x.Move.toNat x.Mv), none, hrow 6 (pushTo p x (popQ s.q) ((befL p x.Move).take n)).length, some (.els 1 [[.ifc 114 (.ptr 4 0 0)]]), frow (pushTo p x (popQ s.q) ((befL p x.Move).take n)), none, some (.els 3 [x.cells])]) (fun n => True) rfl (c_before1 p x.Move hv hx0 (by omega)) rfl (by simp) (by decide) (by decide) (by decide) (by intro z hz; obtain ⟨q, _, rfl⟩ := List.mem_map.1 hz; rfl) ?_ ?_ ?_ ?_
        · trivial
        · exact (sub_cut 6 (s.q.length - 1) rfl).trans (sub_rb [some 0, some 1, some 2, none, some 4, some 5, some 6, none, some 8] rfl (by simp) (by simp [popQ, pushTo, hmin]))
        · intro n xv hxn hi l1 J1 hJ1
          obtain ⟨k1, hk1, rfl⟩ : ∃ k1, (befL p x.Move)[n]? = some k1 ∧ [I k1] = xv := by simpa using hxn
          have hlen : (pushTo p x (popQ s.q) ((befL p x.Move).take n)).length ≤ 900000 := by have := befN_len p x.Move (2 * p.Rails.length); have h2 : (befL p x.Move).length ≤ 2 * p.Rails.length := this; have := i1.size; rw [pushTo_len, popQ_len, List.length_take]; omega
          have hp := m_hPush1 (pushTo p x (popQ s.q) ((befL p x.Move).take n)) (nxF p x k1) hlen
          have hps : pushTo p x (popQ s.q) ((befL p x.Move).take (n + 1)) = pushL ltF (pushTo p x (popQ s.q) ((befL p x.Move).take n)) (nxF p x k1) := by rw [List.take_add_one, hk1]; simp [pushTo]
          have hpl := pushL_len ltF (pushTo p x (popQ s.q) ((befL p x.Move).take n)) (nxF p x k1)
          have hxt2 : x.Move.tdiv 2 = x.Move / 2 := Int.tdiv_eq_ediv_of_nonneg hx0
          have hlb := len_bd hv (r := x.Move / 2) (by omega) (by omega)
          have hlg : (lensA p p.Rails.length)[(x.Move / 2).toNat]? = some [I (p.len (x.Move / 2))] := by rw [lensA_get (by omega), show (((x.Move / 2).toNat : Nat) : Int) = x.Move / 2 by omega]
          have wd : IntKind.i64.wrap (x.Move / 2) = x.Move / 2 := wrap_in (by omega) (by omega)
          have wl : IntKind.i64.wrap (x.Len + p.len (x.Move / 2)) = x.Len + p.len (x.Move / 2) := wrap_in (by omega) (by omega)
          have wm : IntKind.i64.wrap (x.Mv + 1) = x.Mv + 1 := wrap_in (by omega) (by omega)
          have hd0 : 0 ≤ x.Move / 2 := by omega
          simp only [nxF] at hp hps hpl
          simp only [List.zip_cons_cons, List.zip_nil_left, List.zip_nil_right, List.cons_append, List.nil_append]
          refine gwp_r rfl (by decide) rfl rfl fun K hK => ?_
          simp -dsimp
          refine hK _ _ ?_; clear hK K
          simp only [onlyN]
          intro J2 hJ2
          refine gwp_prune [2, 6, 7, 9, 10, 11, 68] (Or.inr (by simp)) ?_
          simp only [prune, List.map_cons, List.map_nil, Go.AM.look, Nat.reduceEqDiff, reduceIte]
          refine gwp_block ?_
          refine gwp_draw mixed rfl (by decide) rfl rfl fun K hK => ?_
          simp -dsimp [net, hxt2, wd, wl, wm, hlg, hd0]
          refine callK_mut [4] [6] [none, none, none, none, some 0, none, none, none, none, some 1] (hp) (by decide) rfl (by simp) (by simp) rfl (by simp) ?_
          simp -dsimp [net, hxt2, wd, wl, wm, hlg, hd0]
          refine hK _ _ _ (by decide +kernel) ?_; clear hK K
          simp only [thenA, inBlockA, roundQ, reduceIte, Nat.reduceEqDiff, eq_self]
          refine ⟨trivial, sub_rb [some 0, some 1, some 2, none, some 4, some 5, some 9, none, some 8] rfl (by simp [net]) (by simp [net, hps, hpl])⟩
        · intro hdone
          simp only [thenA, inBlockA, reduceIte, Nat.reduceEqDiff, eq_self]
          exact ⟨(dStep p s, k'), ⟨hst.1, by show dMu p (dStep p s) ≤ k'; omega, hrun⟩, by simp, by rw [hds]; exact gsub (sub_rb [some 0, some 1, some 2, some 6, some 4, some 5] rfl (by simp) (by simp)) (by simp)⟩
    · skip
      try simp at hc1
      have hq : s.q = [] := by simpa using hc1
      rw [dRun_nil hq] at i3
      refine gwp_exit ?_
      simp only [thenA, inBlockA, reduceIte, Nat.reduceEqDiff, eq_self]
      refine hK4 _ _ ?_
      refine gwp_prune [6, 7] (Or.inr (by simp)) ?_
      simp only [prune, List.map_cons, List.map_nil, Go.AM.look, Nat.reduceEqDiff, reduceIte]
      refine gwp_sr rfl (by decide) rfl rfl fun K hK => ?_
      simp -dsimp
      refine hK _ _ ?_; clear hK K
      have g1 : List.take (2 * p.Rails.length) (s.ln.map nCell) = s.ln.map nCell := List.take_of_length_le (by simp [i1.ln])
      have g2 : List.take (2 * p.Rails.length) (s.mv.map nCell) = s.mv.map nCell := List.take_of_length_le (by simp [i1.mv])
      exact gwp_ret (by simp [← i3, i1.ln, i1.mv, g1, g2])
end Go.Tram
