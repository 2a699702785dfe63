import Derived.Test.YtibddmpaklcleaaH6
import Derived.OpenShut
import Derived.ProofKit
import Derived.WalkKit
import Derived.Test.YtibddmpaklcleaaRows
set_option maxRecDepth 100000
set_option maxHeartbeats 8000000
set_option linter.unusedVariables false
set_option linter.unusedSimpArgs false
section
namespace Go.Cur
open Go.AM Go.Proofs
theorem c_plausible (f : Fr) : PureCall Try.prog 31 [f.av] (Bo (decide (0 < f.Den) && (decide (f.Den < 2000000000000) && (decide (-10000000000000000 < f.Num) && decide (f.Num < 10000000000000000))))) := by
 refine PureCall.of_body Try.func31 rfl (by decide) (by simp [Try.ntmps31]) ?_;simp only [Try.ntmps31, Try.results31];refine aS fun K hK => ?_;simp -dsimp;apply hK;clear hK K;refine aS fun K hK => ?_;simp -dsimp;apply hK;clear hK K;exact awp_ret (by simp [Bool.and_assoc])
theorem at0_nb {l : List Int} {B : Nat} (h : ∀ x ∈ l, x.natAbs ≤ B) (i : Int) : (at0 l i).natAbs ≤ B := by
 unfold at0
 cases hi : l[i.toNat]? with
 | none => simp
 | some x => exact h x (List.mem_of_getElem? hi)
section
variable {g : Gr} {s : Sta} {us : Kvs}
theorem vf_tight (hnt : NetOk g s) (h5 : ∀ p ∈ partL g s, p.length ≤ 5) (hus : ∀ x, -40 ≤ igt us x ∧ igt us x ≤ 40) (hok : okS g s us = true) {k : Nat} (hk : k < g.Nodes.toNat) : 0 < (vfS g s us k).Den ∧ (vfS g s us k).Den ≤ 2000000000 ∧ (vfS g s us k).Num.natAbs ≤ 7000000000000 := by
 obtain ⟨p, hp, hkp⟩ := List.mem_flatten.1 (partL_all hnt hk);unfold okS at hok;rw [List.all_eq_true] at hok;obtain ⟨t1, t2, t3⟩ := pvol_tight hnt hp (h5 p hp) hus (hok p hp);unfold vfS;rw [← partOf_eq hp hkp];have hr := red_bd (n := at0 (pvol g s us p).1 (p.idxOf k : Nat)) t1;have hb := at0_nb t3 (p.idxOf k : Nat);omega
theorem ff_tight {vf : Nat → Fr} (hnt : NetOk g s) (hv : ∀ k, k < g.Nodes.toNat → 0 < (vf k).Den ∧ (vf k).Den ≤ 2000000000 ∧ (vf k).Num.natAbs ≤ 7000000000000) {i : Nat} (hi : i < g.Feeds.length) :
  0 ≤ (ffF g s vf i).Num ∧ (ffF g s vf i).Num ≤ 40000000000000 ∧ 1 ≤ (ffF g s vf i).Den ∧ (ffF g s vf i).Den ≤ 2000000000 ∧ (0 < (ffF g s vf i).Num → bAt s.Feeds i = true) := by
 have hg : g.Feeds[i]? = some (fdI g (i : Int)) := by have := fdI_get (g := g) (i := (i : Int)) (by omega) (by omega); rwa [Int.toNat_natCast] at this
 have hb := hnt.feeds _ (List.mem_of_getElem? hg);have hvb := hv (fdI g (i : Int)).At.toNat (by omega);unfold ffF;simp only;generalize vf (fdI g (i : Int)).At.toNat = v at hvb ⊢;have h1 : 0 ≤ (fdI g (i : Int)).Volts * v.Den ∧ (fdI g (i : Int)).Volts * v.Den ≤ 2000000000000 := ⟨Int.mul_nonneg (by omega) (by omega), Int.le_trans (Int.mul_le_mul hb.2.2.2.1 hvb.2.1 (by omega) (by omega)) (by omega)⟩
 split
 ·rename_i hc;have hd1 : (fdI g (i : Int)).Volts * v.Den - v.Num ≤ 9000000000000 := by omega
  generalize (fdI g (i : Int)).Volts * v.Den - v.Num = d at *
  have hr := red_bd (n := (fdI g (i : Int)).Siem * d) hvb.1;have h2 : 0 ≤ (fdI g (i : Int)).Siem * d ∧ (fdI g (i : Int)).Siem * d ≤ 36000000000000 := by
   have hc2 := hc.2
   rcases (by omega : (fdI g (i : Int)).Siem = 1 ∨ (fdI g (i : Int)).Siem = 2 ∨ (fdI g (i : Int)).Siem = 3 ∨ (fdI g (i : Int)).Siem = 4) with h | h | h | h <;> rw [h] <;> omega
  have h3 : 0 ≤ (red ((fdI g (i : Int)).Siem * d) v.Den).Num := by
   unfold red;exact Int.ediv_nonneg h2.1 (by omega)
  exact ⟨h3, by omega, by omega, by omega, fun _ => hc.1⟩
 ·exact ⟨by decide, by decide, by decide, by decide, fun h => absurd h (by decide)⟩
theorem swTo_fe (fe : List Bool) : ∀ k, swTo g ⟨fe, s.Wires⟩ k = swTo g s k
 | 0 => rfl
 | k + 1 => by simp only [swTo, swTo_fe fe k]
theorem fine_fe {l l' : List Ld} (h : fineB g s l = true) {fe : List Bool} (hfe : fe.length = g.Feeds.length) (hl : LdOk g l') : fineB g ⟨fe, s.Wires⟩ l' = true := by
 simp only [fineB, stB, Bool.and_eq_true, decide_eq_true_eq] at h ⊢;exact ⟨⟨h.1.1, ⟨hfe, h.1.2.1.2⟩, by rw [swTo_fe]; exact h.1.2.2⟩, ld_to hl _ (Nat.le_refl _)⟩
theorem lit_5 (hl : litB g s = true) (hlo : longB g s = false) : ∀ p ∈ partL g s, p.length ≤ 5 := fun p hp => by
 unfold litB at hl;rw [List.all_eq_true] at hl;unfold longB at hlo;rw [List.any_eq_false] at hlo;have h1 := hl p hp;have h2 := hlo p hp;simp [litP] at h1 h2;omega
theorem set_ok {l : List Ld} (hf : fineB g s l = true) (hll : l.length ≤ 900) (h5 : ∀ p ∈ partL g s, p.length ≤ 5) : SetOk g s.Wires l :=
 ⟨(fine_net hf).gr, (fine_net hf).sw, fine_ld hf, hll, h5⟩
end
theorem c_Settle_t (g : Gr) (s : Sta) (l : List Ld) (hf : fineB g s l = true) (hlo : longB g s = false) (h : SetOk g s.Wires l) (Z : SS) (hZ : settleS g s.Wires l s.Feeds = Z) :
  PureCall Try.prog 27 [g.av, s.av, lL l] (.tup [.agg (stlS g s.Wires l Z).cells, I 0]) := by
 by_cases hne : s.Feeds = []
 ·exact c_Settle_tb g s l hf hlo h hne Z hZ
 ·exact c_Settle_ta g s l hf hlo h hne Z hZ
theorem safe_ex (g : Gr) (s : Sta) (l : List Ld) (hl : l.length ≤ 50) (hf : fineB g s l = true) (hlo : longB g s = false) (hli : litB g s = true) : ∃ (vs fs : List Fr) (sv fe : List Bool) (cu : List Cu),
  PureCall Try.prog 27 [g.av, s.av, lL l] (.tup [.agg [fL vs, fL fs, bL fe, bL s.Wires, bL sv, cL cu], I 0]) ∧
  vs.length = g.Nodes.toNat ∧ fs.length = g.Feeds.length ∧ sv.length = l.length ∧ fe.length = g.Feeds.length ∧
  (∀ i, i < g.Feeds.length → ∃ f, fs[i]? = some f ∧ 0 < f.Den ∧ f.Den ≤ 2000000000 ∧ f.Num ≤ 40000000000000 ∧ 0 ≤ f.Num ∧ f.Num ≤ (fdI g i).Limit * f.Den ∧ (bAt fe i = false → f.Num = 0) ∧ (bAt fe i = true → bAt s.Feeds i = true)) ∧
  (∀ (k : Nat) y, l[k]? = some y → ∃ v, vs[y.At.toNat]? = some v ∧ 0 < v.Den ∧ v.Den ≤ 2000000000 ∧ v.Num.natAbs ≤ 7000000000000 ∧ (bAt sv k = true → 0 < y.Units → g.Least * v.Den ≤ v.Num)) ∧
  ((cu.length : Int) = l.length + cntT s.Feeds - cntT sv - cntT fe) ∧
  PureCall Try.prog 18 [g.av, .agg [bL fe, bL s.Wires], lL (srv l sv)] (.tup [fL vs, fL fs, I 0]) ∧
  ∃ vs2 fs2 fe2 wi2 sv2, PureCall Try.prog 27 [g.av, .agg [bL fe, bL s.Wires], lL (srv l sv)] (.tup [.agg [fL vs2, fL fs2, bL fe2, bL wi2, bL sv2, cL []], I 0]) := by
 have h5 := lit_5 hli hlo;have hset := set_ok hf (by omega) h5;have hnt := fine_net hf;obtain ⟨Z, hZ⟩ : ∃ Z, settleS g s.Wires l s.Feeds = Z := ⟨_, rfl⟩;have hz0 := z0_ok hset hnt.sf;have hzo : ZOk g s.Wires l Z := by rw [← hZ]; exact settle_ok hset hz0
 have hend : stepZ g s.Wires l Z = none := by rw [← hZ]; exact settle_end hset hz0 (Nat.le_refl _)
 obtain ⟨e1, e2, e3, e4⟩ := step_none hend;have hntZ := hset.net hzo;have hok := okZ hset hzo e1 e2;have h5Z := hset.p5' Z.fe;have hvt := fun k (hk : k < g.Nodes.toNat) => vf_tight hntZ h5Z (tk_bd hset.ld Z.sv) hok hk;have hld := srv_ok hset.ld Z.sv;have hig := srv_igt l Z.sv;have hf2 := fine_fe (l' := srv l Z.sv) hf hzo.fe hld;have hset2 : SetOk g s.Wires (srv l Z.sv) := ⟨hset.gr, hset.sw, hld, by have := srv_len l Z.sv; omega, hset.p5⟩;refine ⟨_, _, _, _, _, c_Settle_t g s l hf hlo hset Z hZ, by simp [stlS, vlA], by simp [stlS, flA], hzo.sv, hzo.fe, fun i hi => ?_, fun k y hy => ?_, ?_, ?_, ?_⟩
 ·have hft := ff_tight hntZ hvt hi;refine ⟨ffF g ⟨Z.fe, s.Wires⟩ (vfZ g s.Wires l Z) i, by simp only [stlS, flA]; rw [List.getElem?_map, List.getElem?_range hi]; rfl, ?_⟩;have ht := end_trip hset e4 hi;refine ⟨by have := hft.2.2.1; exact this, hft.2.2.2.1, hft.2.1, hft.1, ?_, fun hb => ?_, fun hb => ?_⟩
  ·have e : fdA g i = fdI g (i : Int) := by first | rfl | simp [fdA]
   rw [← e]; exact ht
  ·have h1 := hft.1;refine Decidable.byContradiction fun hne => ?_;have := hft.2.2.2.2 (by unfold vfZ at *; omega);change bAt Z.fe i = true at this;change bAt Z.fe i = false at hb;rw [hb] at this; cases this
  ·change bAt Z.fe i = true at hb;rw [← hZ] at hb;exact fe_settle i hb
 ·have hk := (List.getElem?_eq_some_iff.1 hy).1;have hla : ldA l k = y := by have := ldA_get hk; rw [hy] at this; exact (Option.some.inj this).symm
  have hat := hset.ld.at_ y (List.mem_of_getElem? hy);have hkn : y.At.toNat < g.Nodes.toNat := by omega
  refine ⟨vfZ g s.Wires l Z y.At.toNat, vlA_get hkn, (hvt _ hkn).1, (hvt _ hkn).2.1, (hvt _ hkn).2.2, fun hb hu => ?_⟩;have := end_low hset hzo e3 hk;change bAt Z.sv k = true at hb;unfold lowC at this;rw [hb, hla, decide_eq_true hu, Bool.true_and, Bool.true_and, decide_eq_false_iff_not] at this;omega
 ·have hcs := cut_settle hset (n := cntZ (z0 l s.Feeds)) hz0;change (settleS g s.Wires l s.Feeds).cuts.length + cntZ (settleS g s.Wires l s.Feeds) = _ at hcs;rw [hZ] at hcs;have c1 : cntZ Z = cntT Z.sv + cntT Z.fe := rfl;have c2 : cntZ (z0 l s.Feeds) = l.length + cntT s.Feeds := by show cntT (List.replicate l.length true) + cntT s.Feeds = _; rw [cnt_rep]
  have c3 : (z0 l s.Feeds).cuts.length = 0 := rfl;show (Z.cuts.length : Int) = _ + _ - cntT Z.sv - cntT Z.fe;omega
 ·have hs := c_Solve g ⟨Z.fe, s.Wires⟩ (srv l Z.sv) (by have := srv_len l Z.sv; omega) (fun _ => hset.few _) (fun _ _ => hset.siz _ _);unfold solveA at hs;rw [if_pos hf2, if_neg (by show ¬ longB g s = true; rw [hlo]; decide), okS_congr hig, if_pos hok, vfS_congr hig] at hs;exact hs
 ·have ha := c_Settle_t g ⟨Z.fe, s.Wires⟩ (srv l Z.sv) hf2 hlo hset2 _ (again hset hzo hend);exact ⟨_, _, _, _, _, ha⟩
theorem c_CurrentSafe (g : Gr) (s : Sta) (l : List Ld) : PureCall Try.prog 6 [g.av, s.av, lL l] (Bo true) := by
 have hk := c_known;have hrf : (g.Wires.length ≤ 100 ∧ g.Feeds.length ≤ 20 ∧ l.length ≤ 50) → PureCall Try.prog 16 [g.av, s.av, lL l] (I (refE g s l)) := fun h => c_refused g s l (by omega) (by omega) (by omega);have hre : refE g s l = 0 → fineB g s l = true ∧ longB g s = false := fun h => by
  unfold refE at h
  cases h1 : fineB g s l with
  | false => rw [h1] at h; simp at h
  | true =>
   cases h2 : longB g s with
   | true => rw [h1, h2] at h; simp at h
   | false => exact ⟨rfl, rfl⟩
 have hlt : refE g s l = 0 → PureCall Try.prog 17 [g.av, s.av] (Bo (litB g s)) := fun h => c_little g s (fine_net (hre h).1);generalize hRE : refE g s l = re at hrf hre hlt;refine PureCall.of_body Try.func6 rfl (by decide) (by simp [Try.ntmps6]) ?_;simp only [Try.ntmps6, Try.results6];refine aS fun K hK => ?_;simp -dsimp;apply hK;clear hK K;refine awp_seq_k fun K1 hK1 => ?_;refine aS fun K hK => ?_;simp -dsimp;refine callK_may _ (fun hm => hrf (by simp at hm; omega)) (by simp) ?_;simp -dsimp;refine callK_may _ (fun hm => hlt (by simp at hm; omega)) (by simp) ?_;simp -dsimp;apply hK;clear hK K;refine awp_cond rfl (fun hc0 => ?_) (fun hc0 => ?_)
 ·refine aS fun K hK => ?_;simp -dsimp;refine callK_intro _ (hk) (by simp) ?_;simp -dsimp;apply hK;clear hK K;exact awp_ret (by simp)
 ·have hc1 : l.length ≤ 50 ∧ re = 0 ∧ litB g s = true := by simp at hc0; exact ⟨by omega, by omega, hc0.2⟩
  obtain ⟨hfi, hlo⟩ := hre hc1.2.1;have hnt := fine_net hfi;have hbd := grB_bd hnt.gr;obtain ⟨vs, fs, sv, fe, cu, hst, l1, l2, l3, l4, hF, hL, hcu, hso, vs2, fs2, fe2, wi2, sv2, hst2⟩ := safe_ex g s l hc1.1 hfi hlo hc1.2.2;have l1' : (vs.length : Int) = g.Nodes := by omega
  have hal := c_rAlike s.Wires s.Wires (by have := hnt.sw; omega);refine awp_skip ?_;simp only [zT, reduceIte, Nat.reduceEqDiff];refine hK1 _ _ ?_;refine awp_prune [2, 3, 4] ?_;simp only [zP, Nat.reduceEqDiff, reduceIte];refine aS fun K hK => ?_;simp -dsimp;refine callK_intro _ (hst) (by simp) ?_;simp -dsimp;apply hK;clear hK K;refine awp_seq_k fun K2 hK2 => ?_;refine aS fun K hK => ?_;simp -dsimp [l1', l2, l3, l4, hnt.sf, hnt.sw];refine callK_may _ (fun hm => hal) (by simp) ?_;simp -dsimp [l1', l2, l3, l4, hnt.sf, hnt.sw];apply hK;clear hK K;refine awp_cond rfl (fun hc1 => ?_) (fun hc1 => ?_)
  ·simp at hc1
  ·refine awp_skip ?_;simp only [zT, reduceIte, Nat.reduceEqDiff];refine hK2 _ _ ?_;refine awp_prune [2, 3, 4, 7] ?_;simp only [zP, Nat.reduceEqDiff, reduceIte];refine awp_seq_k fun K3 hK3 => ?_;refine aS fun K hK => ?_;simp -dsimp;apply hK;clear hK K;refine awp_block ?_;refine awp_prune [2, 3, 4, 7, 9] ?_;simp only [zP, Nat.reduceEqDiff, reduceIte];refine awp_loop_l [2, 3, 4, 7] (α := Nat) (fun k => [(9, I k)]) (fun k => [some (.els 4 [g.cells]), some (.els 2 [s.cells]), some (.els 6 [[fL vs, fL fs, bL fe, bL s.Wires, bL sv, cL cu]])]) (fun k => k ≤ g.Feeds.length) (fun k => g.Feeds.length - k) 0 ?_ ?_ ?_
   ·exact Nat.zero_le _
   ·exact sub_rb [some 0, some 1, some 2] rfl (by simp) (by simp)
   rintro k k1;simp only [zP, Nat.reduceEqDiff, reduceIte];refine awp_seq_k fun K4 hK4 => ?_;refine aS fun K hK => ?_;simp -dsimp;apply hK;clear hK K;refine awp_cond rfl (fun hc2 => ?_) (fun hc2 => ?_)
   ·have hkl : k < g.Feeds.length := by simpa using hc2
    have wk := zW k (by omega);obtain ⟨f, gf, f1, f2, f3, f4, f5, f6, f7⟩ := hF k hkl;have gg : g.Feeds[k]? = some (fdI g k) := by have := fdI_get (g := g) (i := (k : Int)) (by omega) (by omega); rwa [Int.toNat_natCast] at this
    have hfb := hnt.feeds _ (List.mem_of_getElem? gg);have wm : IntKind.i64.wrap ((fdI g k).Limit * f.Den) = (fdI g k).Limit * f.Den := wrap_in (by have := Int.mul_nonneg (a := (fdI g k).Limit) (b := f.Den) (by omega) (by omega); omega) (by have := Int.mul_le_mul (a := (fdI g k).Limit) (b := f.Den) hfb.2.2.2.2.2.2.2 f2 (by omega) (by omega); omega);have ge := bAt_get (l := fe) (k := k) (by omega);have gs := bAt_get (l := s.Feeds) (k := k) (by have := hnt.sf; omega);have hpl := c_plausible f;have p1 : f.Den < 2000000000000 := by omega
    have p2 : -10000000000000000 < f.Num := by omega
    have p3 : f.Num < 10000000000000000 := by omega
    refine awp_skip ?_;simp only [zT, reduceIte, Nat.reduceEqDiff];refine hK4 _ _ ?_;refine awp_prune [2, 3, 4, 7, 9] ?_;simp only [zP, Nat.reduceEqDiff, reduceIte];refine awp_seq_k fun K5 hK5 => ?_;refine awp_block ?_;refine aS fun K hK => ?_;simp -dsimp [gf];apply hK;clear hK K;refine awp_sd mixed rfl fun K hK => ?_;simp -dsimp [wm, f1, p1, p2, p3];refine callK_intro _ (hpl) (by simp) ?_;simp -dsimp [wm, f1, p1, p2, p3];refine idxK_intro (fdI g k).cells (fun _ => by simp [gg]) ?_;simp -dsimp [wm, f1, p1, p2, p3];refine idxK_intro (bCell (bAt fe k)) (fun _ => by simp [ge]) ?_;simp -dsimp [wm, f1, p1, p2, p3];refine idxK_intro (bCell (bAt fe k)) (fun _ => by simp [ge]) ?_;simp -dsimp [wm, f1, p1, p2, p3];refine idxK_intro (bCell (bAt s.Feeds k)) (fun _ => by simp [gs]) ?_;simp -dsimp [wm, f1, p1, p2, p3];refine hK _ _ _ (by decide +kernel) ?_; clear hK K;refine awp_cond rfl (fun hc3 => ?_) (fun hc3 => ?_)
    ·have d1 : decide (f.Num < 0) = false := decide_eq_false (by omega);have d2 : decide ((fdI g k).Limit * f.Den < f.Num) = false := decide_eq_false (by omega);have d3 : (!bAt fe k && f.Num != 0) = false := by cases h : bAt fe k with | true => rfl | false => rw [f6 h]; rfl
     have d4 : (bAt fe k && !bAt s.Feeds k) = false := by cases h : bAt fe k with | false => rfl | true => rw [f7 h]; rfl
     rw [d1, d2, d3, d4] at hc3; cases hc3
    ·refine awp_skip ?_;simp only [zT, reduceIte, Nat.reduceEqDiff];refine hK5 _ _ ?_;refine awp_prune [2, 3, 4, 7, 9] ?_;simp only [zP, Nat.reduceEqDiff, reduceIte];refine aR fun K hK => ?_;simp -dsimp [wk];apply hK;clear hK K;simp only [zT, reduceIte, Nat.reduceEqDiff];exact ⟨k + 1, by omega, by omega, sub_rb [some 0, some 1, some 2] rfl (by simp) (by simp)⟩
   ·refine awp_exit ?_;simp only [zT, reduceIte, Nat.reduceEqDiff];refine hK3 _ _ ?_;refine awp_prune [2, 3, 4, 7] ?_;simp only [zP, Nat.reduceEqDiff, reduceIte];refine aS fun K hK => ?_;simp -dsimp;apply hK;clear hK K;refine awp_seq_k fun K6 hK6 => ?_;refine aS fun K hK => ?_;simp -dsimp;apply hK;clear hK K;refine awp_block ?_;refine awp_prune [2, 3, 4, 7, 11, 12] ?_;simp only [zP, Nat.reduceEqDiff, reduceIte];refine awp_loop_l [2, 3, 4, 7] (α := Nat) (fun k => [(11, .row 3 0 (srv (l.take k) (sv.take k)).length), (12, I k)]) (fun k => [some (.els 4 [g.cells]), some (.els 2 [s.cells]), some (.els 6 [[fL vs, fL fs, bL fe, bL s.Wires, bL sv, cL cu]]), some (.els 3 ((srv (l.take k) (sv.take k)).map Ld.cells))]) (fun k => k ≤ l.length) (fun k => l.length - k) 0 ?_ ?_ ?_
    ·exact Nat.zero_le _
    ·exact (sub_nil 11 3 (by simp)).trans (sub_same (by simp [srv]))
    rintro k k1;simp only [zP, Nat.reduceEqDiff, reduceIte];refine awp_seq_k fun K7 hK7 => ?_;refine aS fun K hK => ?_;simp -dsimp;apply hK;clear hK K;refine awp_cond rfl (fun hc4 => ?_) (fun hc4 => ?_)
    ·have hkl : k < l.length := by simpa using hc4
     have wk := zW k (by omega);obtain ⟨y, hy⟩ : ∃ y, l[k]? = some y := ⟨_, List.getElem?_eq_getElem hkl⟩;obtain ⟨v, gv, v1, v2, v3, v4⟩ := hL k y hy;have hat := (fine_ld hfi).at_ y (List.mem_of_getElem? hy);have wm : IntKind.i64.wrap (g.Least * v.Den) = g.Least * v.Den := wrap_in (by have := Int.mul_nonneg (a := g.Least) (b := v.Den) (by omega) (by omega); omega) (by have := Int.mul_le_mul (a := g.Least) (b := v.Den) hbd.2.2.2.2.2 v2 (by omega) (by omega); omega);have ge := bAt_get (l := sv) (k := k) (by omega);have hpl := c_plausible v;have p1 : v.Den < 2000000000000 := by omega
     have p2 : -10000000000000000 < v.Num := by omega
     have p3 : v.Num < 10000000000000000 := by omega
     have hsn := srv_snoc hy ge;have hll := srv_len (l.take k) (sv.take k);rw [List.length_take] at hll;generalize srv (l.take k) (sv.take k) = L at hsn hll ⊢;have ff : Fits (L.length + 1) 25 := fits_of (by omega) (by omega);refine awp_skip ?_;simp only [zT, reduceIte, Nat.reduceEqDiff];refine hK7 _ _ ?_;refine awp_prune [2, 3, 4, 7, 11, 12] ?_;simp only [zP, Nat.reduceEqDiff, reduceIte];refine awp_seq_k fun K8 hK8 => ?_;refine awp_block ?_;refine awp_sd mixed rfl fun K hK => ?_;simp -dsimp [hy, gv, hat.1];refine hK _ _ _ (by decide +kernel) ?_; clear hK K;refine awp_seq_k fun K9 hK9 => ?_;refine aS fun K hK => ?_;simp -dsimp [wm, v1, p1, p2, p3];refine callK_intro _ (hpl) (by simp) ?_;simp -dsimp [wm, v1, p1, p2, p3];refine idxK_intro (bCell (bAt sv k)) (fun _ => by simp [ge]) ?_;simp -dsimp [wm, v1, p1, p2, p3];refine idxK_intro y.cells (fun _ => by simp [hy]) ?_;simp -dsimp [wm, v1, p1, p2, p3];apply hK;clear hK K;refine awp_cond rfl (fun hc5 => ?_) (fun hc5 => ?_)
     ·have d5 : (bAt sv k && decide (0 < y.Units) && decide (v.Num < g.Least * v.Den)) = false := by
       cases h : bAt sv k with
       | false => rfl
       | true =>
        by_cases hu : 0 < y.Units
        ·rw [decide_eq_true hu, decide_eq_false (by have := v4 h hu; omega)]; rfl
        ·rw [decide_eq_false hu]; rfl
      rw [d5] at hc5; cases hc5
     ·refine awp_skip ?_;simp only [zT, reduceIte, Nat.reduceEqDiff];refine hK9 _ _ ?_;refine awp_prune [2, 3, 4, 7, 11, 12] ?_;simp only [zP, Nat.reduceEqDiff, reduceIte];refine aS fun K hK => ?_;simp -dsimp [ge];apply hK;clear hK K;refine awp_cond rfl (fun hc6 => ?_) (fun hc6 => ?_)
      ·refine aR fun K hK => ?_;simp -dsimp [hy, ff];apply hK;clear hK K;simp only [zT, reduceIte, Nat.reduceEqDiff];refine hK8 _ _ ?_;refine awp_prune [2, 3, 4, 7, 11, 12] ?_;simp only [zP, Nat.reduceEqDiff, reduceIte];refine aR fun K hK => ?_;simp -dsimp [wk];apply hK;clear hK K;simp only [zT, reduceIte, Nat.reduceEqDiff];exact ⟨k + 1, by omega, by omega, sub_rb [some 0, some 1, some 2, some 5] rfl (by simp [hsn, hc6]) (by simp [hsn, hc6])⟩
      ·refine awp_skip ?_;simp only [zT, reduceIte, Nat.reduceEqDiff];refine hK8 _ _ ?_;refine awp_prune [2, 3, 4, 7, 11, 12] ?_;simp only [zP, Nat.reduceEqDiff, reduceIte];refine aR fun K hK => ?_;simp -dsimp [wk];apply hK;clear hK K;simp only [zT, reduceIte, Nat.reduceEqDiff];exact ⟨k + 1, by omega, by omega, sub_rb [some 0, some 1, some 2, some 3] rfl (by simp [hsn, hc6]) (by simp [hsn, hc6])⟩
    ·have hke : k = l.length := by have hx : ¬ k < l.length := (by simpa using hc4); omega
     rw [hke, List.take_of_length_le (Nat.le_refl _), List.take_of_length_le (by omega)];have hsl := srv_len l sv;generalize srv l sv = S at hso hst2 hsl ⊢;refine awp_exit ?_;simp only [zT, reduceIte, Nat.reduceEqDiff];refine hK6 _ _ ?_;refine awp_prune [2, 3, 4, 7, 11] ?_;simp only [zP, Nat.reduceEqDiff, reduceIte];refine aS fun K hK => ?_;simp -dsimp;apply hK;clear hK K;refine awp_seq_k fun K10 hK10 => ?_;refine aS fun K hK => ?_;simp -dsimp;apply hK;clear hK K;refine awp_block ?_;refine awp_prune [2, 3, 4, 7, 11, 14, 15] ?_;simp only [zP, Nat.reduceEqDiff, reduceIte];refine awp_loop_l [2, 3, 4, 7, 11] (α := Nat) (fun k => [(14, I ((k : Int) - cntT (sv.take k))), (15, I k)]) (fun k => [some (.els 4 [g.cells]), some (.els 2 [s.cells]), some (.els 6 [[fL vs, fL fs, bL fe, bL s.Wires, bL sv, cL cu]]), some (.els 3 (S.map Ld.cells))]) (fun k => k ≤ l.length) (fun k => l.length - k) 0 ?_ ?_ ?_
     ·exact Nat.zero_le _
     ·exact sub_rb [some 0, some 1, some 2, some 3] rfl (by simp [cntT]) (by simp)
     rintro k k1;simp only [zP, Nat.reduceEqDiff, reduceIte];refine awp_seq_k fun K11 hK11 => ?_;refine aS fun K hK => ?_;simp -dsimp;apply hK;clear hK K;refine awp_cond rfl (fun hc7 => ?_) (fun hc7 => ?_)
     ·have hkl : k < l.length := by simpa using hc7
      have wk := zW k (by omega);have ge := bAt_get (l := sv) (k := k) (by omega);have cs := cnt_snoc (l := sv) (k := k) (by omega);have cl := cnt_len (sv.take k);rw [List.length_take] at cl;obtain ⟨c, hcc⟩ : ∃ c : Int, c = (k : Int) - cntT (sv.take k) := ⟨_, rfl⟩;have wc : IntKind.i64.wrap (c + 1) = c + 1 := wrap_in (by omega) (by omega);rw [← hcc];refine awp_skip ?_;simp only [zT, reduceIte, Nat.reduceEqDiff];refine hK11 _ _ ?_;refine awp_prune [2, 3, 4, 7, 11, 14, 15] ?_;simp only [zP, Nat.reduceEqDiff, reduceIte];refine awp_seq_k fun K12 hK12 => ?_;refine awp_block ?_;refine aS fun K hK => ?_;simp -dsimp [ge];apply hK;clear hK K;refine awp_cond rfl (fun hc8 => ?_) (fun hc8 => ?_)
      ·refine aR fun K hK => ?_;simp -dsimp [wc];apply hK;clear hK K;simp only [zT, reduceIte, Nat.reduceEqDiff];refine hK12 _ _ ?_;refine awp_prune [2, 3, 4, 7, 11, 14, 15] ?_;simp only [zP, Nat.reduceEqDiff, reduceIte];refine aR fun K hK => ?_;simp -dsimp [wk];apply hK;clear hK K;simp only [zT, reduceIte, Nat.reduceEqDiff];have hb : bAt sv k = false := by simpa using hc8
       have e : ((k + 1 : Nat) : Int) - cntT (sv.take (k + 1)) = c + 1 := by rw [cs, hb]; simp; omega
       exact ⟨k + 1, by omega, by omega, sub_rb [some 0, some 1, some 2, some 3] rfl (by simp only [e]; simp) (by simp)⟩
      ·refine awp_skip ?_;simp only [zT, reduceIte, Nat.reduceEqDiff];refine hK12 _ _ ?_;refine awp_prune [2, 3, 4, 7, 11, 14, 15] ?_;simp only [zP, Nat.reduceEqDiff, reduceIte];refine aR fun K hK => ?_;simp -dsimp [wk];apply hK;clear hK K;simp only [zT, reduceIte, Nat.reduceEqDiff];have hb : bAt sv k = true := by simpa using hc8
       have e : ((k + 1 : Nat) : Int) - cntT (sv.take (k + 1)) = c := by rw [cs, hb]; simp; omega
       exact ⟨k + 1, by omega, by omega, sub_rb [some 0, some 1, some 2, some 3] rfl (by simp only [e]; simp) (by simp)⟩
     ·have hke : k = l.length := by have hx : ¬ k < l.length := (by simpa using hc7); omega
      rw [hke, List.take_of_length_le (by omega)];have cl := cnt_len sv;obtain ⟨c0, hc0'⟩ : ∃ c0 : Int, c0 = (l.length : Int) - cntT sv := ⟨_, rfl⟩;rw [← hc0'];refine awp_exit ?_;simp only [zT, reduceIte, Nat.reduceEqDiff];refine hK10 _ _ ?_;refine awp_prune [3, 4, 7, 11, 14] ?_;simp only [zP, Nat.reduceEqDiff, reduceIte];refine awp_seq_k fun K13 hK13 => ?_;refine aS fun K hK => ?_;simp -dsimp;apply hK;clear hK K;refine awp_block ?_;refine awp_prune [3, 4, 7, 11, 14, 16] ?_;simp only [zP, Nat.reduceEqDiff, reduceIte];refine awp_loop_l [3, 4, 7, 11] (α := Nat) (fun k => [(14, I (c0 + cntT (s.Feeds.take k) - cntT (fe.take k))), (16, I k)]) (fun k => [some (.els 4 [g.cells]), some (.els 2 [s.cells]), some (.els 6 [[fL vs, fL fs, bL fe, bL s.Wires, bL sv, cL cu]]), some (.els 3 (S.map Ld.cells))]) (fun k => k ≤ g.Feeds.length) (fun k => g.Feeds.length - k) 0 ?_ ?_ ?_
      ·exact Nat.zero_le _
      ·exact sub_rb [some 0, some 1, some 2, some 3] rfl (by simp [cntT]) (by simp)
      rintro k k1;simp only [zP, Nat.reduceEqDiff, reduceIte];refine awp_seq_k fun K14 hK14 => ?_;refine aS fun K hK => ?_;simp -dsimp;apply hK;clear hK K;refine awp_cond rfl (fun hc9 => ?_) (fun hc9 => ?_)
      ·have hkl : k < g.Feeds.length := by simpa using hc9
       have wk := zW k (by omega);have ge := bAt_get (l := fe) (k := k) (by omega);have gs := bAt_get (l := s.Feeds) (k := k) (by have := hnt.sf; omega);have cs := cnt_snoc (l := fe) (k := k) (by omega);have cs2 := cnt_snoc (l := s.Feeds) (k := k) (by have := hnt.sf; omega);have cl1 := cnt_len (fe.take k);have cl2 := cnt_len (s.Feeds.take k);rw [List.length_take] at cl1 cl2;have hfs := (hF k hkl);obtain ⟨f, -, -, -, -, -, -, -, f7⟩ := hfs;obtain ⟨c, hcc⟩ : ∃ c : Int, c = c0 + cntT (s.Feeds.take k) - cntT (fe.take k) := ⟨_, rfl⟩;have wc : IntKind.i64.wrap (c + 1) = c + 1 := wrap_in (by omega) (by omega);rw [← hcc];refine awp_skip ?_;simp only [zT, reduceIte, Nat.reduceEqDiff];refine hK14 _ _ ?_;refine awp_prune [3, 4, 7, 11, 14, 16] ?_;simp only [zP, Nat.reduceEqDiff, reduceIte];refine awp_seq_k fun K15 hK15 => ?_;refine awp_block ?_;refine aS fun K hK => ?_;simp -dsimp [gs];refine idxK_intro (bCell (bAt fe k)) (fun _ => by simp [ge]) ?_;simp -dsimp [gs];apply hK;clear hK K;refine awp_cond rfl (fun hc10 => ?_) (fun hc10 => ?_)
       ·refine aR fun K hK => ?_;simp -dsimp [wc];apply hK;clear hK K;simp only [zT, reduceIte, Nat.reduceEqDiff];refine hK15 _ _ ?_;refine awp_prune [3, 4, 7, 11, 14, 16] ?_;simp only [zP, Nat.reduceEqDiff, reduceIte];refine aR fun K hK => ?_;simp -dsimp [wk];apply hK;clear hK K;simp only [zT, reduceIte, Nat.reduceEqDiff];have hb : bAt s.Feeds k = true ∧ bAt fe k = false := by simpa using hc10
        have e : c0 + cntT (s.Feeds.take (k + 1)) - cntT (fe.take (k + 1)) = c + 1 := by rw [cs, cs2, hb.1, hb.2]; simp; omega
        exact ⟨k + 1, by omega, by omega, sub_rb [some 0, some 1, some 2, some 3] rfl (by simp only [e]; simp) (by simp)⟩
       ·refine awp_skip ?_;simp only [zT, reduceIte, Nat.reduceEqDiff];refine hK15 _ _ ?_;refine awp_prune [3, 4, 7, 11, 14, 16] ?_;simp only [zP, Nat.reduceEqDiff, reduceIte];refine aR fun K hK => ?_;simp -dsimp [wk];apply hK;clear hK K;simp only [zT, reduceIte, Nat.reduceEqDiff];have hb : bAt s.Feeds k = bAt fe k := by
         cases h1 : bAt s.Feeds k <;> cases h2 : bAt fe k
         ·rfl
         ·rw [f7 h2] at h1; cases h1
         ·rw [h1, h2] at hc10; simp at hc10
         ·rfl
        have e : c0 + cntT (s.Feeds.take (k + 1)) - cntT (fe.take (k + 1)) = c := by rw [cs, cs2, hb]; split <;> simp <;> omega
        exact ⟨k + 1, by omega, by omega, sub_rb [some 0, some 1, some 2, some 3] rfl (by simp only [e]; simp) (by simp)⟩
      ·have hke : k = g.Feeds.length := by have hx : ¬ k < g.Feeds.length := (by simpa using hc9); omega
       have hsf := hnt.sf;rw [hke, List.take_of_length_le (by omega), List.take_of_length_le (by omega), ← (show (cu.length : Int) = c0 + cntT s.Feeds - cntT fe by omega)];have r1 := c_rSame vs vs (by omega);have r2 := c_rSame fs fs (by omega);refine awp_weak (sub_rf (T' := [(3, .ptr 0 0 0), (4, .ptr 1 0 0), (7, .ptr 2 0 0), (11, lL S), (14, I cu.length)]) (H' := [some (.els 4 [g.cells]), some (.els 2 [s.cells]), some (.els 6 [[fL vs, fL fs, bL fe, bL s.Wires, bL sv, cL cu]])]) [some 0, some 1, some 2] rfl ⟨.inr (by simp), .inr (by simp), .inr (by simp), .inr (by simp), .inr (by simp), trivial⟩ (by simp)) ?_;refine awp_exit ?_;simp only [zT, reduceIte, Nat.reduceEqDiff];refine hK13 _ _ ?_;refine awp_prune [3, 7, 11, 14] ?_;simp only [zP, Nat.reduceEqDiff, reduceIte];refine aS fun K hK => ?_;simp -dsimp;refine callK_intro _ (hso) (by simp) ?_;simp -dsimp;apply hK;clear hK K;refine aS fun K hK => ?_;simp -dsimp;refine callK_intro _ (hst2) (by simp) ?_;simp -dsimp;apply hK;clear hK K;refine aS fun K hK => ?_;simp -dsimp;refine callK_may _ (fun hm => r1) (by simp) ?_;simp -dsimp;refine callK_may _ (fun hm => r2) (by simp) ?_;simp -dsimp;refine callK_may _ (fun hm => hk) (by simp) ?_;simp -dsimp;apply hK;clear hK K;exact awp_ret (by simp)
end Go.Cur
end
section
namespace Go.Tram
open Go.AM Go.Proofs
def RC (w : World) (avs : List AV) (cs : List Value) : Prop := avs.length = cs.length ∧ ∀ (i : Nat) c x, avs[i]? = some c → cs[i]? = some x → RepP w (fun _ => False) c x ∧ isCell x = true
theorem RC.one {w : World} {a : AV} {x : Value} (h : RepP w (fun _ => False) a x) (hc : isCell x = true) : RC w [a] [x] := by
 refine ⟨rfl, fun i c y h1 h2 => ?_⟩
 cases i with
 | zero => simp at h1 h2; subst h1 h2; exact ⟨h, hc⟩
 | succ i => simp at h1
theorem RC.app {w : World} {a b : List AV} {x y : List Value} (h : RC w a x) (k : RC w b y) : RC w (a ++ b) (x ++ y) := by
 refine ⟨by simp [h.1, k.1], fun i c u h1 h2 => ?_⟩
 by_cases hi : i < a.length
 ·rw [List.getElem?_append_left hi] at h1;rw [List.getElem?_append_left (by rw [← h.1]; exact hi)] at h2;exact h.2 i c u h1 h2
 ·rw [List.getElem?_append_right (by omega)] at h1;rw [List.getElem?_append_right (by rw [← h.1]; omega), ← h.1] at h2;exact k.2 _ c u h1 h2
def layB : List (Nat × Nat × TypeId) → Nat → Nat → Bool
 | [], o, n => o == n
 | (off, sz, _) :: r, o, n => off == o && layB r (o + sz) n
theorem layB_le : ∀ (fs : List (Nat × Nat × TypeId)) (o n : Nat), layB fs o n = true → o ≤ n
 | [], o, n, h => by simp [layB] at h; omega
 | (off, sz, t) :: r, o, n, h => by
  simp only [layB, Bool.and_eq_true] at h;have := layB_le r _ _ h.2;omega
theorem layB_off : ∀ (fs : List (Nat × Nat × TypeId)) (o n : Nat), layB fs o n = true → ∀ f ∈ fs, o ≤ f.1
 | [], o, n, h, f, hf => by cases hf
 | (off, sz, t) :: r, o, n, h, f, hf => by
  simp only [layB, Bool.and_eq_true, beq_iff_eq] at h
  rcases List.mem_cons.1 hf with rfl | hf
  ·simp only []; omega
  ·have := layB_off r _ _ h.2 f hf; omega
theorem assemble {w : World} {Q : (Nat × Nat × TypeId) → List AV → Prop} : ∀ (fs : List (Nat × Nat × TypeId)) (o N : Nat) (cs : List Value), layB fs o N = true → cs.length = N →
  (∀ f ∈ fs, ∃ a, RC w a ((cs.drop f.1).take f.2.1) ∧ Q f a) → ∃ avs, RC w avs (cs.drop o) ∧ ∀ f ∈ fs, Q f ((avs.drop (f.1 - o)).take f.2.1)
 | [], o, N, cs, h, hl, _ => by
  simp only [layB, beq_iff_eq] at h;refine ⟨[], ⟨by simp; omega, fun i c x h1 => by simp at h1⟩, fun f hf => by cases hf⟩
 | (off, sz, t) :: r, o, N, cs, h, hl, hq => by
  simp only [layB, Bool.and_eq_true, beq_iff_eq] at h;obtain ⟨rfl, h2⟩ := h;have hle := layB_le r _ _ h2;obtain ⟨a, ha, hqa⟩ := hq _ (List.mem_cons_self ..);obtain ⟨b, hb, hqb⟩ := assemble r (off + sz) N cs h2 hl (fun f hf => hq f (List.mem_cons_of_mem _ hf));have hal : a.length = sz := by rw [ha.1]; simp; omega
  have hsplit : cs.drop off = (cs.drop off).take sz ++ cs.drop (off + sz) := by rw [← List.drop_drop, List.take_append_drop]
  refine ⟨a ++ b, by rw [hsplit]; exact ha.app hb, fun f hf => ?_⟩
  rcases List.mem_cons.1 hf with rfl | hf
  ·simp only [Nat.sub_self, List.drop_zero];rw [List.take_append_of_le_length (by omega), List.take_of_length_le (by omega)];exact hqa
  ·have ho := layB_off r _ _ h2 f hf;have := hqb f hf;rw [List.drop_append, List.drop_eq_nil_of_le (by omega), List.nil_append, hal, show f.1 - off - sz = f.1 - (off + sz) by omega];exact this
section
variable {P : Program}
def goodB (P : Program) : Nat → TypeId → Bool
 | 0, _ => false
 | n + 1, t => match ktOf P t with
  | some _ => true
  | none => match tdOf P t with
   | .slice e => decide ((tdOf P e).size ≠ 0) && goodB P n e
   | .agg z fs => layB fs 0 z.length && fs.all fun f => goodB P n f.2.2
   | _ => false
def Shaped (P : Program) : Nat → TypeId → List AV → Prop
 | 0, _, _ => False
 | n + 1, t, avs => match ktOf P t with
  | some (.i k) => ∃ m, avs = [.v (.int k m)] ∧ (Lit.int k m).wf = true
  | some .b => ∃ b, avs = [.v (.bool b)]
  | none => match tdOf P t with
   | .slice e => ∃ els, avs = [.lst (tdOf P e).size els] ∧ els.length ≤ maxLen ∧ ∀ el ∈ els, Shaped P n e el
   | .agg z fs => avs.length = z.length ∧ ∀ f ∈ fs, Shaped P n f.2.2 ((avs.drop f.1).take f.2.1)
   | _ => False
theorem cellsOf_td (w : World) {e : TypeId} (h : tdOf P e ≠ .bad) : P.cellsOf e = (tdOf P e).size := by
 obtain ⟨i, h1, h2, _⟩ := td_size (P := P) (w := w) h;simp [Program.cellsOf, h1, h2]
theorem elems_of {w : World} {R : List AV → List Value → Prop} {g : Nat → Option (List Value)} : ∀ n, (∀ i, i < n → ∃ cs, g i = some cs ∧ ∃ a, R a cs) →
  ∃ (els : List (List AV)) (css : List (List Value)), els.length = n ∧ css.length = n ∧ ∀ (i : Nat) a cs, els[i]? = some a → css[i]? = some cs → g i = some cs ∧ R a cs
 | 0, _ => ⟨[], [], rfl, rfl, fun i a cs h => by simp at h⟩
 | n + 1, h => by
  obtain ⟨els, css, h1, h2, h3⟩ := elems_of (w := w) (R := R) (g := g) n (fun i hi => h i (by omega));obtain ⟨cs, hg, a, ha⟩ := h n (by omega);refine ⟨els ++ [a], css ++ [cs], by simp [h1], by simp [h2], fun i b ds k1 k2 => ?_⟩
  by_cases hi : i < n
  ·rw [List.getElem?_append_left (by omega)] at k1 k2;exact h3 i b ds k1 k2
  ·have hn : i = n := by
    have := (List.getElem?_eq_some_iff.1 k1).1;simp [h1] at this; omega
   subst hn;rw [List.getElem?_append_right (by omega)] at k1 k2;simp [h1, h2] at k1 k2;subst k1 k2;exact ⟨hg, ha⟩
theorem trod_rc {H : Type} {enc : TypeId × Value → H} {w : World} {spare : Nat → Bool} {held : Bool} : ∀ (n : Nat) (fuel : Nat) (t : TypeId) (cs : List Value) (x : DataW H × List MemPlace), goodB P n t = true →
  DataW.trod enc P w 0 spare held fuel t cs = some x → ∃ avs, RC w avs cs ∧ Shaped P n t avs := by
 intro n
 induction n with
 | zero => intro fuel t cs x h; simp [goodB] at h
 | succ n ih =>
  intro fuel t cs x hg h;unfold goodB at hg;unfold Shaped
  cases hk : ktOf P t with
  | some kt =>
   have hu := (ktOf_cell hk).2.2.2
   cases kt with
   | i k =>
    obtain ⟨m, rfl, rfl, hw⟩ := DataW.trod_int hu h;exact ⟨[.v (.int k m)], RC.one (.v _) rfl, m, rfl, hw⟩
   | b =>
    obtain ⟨b, rfl, rfl⟩ := DataW.trod_bool hu h;exact ⟨[.v (.bool b)], RC.one (.v _) rfl, b, rfl⟩
  | none =>
   rw [hk] at hg;simp only at hg ⊢
   cases ht : tdOf P t with
   | cell z => rw [ht] at hg; simp at hg
   | arr z m e => rw [ht] at hg; simp at hg
   | bad => rw [ht] at hg; simp at hg
   | slice e =>
    rw [ht] at hg;simp only [Bool.and_eq_true, decide_eq_true_eq] at hg ⊢;obtain ⟨hsz, hge⟩ := hg;have hne : tdOf P e ≠ .bad := by intro hb; rw [hb] at hsz; exact hsz rfl
    have hc := cellsOf_td w hne;obtain ⟨info, h1, h2, _⟩ := tdOf_slice ht
    rcases DataW.trod_slice h2 h with ⟨rfl, rfl⟩ | ⟨a, len, cap, elems, rest, n', rfl, rfl, rfl, hb, hl, hcap, hel, hall, _⟩
    ·exact ⟨[.lst (tdOf P e).size []], RC.one (.lstNil _ _ _) rfl, [], rfl, by simp, by simp⟩
    ·rw [hc] at hall;obtain ⟨els, css, e1, e2, e3⟩ := elems_of (w := w) (R := fun a cs => RC w a cs ∧ Shaped P n e a) (g := fun i => w.cells? 0 (a.add (i * (tdOf P e).size)) (tdOf P e).size) len (fun i hi => by
      have h3 := hall i hi;obtain ⟨y, hy⟩ : ∃ y, elems[i]? = some y := ⟨_, List.getElem?_eq_getElem (by omega)⟩;rw [hy, Option.bind_eq_some_iff] at h3;obtain ⟨cs, q1, q2⟩ := h3;obtain ⟨av, r1, r2⟩ := ih _ _ _ _ hge q2;exact ⟨cs, q1, av, r1, r2⟩)
     refine ⟨[.lst (tdOf P e).size els], ?_, els, rfl, by omega, ?_⟩
     ·refine RC.one ?_ rfl
      by_cases hlen : len = 0
      ·have : els = [] := List.eq_nil_of_length_eq_zero (by omega);subst this;subst hlen;exact .lstNil _ _ _
      ·have hcell : ∀ (i j : Nat) cs, css[i]? = some cs → j < (tdOf P e).size → w.cell? ((a.add (i * (tdOf P e).size)).add j) = cs[j]? ∧ cs.length = (tdOf P e).size := by
        intro i j cs hi hj;have hil := (List.getElem?_eq_some_iff.1 hi).1;obtain ⟨av, hav⟩ : ∃ av, els[i]? = some av := ⟨_, List.getElem?_eq_getElem (by omega)⟩;have := World.cells?_some (e3 i av cs hav hi).1;exact ⟨this.2.2 j hj, this.2.1⟩
       have hspot : a.spot = none := by
        obtain ⟨cs, hcs⟩ : ∃ cs, css[0]? = some cs := ⟨_, List.getElem?_eq_getElem (by omega)⟩;obtain ⟨k1, k2⟩ := hcell 0 0 cs hcs (by omega);rw [List.getElem?_eq_getElem (by omega)] at k1;have ha : (a.add (0 * (tdOf P e).size)).add 0 = a := by simp [Addr.add]
        rw [ha] at k1;exact World.cell?_spot k1
       obtain ⟨b, off, sp⟩ := a;simp only at hspot;subst hspot;have hcl : ∀ c ∈ css, c.length = (tdOf P e).size := by
        intro c hc';obtain ⟨i, hi⟩ := List.getElem?_of_mem hc';exact (hcell i 0 c hi (by omega)).2
       have hell : ∀ c ∈ els, c.length = (tdOf P e).size := by
        intro c hc';obtain ⟨i, hi⟩ := List.getElem?_of_mem hc';have hil := (List.getElem?_eq_some_iff.1 hi).1;obtain ⟨cs, hcs⟩ : ∃ cs, css[i]? = some cs := ⟨_, List.getElem?_eq_getElem (by omega)⟩;rw [(e3 i c cs hi hcs).2.1.1];exact hcl cs (List.mem_of_getElem? hcs)
       have key : ∀ (i : Nat) (x : Value), css.flatten[i]? = some x → ∃ q j cs, i = q * (tdOf P e).size + j ∧ j < (tdOf P e).size ∧ css[q]? = some cs ∧ cs[j]? = some x := by
        intro i x hx;have hil := (List.getElem?_eq_some_iff.1 hx).1;rw [length_flatten hcl] at hil;have hq : i / (tdOf P e).size < css.length := by rw [Nat.div_lt_iff_lt_mul (by omega)]; exact hil
        have hj := Nat.mod_lt i (show (tdOf P e).size > 0 by omega);have hme : i = i / (tdOf P e).size * (tdOf P e).size + i % (tdOf P e).size := by rw [Nat.mul_comm]; exact (Nat.div_add_mod i _).symm
        obtain ⟨cs, hcs⟩ : ∃ cs, css[i / (tdOf P e).size]? = some cs := ⟨_, List.getElem?_eq_getElem hq⟩;refine ⟨_, _, cs, hme, hj, hcs, ?_⟩;have := flatten_get hcl hcs (i % (tdOf P e).size) hj;rw [← hme] at this;rw [← this]; exact hx
       have hre : els.length = len := e1;rw [← hre];have hblk : b < w.heap.size := by
        obtain ⟨cs, hcs⟩ : ∃ cs, css[0]? = some cs := ⟨_, List.getElem?_eq_getElem (by omega)⟩;obtain ⟨k1, k2⟩ := hcell 0 0 cs hcs (by omega);rw [List.getElem?_eq_getElem (by omega)] at k1;simp only [Nat.zero_mul, Addr.add_lit, Nat.add_zero] at k1
        rcases Nat.lt_or_ge b w.heap.size with hlt | hge
        ·exact hlt
        ·simp [World.cell?, Array.getElem?_eq_none hge] at k1
       refine RepP.lst _ els b off cap css.flatten (fun h => h) hblk (by omega) hell (by rw [length_flatten hell, length_flatten hcl, e1, e2]) ?_ ?_
       ·intro i x hx;obtain ⟨q, j, cs, rfl, hj, hcs, hxj⟩ := key i x hx;obtain ⟨k1, _⟩ := hcell q j cs hcs hj;rw [Addr.add_lit, Addr.add_lit, hxj] at k1;obtain ⟨av, hav⟩ : ∃ av, els[q]? = some av := ⟨_, List.getElem?_eq_getElem (by have := (List.getElem?_eq_some_iff.1 hcs).1; omega)⟩;have hr := (e3 q av cs hav hcs).2.1;obtain ⟨c, hc'⟩ : ∃ c, av[j]? = some c := ⟨_, List.getElem?_eq_getElem (by rw [hr.1]; exact (List.getElem?_eq_some_iff.1 hxj).1)⟩;refine ⟨?_, (hr.2 j c x hc' hxj).2⟩;rw [← Nat.add_assoc]; exact k1
       ·intro i c x hc' hx;obtain ⟨q, j, cs, rfl, hj, hcs, hxj⟩ := key i x hx;obtain ⟨av, hav⟩ : ∃ av, els[q]? = some av := ⟨_, List.getElem?_eq_getElem (by have := (List.getElem?_eq_some_iff.1 hcs).1; omega)⟩;rw [flatten_get hell hav j hj] at hc';exact ((e3 q av cs hav hcs).2.1.2 j c x hc' hxj).1
     ·intro el hel';obtain ⟨i, hi⟩ := List.getElem?_of_mem hel';have hil := (List.getElem?_eq_some_iff.1 hi).1;obtain ⟨cs, hcs⟩ : ∃ cs, css[i]? = some cs := ⟨_, List.getElem?_eq_getElem (by omega)⟩;exact (e3 i el cs hi hcs).2.2
   | agg z fs =>
    rw [ht] at hg;simp only [Bool.and_eq_true] at hg ⊢;obtain ⟨hlay, hgf⟩ := hg;obtain ⟨info, fa, h1, h2, h3, h4, hfs, _, hall⟩ := tdOf_agg ht;obtain ⟨xs, n', rfl, rfl, hl, hxl, hf⟩ := DataW.trod_struct h2 h;have hcl : cs.length = z.length := by rw [hl]; simp [Program.cellsOf, h1, h4]
    obtain ⟨avs, hr, hq⟩ := assemble (w := w) (Q := fun f a => Shaped P n f.2.2 a) fs 0 z.length cs hlay hcl (fun f hff => by
     have hff' := hff;rw [hfs, List.mem_map] at hff';obtain ⟨fd, hfd, rfl⟩ := hff';obtain ⟨i, hi⟩ := List.getElem?_of_mem hfd;have hia : fa[i]? = some fd := by simpa using hi
     have htr := hf i fd hia;have hil : i < xs.length := by rw [hxl]; exact (Array.getElem?_eq_some_iff.1 hia).1
     rw [List.getElem?_eq_getElem hil] at htr;exact ih _ _ _ _ (List.all_eq_true.1 hgf _ hff) htr)
    rw [List.drop_zero] at hr;refine ⟨avs, hr, by rw [hr.1, hcl], fun f hff => ?_⟩;have := hq f hff
    rwa [Nat.sub_zero] at this
end
end Go.Tram
end
section
namespace Go.Cur
open Go.AM Go.Proofs Go.Tram
section
variable {P : Program}
theorem shaped_slice {n : Nat} {t e : TypeId} {avs : List AV} (hk : ktOf P t = none) (ht : tdOf P t = .slice e) (h : Shaped P (n + 1) t avs) : ∃ els, avs = [.lst (tdOf P e).size els] ∧ els.length ≤ maxLen ∧ ∀ el ∈ els, Shaped P n e el := by
 simp only [Shaped, hk, ht] at h; exact h
theorem shaped_agg {n : Nat} {t : TypeId} {z : List Value} {fs : List (Nat × Nat × TypeId)} {avs : List AV} (hk : ktOf P t = none) (ht : tdOf P t = .agg z fs) (h : Shaped P (n + 1) t avs) : avs.length = z.length ∧ ∀ f ∈ fs, Shaped P n f.2.2 ((avs.drop f.1).take f.2.1) := by
 simp only [Shaped, hk, ht] at h; exact h
theorem shaped_int {n : Nat} {t : TypeId} {k : IntKind} {avs : List AV} (hk : ktOf P t = some (.i k)) (h : Shaped P (n + 1) t avs) : ∃ m, avs = [.v (.int k m)] ∧ (Lit.int k m).wf = true := by
 simp only [Shaped, hk] at h; exact h
theorem shaped_bool {n : Nat} {t : TypeId} {avs : List AV} (hk : ktOf P t = some .b) (h : Shaped P (n + 1) t avs) : ∃ b, avs = [.v (.bool b)] := by
 simp only [Shaped, hk] at h; exact h
end
theorem list_of {α : Type} {c : α → List AV} {R : α → Prop} : ∀ {els : List (List AV)}, (∀ el ∈ els, ∃ a, el = c a ∧ R a) → ∃ l : List α, els = l.map c ∧ ∀ a ∈ l, R a
 | [], _ => ⟨[], rfl, by simp⟩
 | e :: els, h => by
  obtain ⟨a, rfl, ha⟩ := h e (List.mem_cons_self ..);obtain ⟨l, rfl, hl⟩ := list_of (els := els) (c := c) (R := R) (fun el hel => h el (List.mem_cons_of_mem _ hel));refine ⟨a :: l, rfl, fun b hb => ?_⟩
  rcases List.mem_cons.1 hb with rfl | hb
  ·exact ha
  ·exact hl b hb
theorem und_bool2 : (Try.prog).underlying 4 = some .bool := by kernel_rfl
theorem k_int : ktOf Try.prog 3 = some (.i .i64) := by kernel_rfl
theorem k_bool : ktOf Try.prog 4 = some .b := by kernel_rfl
def I64 (n : Int) : Prop := -9223372036854775808 ≤ n ∧ n ≤ 9223372036854775807
theorem wf_i64 {m : Int} (h : (Lit.int .i64 m).wf = true) : I64 m := by
 simpa [Lit.wf, IntKind.min, IntKind.max, IntKind.signed, IntKind.bits, I64] using h
theorem sh_int {n : Nat} {avs : List AV} (h : Shaped Try.prog (n + 1) 3 avs) : ∃ m, avs = [I m] ∧ I64 m := by
 obtain ⟨m, h1, h2⟩ := shaped_int k_int h; exact ⟨m, h1, wf_i64 h2⟩
theorem list2 {α : Type} {l : List α} (h : l.length = 2) : ∃ a b, l = [a, b] := by match l, h with | [a, b], _ => exact ⟨a, b, rfl⟩
theorem list3 {α : Type} {l : List α} (h : l.length = 3) : ∃ a b c, l = [a, b, c] := by match l, h with | [a, b, c], _ => exact ⟨a, b, c, rfl⟩
theorem list4 {α : Type} {l : List α} (h : l.length = 4) : ∃ a b c d, l = [a, b, c, d] := by match l, h with | [a, b, c, d], _ => exact ⟨a, b, c, d, rfl⟩
theorem sh_bl {n : Nat} {avs : List AV} (h : Shaped Try.prog (n + 1) 4 avs) : ∃ b, avs = bCell b := shaped_bool k_bool h
theorem sh_bools {n : Nat} {avs : List AV} (h : Shaped Try.prog (n + 2) 26 avs) : ∃ l : List Bool, avs = [bL l] ∧ l.length ≤ maxLen := by
 obtain ⟨els, hl, hb, he⟩ := shaped_slice (by kernel_rfl) td26 h;obtain ⟨l, rfl, hR⟩ := list_of (c := bCell) (R := fun _ => True) (fun el hel => by obtain ⟨b, h⟩ := sh_bl (he el hel); exact ⟨b, h, trivial⟩);simp at hl hb;exact ⟨l, hl, hb⟩
theorem sh_wire {n : Nat} {avs : List AV} (h : Shaped Try.prog (n + 2) 54 avs) : ∃ s : Wr, avs = s.cells := by
 obtain ⟨h1, h2⟩ := shaped_agg (by kernel_rfl) td54 h;obtain ⟨a, b, c, d, rfl⟩ := list4 h1;obtain ⟨x, hx, _⟩ := sh_int (h2 (0, 1, 3) (by simp));obtain ⟨y, hy, _⟩ := sh_int (h2 (1, 1, 3) (by simp));obtain ⟨z, hz, _⟩ := sh_int (h2 (2, 1, 3) (by simp));obtain ⟨u, hu⟩ := sh_bl (h2 (3, 1, 4) (by simp));simp at hx hy hz hu;subst hx hy hz hu;exact ⟨⟨x, y, z, u⟩, rfl⟩
theorem sh_feed {n : Nat} {avs : List AV} (h : Shaped Try.prog (n + 2) 52 avs) : ∃ s : Fd, avs = s.cells := by
 obtain ⟨h1, h2⟩ := shaped_agg (by kernel_rfl) td52 h;obtain ⟨a, b, c, d, rfl⟩ := list4 h1;obtain ⟨x, hx, _⟩ := sh_int (h2 (0, 1, 3) (by simp));obtain ⟨y, hy, _⟩ := sh_int (h2 (1, 1, 3) (by simp));obtain ⟨z, hz, _⟩ := sh_int (h2 (2, 1, 3) (by simp));obtain ⟨u, hu, _⟩ := sh_int (h2 (3, 1, 3) (by simp));simp at hx hy hz hu;subst hx hy hz hu;exact ⟨⟨x, y, z, u⟩, rfl⟩
theorem sh_load {n : Nat} {avs : List AV} (h : Shaped Try.prog (n + 2) 66 avs) : ∃ s : Ld, avs = s.cells ∧ I64 s.Units := by
 obtain ⟨h1, h2⟩ := shaped_agg (by kernel_rfl) td66 h;obtain ⟨a, b, c, rfl⟩ := list3 h1;obtain ⟨x, hx, _⟩ := sh_int (h2 (0, 1, 3) (by simp));obtain ⟨y, hy, iy⟩ := sh_int (h2 (1, 1, 3) (by simp));obtain ⟨z, hz, _⟩ := sh_int (h2 (2, 1, 3) (by simp));simp at hx hy hz;subst hx hy hz;exact ⟨⟨x, y, z⟩, rfl, iy⟩
theorem sh_grid {n : Nat} {avs : List AV} (h : Shaped Try.prog (n + 4) 25 avs) : ∃ g : Gr, avs = g.cells ∧ g.Wires.length ≤ maxLen ∧ g.Feeds.length ≤ maxLen := by
 obtain ⟨h1, h2⟩ := shaped_agg (by kernel_rfl) td25 h;obtain ⟨a, b, c, d, rfl⟩ := list4 h1;obtain ⟨x, hx, _⟩ := sh_int (h2 (0, 1, 3) (by simp));obtain ⟨e1, hl1, b1, he1⟩ := shaped_slice (by kernel_rfl) td22 (h2 (1, 1, 22) (by simp));obtain ⟨l1, rfl, _⟩ := list_of (c := Wr.cells) (R := fun _ => True) (fun el hel => by obtain ⟨b, h⟩ := sh_wire (he1 el hel); exact ⟨b, h, trivial⟩);obtain ⟨e2, hl2, b2, he2⟩ := shaped_slice (by kernel_rfl) td23 (h2 (2, 1, 23) (by simp));obtain ⟨l2, rfl, _⟩ := list_of (c := Fd.cells) (R := fun _ => True) (fun el hel => by obtain ⟨b, h⟩ := sh_feed (he2 el hel); exact ⟨b, h, trivial⟩);obtain ⟨y, hy, _⟩ := sh_int (h2 (3, 1, 3) (by simp));simp at hx hl1 hl2 hy;subst hx hl1 hl2 hy;rw [List.length_map] at b1 b2;exact ⟨⟨x, l1, l2, y⟩, by simp, b1, b2⟩
theorem sh_state {n : Nat} {avs : List AV} (h : Shaped Try.prog (n + 4) 28 avs) : ∃ s : Sta, avs = s.cells ∧ s.Feeds.length ≤ maxLen ∧ s.Wires.length ≤ maxLen := by
 obtain ⟨h1, h2⟩ := shaped_agg (by kernel_rfl) td28 h;obtain ⟨a, b, rfl⟩ := list2 h1;obtain ⟨l1, hl1, b1⟩ := sh_bools (h2 (0, 1, 26) (by simp));obtain ⟨l2, hl2, b2⟩ := sh_bools (h2 (1, 1, 26) (by simp));simp at hl1 hl2;subst hl1 hl2;exact ⟨⟨l1, l2⟩, by simp, b1, b2⟩
theorem sh_loads {n : Nat} {avs : List AV} (h : Shaped Try.prog (n + 3) 29 avs) : ∃ l : List Ld, avs = [lL l] ∧ l.length ≤ maxLen ∧ ∀ x ∈ l, I64 x.Units := by
 obtain ⟨els, hl, hb, he⟩ := shaped_slice (by kernel_rfl) td29 h;obtain ⟨l, rfl, hR⟩ := list_of (c := Ld.cells) (R := fun x => I64 x.Units) (fun el hel => sh_load (he el hel));rw [List.length_map] at hb;exact ⟨l, hl, hb, hR⟩
open Go.WideShapes in
theorem arg_agg {H : Type} {enc : TypeId × Value → H} {W : World} {base n : Nat} {t : TypeId} {v : Value} {d : DataW H} {p : List MemPlace} {z : List Value} {fs : List (Nat × Nat × TypeId)} (hg : goodB Try.prog n t = true) (ht : tdOf Try.prog t = .agg z fs)
  (hv : Value.okWide Try.prog W .any base t v) (h : DataW.Trod enc Try.prog W 0 (fun _ => true) true t v d p) : ∃ avs, RepP W (fun _ => False) (.agg avs) v ∧ Shaped Try.prog n t avs := by
 obtain ⟨fuel, h⟩ := h;obtain ⟨avs, hr, hs⟩ := trod_rc n fuel t _ _ hg h;obtain ⟨info, fa, h1, h2, _⟩ := tdOf_agg ht;obtain ⟨cs, rfl, _⟩ := okWide_struct h2 hv;refine ⟨avs, ?_, hs⟩;have := RepP.agg (w := W) (S := fun _ => False) avs cs.toList hr.1 (fun x hx => by
  obtain ⟨i, hi⟩ := List.getElem?_of_mem hx;have hil := (List.getElem?_eq_some_iff.1 hi).1;obtain ⟨c, hc⟩ : ∃ c, avs[i]? = some c := ⟨_, List.getElem?_eq_getElem (by rw [hr.1]; exact hil)⟩;exact (hr.2 i c x hc hi).2) (fun i c x h1 h2 => (hr.2 i c x h1 h2).1)
 simpa using this
open Go.WideShapes in
theorem arg_slice {H : Type} {enc : TypeId × Value → H} {W : World} {base n : Nat} {t e : TypeId} {v : Value} {d : DataW H} {p : List MemPlace} (hg : goodB Try.prog n t = true) (ht : tdOf Try.prog t = .slice e)
  (hv : Value.okWide Try.prog W .any base t v) (h : DataW.Trod enc Try.prog W 0 (fun _ => true) true t v d p) : ∃ av, RepP W (fun _ => False) av v ∧ Shaped Try.prog n t [av] := by
 obtain ⟨fuel, h⟩ := h;obtain ⟨avs, hr, hs⟩ := trod_rc n fuel t _ _ hg h;obtain ⟨info, h1, h2, _⟩ := tdOf_slice ht;obtain ⟨a, len, cap, rfl⟩ := okWide_slice h2 hv;have hl : avs.length = 1 := by rw [hr.1]; rfl
 match avs, hl, hr, hs with
 | [av], _, hr, hs => exact ⟨av, (hr.2 0 av _ rfl rfl).1, hs⟩
theorem laid : laidOutB Try.prog = true := by kernel_rfl
theorem mapped : mapsRowed Try.prog = true := by kernel_rfl
theorem kids : Kids Try.prog (· < Try.prog.types.size) := kids_rows laid mapped
theorem full : ∀ t e, t < Try.prog.types.size → Try.prog.underlying t = some (.slice e) → 0 < Try.prog.cellsOf e := slices_full_of Try.prog (by kernel_rfl)
theorem ext_cell {w w' : World} (h : Ext (fun _ => False) w w') {a : Addr} (ha : a.block < w.heap.size) : w'.cell? a = w.cell? a := cell_of_block (h.block _ ha (fun k => k))
theorem post_ext {H : Type} {enc : TypeId × Value → H} {f : Func} {s : ChangeSpec} {fresh handsOn again : Bool} {W W' : World} {args : Array Value} {v : Value} {ds : List (DataW H)} {before : List MemPlace}
  (hvars : s.vars = []) (hres : (s.fn H ds).results = [.lit (.bool true)]) (hargs : (s.fn H ds).args = ds) (hvs : (s.fn H ds).vars = []) (hf : f.resultTypes = #[4]) (hts : ∀ t ∈ f.params.toList, t < Try.prog.types.size)
  (hW : DataW.Whole enc Try.prog f.params.toList s.vars false W args.toList ds [] before) (hext : Ext (fun _ => False) W W') (hv : v = .bool true) :
  s.post enc Try.prog f false fresh handsOn again W args v W' := by
 subst hv;have hlt := hW.lt;have hW' := hW;obtain ⟨p, q, hA, hV, hpq, hz, hn⟩ := hW;rw [hvars] at hV;obtain ⟨_, rfl⟩ := Go.ChangeShapes.trodVars_none hV;rw [List.append_nil] at hpq;subst hpq;have carry : ∀ (ts : List TypeId) (vs : List Value) (ds : List (DataW H)) (ps : List MemPlace), DataW.TrodAll enc Try.prog W 0 (fun _ => true) true ts vs ds ps → (∀ x ∈ ps, x.block < W.heap.size) → DataW.TrodAll enc Try.prog W' 0 (fun _ => true) true ts vs ds ps := by
  intro ts
  induction ts with
  | nil => intro vs ds ps h _; match vs, ds, h with | [], [], h => exact h
  | cons t ts ih =>
   intro vs ds ps h hl
   match vs, ds, h with
   | v :: vs, d :: ds, ⟨p1, q1, ⟨n, h1⟩, h2, he⟩ =>
    subst he;refine ⟨p1, q1, ⟨n, DataW.trod_carry n _ _ _ h1 (fun x hx => ?_)⟩, ih vs ds q1 h2 (fun x hx => hl x (List.mem_append_right _ hx)), rfl⟩;have hb := hl x (List.mem_append_left _ hx)
    cases x with
    | cell b off => exact ext_cell hext hb
    | map b => exact hext.block b hb (fun k => k)
 have hA' := carry _ _ _ _ hA hlt;have hag : ∀ sp : Nat → Bool, (∀ x ∈ before, sp x.block = true) → DataW.TrodAll enc Try.prog W' 0 sp true f.params.toList args.toList (s.fn H (ds ++ [])).args before := by
  intro sp hs;rw [List.append_nil, hargs];exact hA'.respare kids full hts hs
 have hr : ∀ (b : Nat) (sp : Nat → Bool) (hd : Bool), DataW.TrodAll enc Try.prog W' b sp hd f.resultTypes.toList ((Value.bool true).resultList f.resultTypes.size) (s.fn H (ds ++ [])).results [] := by
  intro b sp hd;rw [List.append_nil, hres, hf];exact Go.ChangeShapes.trodAll_mk1 (Go.RowKit.shut_bool und_bool2 _)
 have hkept : W.keptBut W' (· ∈ before) := by
  refine ⟨hext.os, hext.output, fun i hi => ?_⟩;rw [hext.block i hi (fun k => k)]
  cases hb : W.heap[i]? with
  | none => trivial
  | some o => cases o <;> simp
 have hv0 : ∀ sp : Nat → Bool, DataW.TrodVars enc Try.prog W' sp s.vars (s.fn H (ds ++ [])).vars [] := by
  intro sp;rw [hvars, List.append_nil, hvs]
  rfl
 have hold : ∀ x ∈ before, (fun b => decide (b < W.heap.size)) x.block = true := fun x hx => by simpa using hlt x hx
 refine ⟨ds, [], before, [], before, [], hW', hr _ _ _, hag _ hold, hv0 _, World.keptBut_mono (fun x hx => ⟨hx, Or.inr (Or.inl hx)⟩) hkept, fun _ => ?_⟩;refine ⟨Go.RowKit.ok_one hf rfl (Go.RowKit.okWide_bool_mk und_bool2 _), _, _, ([] ++ before) ++ [], ⟨[] ++ before, [], Go.ChangeShapes.trodAll_append (hag _ (fun _ _ => rfl)) (hr _ _ _), hv0 _, rfl, ?_, ?_⟩, ?_⟩
 ·intro b off hp;have hp' : MemPlace.cell b off ∈ before := by simpa using hp
  have hb := hlt _ hp';have : W'.frozen? ⟨b, off, none⟩ = W.frozen? ⟨b, off, none⟩ := by unfold World.frozen?; rw [hext.block b hb (fun k => k)]
  rw [this];exact hz b off hp'
 ·intro ha; cases ha
 ·intro x hx _; simpa using hx
theorem law_calls {P : Program} {f : FuncId} {fn : Func} {c : Code} {avs : List AV} {vs : List Value} {W : World} (hf : P.funcs[f]? = some fn) (hb : fn.body = some c) (hname : (fn.name == "runtime.NumGoroutine") = false)
  (h : PureCall P f avs (Bo true)) (hl : avs.length = vs.length) (hr : ∀ (i : Nat) c x, avs[i]? = some c → vs[i]? = some x → RepP W (fun _ => False) c x) :
  Calls P f vs.toArray W fun e W' => e = .returned (.bool true) ∧ Ext (fun _ => False) W W' := by
 have hn' : ¬ fn.name = "runtime.NumGoroutine" := by simpa using hname
 rcases h with ⟨_, h2⟩ | h2
 ·refine (h2 (fun _ => False) W vs (fun b k => k.elim) hl hr).mono fun e W' ⟨v, q1, q2, q3⟩ => ?_
  cases q2
  exact ⟨q1, q3⟩
 ·exfalso;obtain ⟨v, q1, _⟩ := h2 (fun _ => False) W vs hl hr;have : (callFunc f vs.toArray).run P W = .ok (.enter f vs.toArray) W := by simp [callFunc, hf, hn', hb]
  rw [this] at q1
  cases q1
theorem rep_nil {W : World} : ∀ (i : Nat) c x, ([] : List AV)[i]? = some c → ([] : List Value)[i]? = some x → RepP W (fun _ => False) c x := fun i c x h => by simp at h
theorem rep_cons {W : World} {a : AV} {v : Value} {xs : List AV} {vs : List Value} (h : RepP W (fun _ => False) a v) (k : ∀ (i : Nat) c x, xs[i]? = some c → vs[i]? = some x → RepP W (fun _ => False) c x) :
  ∀ (i : Nat) c x, (a :: xs)[i]? = some c → (v :: vs)[i]? = some x → RepP W (fun _ => False) c x := fun i c x h1 h2 => by
 cases i with
 | zero => simp at h1 h2; subst h1 h2; exact h
 | succ i => exact k i c x (by simpa using h1) (by simpa using h2)
end Go.Cur
end
