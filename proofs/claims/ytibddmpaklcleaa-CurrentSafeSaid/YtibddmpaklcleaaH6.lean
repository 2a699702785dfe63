import Derived.Test.YtibddmpaklcleaaH5
set_option maxRecDepth 100000
set_option maxHeartbeats 8000000
set_option linter.unusedVariables false
set_option linter.unusedSimpArgs false
section
namespace Go.Cur
open Go.AM Go.Proofs
def setT (bs : Kvs) (p : List Int) : Kvs := p.foldl (fun b k => kvSet b (ik k) (.bool true)) bs
theorem setT_snoc {bs : Kvs} {p : List Int} {k : Nat} {x : Int} (h : p[k]? = some x) : setT bs (p.take (k + 1)) = kvSet (setT bs (p.take k)) (ik x) (.bool true) := by
 unfold setT;rw [List.take_add_one, h, List.foldl_append]; rfl
theorem ibt_setT (y : Int) : ∀ (p : List Int) (bs : Kvs), ibt (setT bs p) y = (decide (y ∈ p) || ibt bs y)
 | [], bs => by simp [setT]
 | x :: p, bs => by
  have ih := ibt_setT y p (kvSet bs (ik x) (.bool true));unfold setT at ih ⊢;rw [List.foldl_cons, ih, ibt_set]
  by_cases h : y = x
  ·subst h; simp
  ·simp [h]
theorem BolM.setT : ∀ (p : List Int) {bs : Kvs}, BolM bs → BolM (Cur.setT bs p)
 | [], bs, h => h
 | x :: p, bs, h => BolM.setT p (h.set x true)
def lowC (g : Gr) (vf : Nat → Fr) (l : List Ld) (sv : List Bool) (i : Nat) : Bool :=
 bAt sv i && (decide (0 < (ldA l i).Units) && decide ((vf (ldA l i).At.toNat).Num < g.Least * (vf (ldA l i).At.toNat).Den))
def lowS (g : Gr) (s : Sta) (vf : Nat → Fr) (l : List Ld) (sv : List Bool) (bs : Kvs) (i : Nat) : Kvs :=
 if lowC g vf l sv i = true then setT bs (upN (partOf g s (ldA l i).At.toNat)) else bs
def lowM (g : Gr) (s : Sta) (vf : Nat → Fr) (l : List Ld) (sv : List Bool) (n : Nat) : Kvs := (List.range n).foldl (lowS g s vf l sv) []
theorem lowM_succ (g : Gr) (s : Sta) (vf : Nat → Fr) (l : List Ld) (sv : List Bool) (n : Nat) : lowM g s vf l sv (n + 1) = lowS g s vf l sv (lowM g s vf l sv n) n := by
 unfold lowM;rw [List.range_succ, List.foldl_append]; rfl
theorem lowM_bol (g : Gr) (s : Sta) (vf : Nat → Fr) (l : List Ld) (sv : List Bool) : ∀ n, BolM (lowM g s vf l sv n)
 | 0 => BolM.nil
 | n + 1 => by
  rw [lowM_succ];unfold lowS
  split
  ·exact BolM.setT _ (lowM_bol g s vf l sv n)
  ·exact lowM_bol g s vf l sv n
theorem up_fr (n : Nat) (l : List Fr) : (l.map Fr.cells).map (fun e => e.map (upAV n)) = l.map Fr.cells := by
 rw [List.map_map];exact List.map_congr_left fun x _ => rfl
theorem m_lowa (x : Value) (g : Gr) (fe wi : List Bool) (l : List Ld) (sv : List Bool) (vs fs : List Fr) (cuts : List Cu) (hl : l.length ≤ 1000) (hs : sv.length = l.length) (hc : cuts.length ≤ 1000)
  (hld : ∀ y ∈ l, 0 ≤ y.At ∧ y.At < g.Nodes) (hnt : NetOk g ⟨fe, wi⟩) (h12 : Few12 g ⟨fe, wi⟩) (vf : Nat → Fr) (hv : ∀ p ∈ partL g ⟨fe, wi⟩, ∃ v d, VPart g ⟨fe, wi⟩ (tkK l sv) p v d vf)
  (hvd : ∀ k, k < g.Nodes.toNat → 0 < (vf k).Den ∧ (vf k).Den ≤ 100000000000000) (r : Bool) (sv2 : List Bool) (cuts2 : List Cu)
  (ht : ∀ i : Nat, leL l sv (lowB (lowM g ⟨fe, wi⟩ vf l sv l.length)) l.length = i → r = true ∧ sv2 = sv.set i false ∧ cuts2 = cuts ++ [(⟨3, i, vf (ldA l i).At.toNat⟩ : Cu)])
  (hf : leL l sv (lowB (lowM g ⟨fe, wi⟩ vf l sv l.length)) l.length < 0 → r = false ∧ sv2 = sv ∧ cuts2 = cuts) :
  MutCall Try.prog 79 [.ptr 0 0 0] [hSa (.fptr x 1 0 0) l sv.length vs fs cuts.length, hNa g fe wi] [some (.els 1 (sv.map bCell)), some (.els 1 (fe.map bCell)), some (.els 4 (cuts.map Cu.cells))]
   (Bo r) [hSa (.fptr x 1 0 0) l sv2.length (vlA g.Nodes.toNat vf) (flA g ⟨fe, wi⟩ vf) cuts2.length, hNa g fe wi] [some (.els 1 (sv2.map bCell)), some (.els 1 (fe.map bCell)), some (.els 4 (cuts2.map Cu.cells))] := by
 refine MutCall.keep (Hk := [_]) (Hk' := [_]) 0 0 0 (x := x) (i := 0) (o := 0) ?_ rfl rfl rfl rfl rfl rfl;have hbd := grB_bd hnt.gr;have hsol := m_solve_t g ⟨fe, wi⟩ (tkK l sv) hnt h12 vf hv;have hvN : (vlA g.Nodes.toNat vf).length = g.Nodes.toNat := by simp [vlA]
 have hfN : (flA g ⟨fe, wi⟩ vf).length = g.Feeds.length := by simp [flA]
 have htv : List.take g.Nodes.toNat ((vlA g.Nodes.toNat vf).map Fr.cells) = (vlA g.Nodes.toNat vf).map Fr.cells := List.take_of_length_le (by simp; omega);have htf : List.take g.Feeds.length ((flA g ⟨fe, wi⟩ vf).map Fr.cells) = (flA g ⟨fe, wi⟩ vf).map Fr.cells := List.take_of_length_le (by simp; omega);have hlb := leL_bd l sv (lowB (lowM g ⟨fe, wi⟩ vf l sv l.length)) l.length;have hle := c_least (net g ⟨fe, wi⟩) l sv (fL (vlA g.Nodes.toNat vf)) (fL (flA g ⟨fe, wi⟩ vf)) (cL cuts) 98 [[.mpc false [.i .i64] (lowM g ⟨fe, wi⟩ vf l sv l.length)]] (lowB (lowM g ⟨fe, wi⟩ vf l sv l.length)) hl hs
  (fun y hy => c_low1 (lowM g ⟨fe, wi⟩ vf l sv l.length) (lowM_bol _ _ _ _ _ _) y)
 have hgv := fun k (hk : k < g.Nodes.toNat) => vlA_get (vf := vf) hk;obtain ⟨VS, hVS⟩ : ∃ VS, VS = vlA g.Nodes.toNat vf := ⟨_, rfl⟩;obtain ⟨FS, hFS⟩ : ∃ FS, FS = flA g ⟨fe, wi⟩ vf := ⟨_, rfl⟩;obtain ⟨lm, hlm⟩ : ∃ lm : Nat → Kvs, lm = lowM g ⟨fe, wi⟩ vf l sv := ⟨_, rfl⟩;have hls := fun n => lowM_succ g ⟨fe, wi⟩ vf l sv n;have hl0 : lm 0 = [] := by rw [hlm]; rfl
 rw [← hVS] at hsol hvN htv hle hgv ⊢;rw [← hFS] at hsol hfN htf hle ⊢;rw [← hlm] at hle hlb ht hf hls;clear hVS hFS hlm;generalize leL l sv (lowB (lm l.length)) l.length = out at ht hf hlb hle;refine MutCall.of_bodyG [0] Try.func79 rfl (by decide) (by simp [Try.ntmps79]) rfl rfl ?_;intro J hJ;simp only [Try.ntmps79, Try.results79];refine gS fun K hK => ?_;simp -dsimp;apply hK;clear hK K;refine gwp_peekN [3, 4] [0] [(0, stg g ⟨fe, wi⟩ l sv (fL vs) (fL fs) (cL cuts))] (⟨.inr (by simp), trivial⟩) (by decide) (fun T' H' => Go.AM.look T' 3 = .ptr 5 0 0 ∧ Go.AM.look T' 4 = Bo true ∧ H' = [some (.map false [.i .i64] (tkK l sv)), some (.els 2 (VS.map Fr.cells)), some (.els 2 (FS.map Fr.cells)), some (.els 2 [[.row 1 0 g.Nodes.toNat, .row 2 0 g.Feeds.length]]), some (.els 1 [[Bo true]]), some (.els 2 [[.row 1 0 g.Nodes.toNat, .row 2 0 g.Feeds.length]])]) ?_ ?_
 ·intro J1 hJ1;refine gwp_draw mixed rfl (by decide) rfl rfl fun K hK => ?_;simp -dsimp;refine callK_mutF [] [] [some 0] (m_taken l sv hl hs) (by decide) rfl (by simp) (by simp) rfl (by simp) (by simp) (by simp) ?_;simp -dsimp;refine callK_mutF [] [] [none, some 0, some 1, some 2, some 3] (hsol) (by decide) rfl (by simp) (by simp) rfl (by simp) (by simp) (by simp) ?_;simp -dsimp;refine hK _ _ _ (by decide +kernel) ?_; clear hK K;exact ⟨rfl, rfl, by simp⟩
 ·intro T' H' hR;obtain ⟨hR, hR4, rfl⟩ := hR;refine ⟨by simp, ?_⟩;simp only [List.map_cons, List.map_nil, List.cons_append, List.nil_append, List.length_cons, List.length_nil, Nat.reduceAdd, Nat.zero_add, Option.map_some, upAV, upRow, Go.AM.look, Nat.reduceEqDiff, reduceIte, hR, hR4, up_fr];refine gwp_seq_k fun K1 hK1 => ?_;refine gS fun K hK => ?_;simp -dsimp;apply hK;clear hK K;refine gwp_cond rfl (fun hc0 => ?_) (fun hc0 => ?_)
  ·simp at hc0
  ·refine gwp_skip ?_;simp only [zT, reduceIte, Nat.reduceEqDiff];refine hK1 _ _ ?_;refine gwp_prune [0, 3] (Or.inr (by simp)) ?_;simp only [zP, Nat.reduceEqDiff, reduceIte];refine gS fun K hK => ?_;simp -dsimp;apply hK;clear hK K;refine gwp_weak (gsub (sub_rf (T' := [(0, .ptr 0 0 0), (3, .ptr 5 0 0)]) (H' := [hSa (.fptr x 1 0 0) l sv.length VS FS cuts.length, hNa g fe wi, some (.els 1 (sv.map bCell)), some (.els 1 (fe.map bCell)), some (.els 4 (cuts.map Cu.cells)), some (.els 2 [[fL VS, fL FS]])]) [some 0, some 1, some 2, some 3, some 4, some 10] rfl ⟨.inr (by simp), .inr (by simp), trivial⟩ (by simp [htv, htf]; omega)) (by simp)) ?_
   ·refine gS fun K hK => ?_;simp -dsimp;apply hK;clear hK K;refine gwp_seq_k fun K2 hK2 => ?_;refine gS fun K hK => ?_;simp -dsimp;apply hK;clear hK K;refine gwp_block ?_;refine gwp_prune [0, 3, 5, 38, 39, 40] (Or.inr (by simp)) ?_;simp only [zP, Nat.reduceEqDiff, reduceIte];refine gwp_loop_l [0, 3, 5, 38, 39] (α := Nat) (fun k => [(40, I k)]) (fun k => [hSa (.fptr x 1 0 0) l sv.length VS FS cuts.length, hNa g fe wi, some (.els 1 (sv.map bCell)), some (.els 1 (fe.map bCell)), some (.els 4 (cuts.map Cu.cells)), some (.els 2 [[fL VS, fL FS]]), some (.map false [.i .i64] (lm k)), some (.els 1 [[.mp 6]])]) (fun k => k ≤ l.length) (fun k => l.length - k) 0 ?_ ?_ ?_
    ·exact Nat.zero_le _
    ·rw [hl0];exact gsub (sub_same (by simp)) (by simp)
    rintro k k1;simp only [zP, Nat.reduceEqDiff, reduceIte];refine gS fun K hK => ?_;simp -dsimp;apply hK;clear hK K;refine gwp_seq_k fun K3 hK3 => ?_;refine gwp_cond rfl (fun hc1 => ?_) (fun hc1 => ?_)
    ·have hkl : k < l.length := by simpa using hc1
     have wk := zW k (by omega);have gl := ldA_get (l := l) (k := k) hkl;have gb := bAt_get (l := sv) (k := k) (by omega);have hne : ¬ sv = [] := by intro e; rw [e] at hs; simp at hs; omega
     have hks : k < sv.length := by omega
     have hbe : sv[k] = bAt sv k := Option.some.inj (by rw [← List.getElem?_eq_getElem hks]; exact gb);have hya := hld _ (List.mem_of_getElem? gl);have hlk := hls k;unfold lowS lowC at hlk;have hcp := c_part g ⟨fe, wi⟩ l sv (fL VS) (fL FS) (cL cuts) hnt h12 (ldA l k).At hya.1 hya.2;have hpl := upN_len (partOf g ⟨fe, wi⟩ (ldA l k).At.toNat);have hpo := partOf_len g ⟨fe, wi⟩ (ldA l k).At.toNat;generalize upN (partOf g ⟨fe, wi⟩ (ldA l k).At.toNat) = pl at hlk hcp hpl;obtain ⟨kA, hkA⟩ : ∃ kA : Nat, (ldA l k).At = kA := ⟨(ldA l k).At.toNat, by omega⟩;have hkN : kA < g.Nodes.toNat := by omega
     have gv := hgv kA hkN;have hd := hvd kA hkN;rw [hkA, Int.toNat_natCast] at hlk;rw [hkA] at hcp;have hLd : 0 ≤ g.Least * (vf kA).Den ∧ g.Least * (vf kA).Den ≤ 1000000000000000000 := ⟨Int.mul_nonneg (by omega) (by omega), Int.le_trans (Int.mul_le_mul hbd.2.2.2.2.2 hd.2 (by omega) (by omega)) (by omega)⟩;have w1 : IntKind.i64.wrap (g.Least * (vf kA).Den) = g.Least * (vf kA).Den := wrap_in (by omega) (by omega);obtain ⟨LD, hLD⟩ : ∃ LD, g.Least * (vf kA).Den = LD := ⟨_, rfl⟩;rw [hLD] at w1 hlk;refine gwp_skip ?_;simp only [zT, reduceIte, Nat.reduceEqDiff];refine hK3 _ _ ?_;refine gwp_prune [0, 3, 5, 38, 39, 40] (Or.inr (by simp)) ?_;simp only [zP, Nat.reduceEqDiff, reduceIte];refine gwp_seq_k fun K4 hK4 => ?_;refine gwp_block ?_;refine gS fun K hK => ?_;simp -dsimp [gl];apply hK;clear hK K;refine gwp_sd mixed rfl (by decide) rfl rfl fun K hK => ?_;simp -dsimp [gb, hne, hkA, hLD, w1, hks, hbe];refine idxK_intro ((vf kA).cells) (fun _ => by simp [gv]) ?_;simp -dsimp [gb, hne, hkA, hLD, w1, hks, hbe];refine idxK_intro ((vf kA).cells) (fun _ => by simp [gv]) ?_;simp -dsimp [gb, hne, hkA, hLD, w1, hks, hbe];refine hK _ _ _ (by decide +kernel) ?_; clear hK K;refine gwp_cond rfl (fun hc2 => ?_) (fun hc2 => ?_)
     ·refine gwp_thawE [6, 7] [5] [0, 3, 38, 39, 40] [(0, stg g ⟨fe, wi⟩ l sv (fL VS) (fL FS) (cL cuts)), (5, .ptr 1 0 0), (7, .iptr (ldA l k).cells)] [some (.map false [.i .i64] (lm k)), some (.els 1 [[.mp 0]])] (by simp) (by decide) (⟨.inr (by simp), .inr (by simp), .inr (by simp [hkA]), trivial⟩) (by simp) (by decide) (fun T' H' => Go.AM.look T' 5 = .ptr 1 0 0 ∧ H' = [some (.map false [.i .i64] (setT (lm k) pl)), some (.els 1 [[.mp 0]])]) ?_ ?_
      ·intro J1 hJ1;refine gR fun K hK => ?_;simp -dsimp [hkA];refine callK_intro _ (hcp) (by simp) ?_;simp -dsimp [hkA];apply hK;clear hK K;refine ⟨rfl, ?_⟩;refine gwp_block ?_;refine gwp_prune [0, 3, 5, 38, 39, 40, 86, 87, 88] (Or.inr (by simp)) ?_;simp only [zP, Nat.reduceEqDiff, reduceIte];refine gwp_loop_l [0, 3, 5, 38, 39, 40, 86, 87] (α := Nat) (fun j => [(88, I j)]) (fun j => [some (.map false [.i .i64] (setT (lm k) (pl.take j))), some (.els 1 [[.mp 0]])]) (fun j => j ≤ pl.length) (fun j => pl.length - j) 0 ?_ ?_ ?_
       ·exact Nat.zero_le _
       ·exact gsub (sub_same (by simp [setT])) (by simp)
       rintro j j1;simp only [zP, Nat.reduceEqDiff, reduceIte];refine gS fun K hK => ?_;simp -dsimp;apply hK;clear hK K;refine gwp_seq_k fun K5 hK5 => ?_;refine gwp_cond rfl (fun hc3 => ?_) (fun hc3 => ?_)
       ·have hjl : j < pl.length := by simpa using hc3
        obtain ⟨y, hy⟩ : ∃ y, pl[j]? = some y := ⟨_, List.getElem?_eq_getElem hjl⟩;have hst := setT_snoc (bs := lm k) hy;have wj := zW j (by omega);refine gwp_skip ?_;simp only [zT, reduceIte, Nat.reduceEqDiff];refine hK5 _ _ ?_;refine gwp_prune [0, 3, 5, 38, 39, 40, 86, 87, 88] (Or.inr (by simp)) ?_;simp only [zP, Nat.reduceEqDiff, reduceIte];refine gwp_seq_k fun K6 hK6 => ?_;refine gwp_block ?_;refine gS fun K hK => ?_;simp -dsimp [hy];apply hK;clear hK K;refine gR fun K hK => ?_;simp -dsimp;apply hK;clear hK K;simp only [zT, reduceIte, Nat.reduceEqDiff];refine hK6 _ _ ?_;refine gwp_prune [0, 3, 5, 38, 39, 40, 86, 87, 88] (Or.inr (by simp)) ?_;simp only [zP, Nat.reduceEqDiff, reduceIte];refine gR fun K hK => ?_;simp -dsimp [wj];apply hK;clear hK K;simp only [zT, reduceIte, Nat.reduceEqDiff];exact ⟨j + 1, by omega, by omega, gsub (sub_rb [some 0, some 1] rfl (by simp) (by simp [hst])) (by simp)⟩
       ·have hje : j = pl.length := by have hn : ¬ j < pl.length := (by simpa using hc3); omega
        have htk : pl.take pl.length = pl := List.take_of_length_le (by omega);refine gwp_exit ?_;simp only [zT, reduceIte, Nat.reduceEqDiff];exact ⟨trivial, rfl, by simp, by rw [hje, htk]⟩
      ·intro T' H' hR;obtain ⟨hR, rfl⟩ := hR;refine ⟨by simp [thawT], ?_⟩;have hg : gfro [6, 7] 9 = [some 0, some 1, some 2, some 3, some 4, some 5, none, none, some 8] := rfl;have e1 : bkAV [6, 7] (.ptr 1 0 0) = .ptr 7 0 0 := rfl;have e2 : ∀ a b c, bkRow [6, 7] (.map a b c) = .map a b c := fun _ _ _ => rfl;have e3 : bkRow [6, 7] (.els 1 [[.mp 0]]) = .els 1 [[.mp 6]] := rfl;have hr : List.range 9 = [0, 1, 2, 3, 4, 5, 6, 7, 8] := rfl;simp only [thawT, thawH, List.length_cons, List.length_nil, Nat.reduceAdd, Nat.zero_add, hg, hr, List.map_cons, List.map_nil, List.cons_append, List.nil_append, hR];simp only [zT, reduceIte, Nat.reduceEqDiff];refine hK4 _ _ ?_;refine gwp_prune [0, 3, 5, 38, 39, 40] (Or.inr (by simp)) ?_;simp only [zP, Nat.reduceEqDiff, reduceIte];refine gR fun K hK => ?_;simp -dsimp [wk];apply hK;clear hK K;simp only [zT, reduceIte, Nat.reduceEqDiff];have hcd : (bAt sv k && (decide (0 < (ldA l k).Units) && decide ((vf kA).Num < LD))) = true := by simpa [and_assoc] using hc2
       rw [if_pos hcd] at hlk;exact ⟨k + 1, by omega, by omega, gsub (sub_rb [some 0, some 1, some 2, some 3, some 4, some 5, some 6, some 7] rfl (by simp [e1]) (by simp [hlk, e2, e3])) (by simp)⟩
     ·refine gwp_skip ?_;simp only [zT, reduceIte, Nat.reduceEqDiff];refine hK4 _ _ ?_;refine gwp_prune [0, 3, 5, 38, 39, 40] (Or.inr (by simp)) ?_;simp only [zP, Nat.reduceEqDiff, reduceIte];refine gR fun K hK => ?_;simp -dsimp [wk];apply hK;clear hK K;simp only [zT, reduceIte, Nat.reduceEqDiff];have hcd : ¬ (bAt sv k && (decide (0 < (ldA l k).Units) && decide ((vf kA).Num < LD))) = true := by intro h; simp at h; simp [h.1, h.2.1, h.2.2] at hc2
      rw [if_neg hcd] at hlk;exact ⟨k + 1, by omega, by omega, gsub (sub_rb [some 0, some 1, some 2, some 3, some 4, some 5, some 6, some 7] rfl (by simp) (by simp [hlk])) (by simp)⟩
    ·have hke : k = l.length := by have hn : ¬ k < l.length := (by simpa using hc1); omega
     subst hke;refine gwp_exit ?_;simp only [zT, reduceIte, Nat.reduceEqDiff];refine hK2 _ _ ?_;refine gwp_prune [0, 3, 5] (Or.inr (by simp)) ?_;simp only [zP, Nat.reduceEqDiff, reduceIte];refine gS fun K hK => ?_;simp -dsimp;refine callK_intro _ (hle) (by simp) ?_;simp -dsimp;apply hK;clear hK K;refine gwp_seq_k fun K7 hK7 => ?_;refine gS fun K hK => ?_;simp -dsimp;apply hK;clear hK K;refine gwp_cond rfl (fun hc4 => ?_) (fun hc4 => ?_)
     ·obtain ⟨i, rfl⟩ : ∃ i : Nat, out = i := ⟨out.toNat, by have : 0 ≤ out := (by simpa using hc4); omega⟩;have gl := ldA_get (l := l) (k := i) (by omega);have hya := hld _ (List.mem_of_getElem? gl);obtain ⟨e1, e2, e3⟩ := ht i rfl;obtain ⟨kA, hkA⟩ : ∃ kA : Nat, (ldA l i).At = kA := ⟨(ldA l i).At.toNat, by omega⟩;have gv := hgv kA (by omega);rw [hkA, Int.toNat_natCast] at e3;subst e1 e2 e3;refine gwp_draw mixed rfl (by decide) rfl rfl fun K hK => ?_;simp -dsimp [gl, hkA, gv];refine callK_mut [0, 1] [2, 3, 4] [some 0, some 1, none, none, none, none, none, none, some 2, some 3, some 4] ((m_cuta x g fe wi l sv VS FS cuts 3 i (vf kA) (by omega) hc).keep (Hk := [_]) (Hk' := [_]) 0 0 0 (x := x) (i := 0) (o := 0) rfl rfl rfl rfl rfl rfl) (by decide) rfl (by simp) (by simp) rfl (by simp) ?_;simp -dsimp [gl, hkA, gv];refine hK _ _ _ (by decide +kernel) ?_; clear hK K;simp only [zT, reduceIte, Nat.reduceEqDiff];refine hK7 _ _ ?_;refine gwp_prune [0, 10] (Or.inr (by simp)) ?_;simp only [zP, Nat.reduceEqDiff, reduceIte];refine gS fun K hK => ?_;simp -dsimp;apply hK;clear hK K;exact gwp_ret ⟨[some 0, some 1, some 8, some 9, some 10], rfl, by simp, by simp, by simp, by simp [resP, tupOf]⟩
     ·obtain ⟨e1, e2, e3⟩ := hf (by have : ¬ 0 ≤ out := (by simpa using hc4); omega);subst e1 e2 e3;refine gwp_skip ?_;simp only [zT, reduceIte, Nat.reduceEqDiff];refine hK7 _ _ ?_;refine gwp_prune [0, 10] (Or.inr (by simp)) ?_;simp only [zP, Nat.reduceEqDiff, reduceIte];refine gS fun K hK => ?_;simp -dsimp;apply hK;clear hK K;exact gwp_ret ⟨[some 0, some 1, some 2, some 3, some 4], rfl, by simp, by simp, by simp, by simp at hc4; simp [resP, tupOf]; omega⟩
theorem m_lowb (x : Value) (g : Gr) (fe wi : List Bool) (l : List Ld) (sv : List Bool) (vs fs : List Fr) (cuts : List Cu) (hl : l.length ≤ 1000) (hs : sv.length = l.length) (hc : cuts.length ≤ 1000)
  (hld : ∀ y ∈ l, 0 ≤ y.At ∧ y.At < g.Nodes) (hnt : NetOk g ⟨[], wi⟩) (h12 : Few12 g ⟨[], wi⟩) (vf : Nat → Fr) (hv : ∀ p ∈ partL g ⟨[], wi⟩, ∃ v d, VPart g ⟨[], wi⟩ (tkK l sv) p v d vf)
  (hvd : ∀ k, k < g.Nodes.toNat → 0 < (vf k).Den ∧ (vf k).Den ≤ 100000000000000) (r : Bool) (sv2 : List Bool) (cuts2 : List Cu)
  (ht : ∀ i : Nat, leL l sv (lowB (lowM g ⟨[], wi⟩ vf l sv l.length)) l.length = i → r = true ∧ sv2 = sv.set i false ∧ cuts2 = cuts ++ [(⟨3, i, vf (ldA l i).At.toNat⟩ : Cu)])
  (hf : leL l sv (lowB (lowM g ⟨[], wi⟩ vf l sv l.length)) l.length < 0 → r = false ∧ sv2 = sv ∧ cuts2 = cuts) :
  MutCall Try.prog 79 [.ptr 0 0 0] [hSb (.fptr x 1 0 0) l sv.length vs fs cuts.length, hNb g fe wi] [some (.els 1 (sv.map bCell)), some (.els 4 (cuts.map Cu.cells))]
   (Bo r) [hSb (.fptr x 1 0 0) l sv2.length (vlA g.Nodes.toNat vf) (flA g ⟨[], wi⟩ vf) cuts2.length, hNb g fe wi] [some (.els 1 (sv2.map bCell)), some (.els 4 (cuts2.map Cu.cells))] := by
 refine MutCall.keep (Hk := [_]) (Hk' := [_]) 0 0 0 (x := x) (i := 0) (o := 0) ?_ rfl rfl rfl rfl rfl rfl;have hbd := grB_bd hnt.gr;have hsol := m_solve_t g ⟨[], wi⟩ (tkK l sv) hnt h12 vf hv;have hvN : (vlA g.Nodes.toNat vf).length = g.Nodes.toNat := by simp [vlA]
 have hfN : (flA g ⟨[], wi⟩ vf).length = g.Feeds.length := by simp [flA]
 have htv : List.take g.Nodes.toNat ((vlA g.Nodes.toNat vf).map Fr.cells) = (vlA g.Nodes.toNat vf).map Fr.cells := List.take_of_length_le (by simp; omega);have htf : List.take g.Feeds.length ((flA g ⟨[], wi⟩ vf).map Fr.cells) = (flA g ⟨[], wi⟩ vf).map Fr.cells := List.take_of_length_le (by simp; omega);have hlb := leL_bd l sv (lowB (lowM g ⟨[], wi⟩ vf l sv l.length)) l.length;have hle := c_least (net g ⟨[], wi⟩) l sv (fL (vlA g.Nodes.toNat vf)) (fL (flA g ⟨[], wi⟩ vf)) (cL cuts) 98 [[.mpc false [.i .i64] (lowM g ⟨[], wi⟩ vf l sv l.length)]] (lowB (lowM g ⟨[], wi⟩ vf l sv l.length)) hl hs
  (fun y hy => c_low1 (lowM g ⟨[], wi⟩ vf l sv l.length) (lowM_bol _ _ _ _ _ _) y)
 have hgv := fun k (hk : k < g.Nodes.toNat) => vlA_get (vf := vf) hk;obtain ⟨VS, hVS⟩ : ∃ VS, VS = vlA g.Nodes.toNat vf := ⟨_, rfl⟩;obtain ⟨FS, hFS⟩ : ∃ FS, FS = flA g ⟨[], wi⟩ vf := ⟨_, rfl⟩;obtain ⟨lm, hlm⟩ : ∃ lm : Nat → Kvs, lm = lowM g ⟨[], wi⟩ vf l sv := ⟨_, rfl⟩;have hls := fun n => lowM_succ g ⟨[], wi⟩ vf l sv n;have hl0 : lm 0 = [] := by rw [hlm]; rfl
 rw [← hVS] at hsol hvN htv hle hgv ⊢;rw [← hFS] at hsol hfN htf hle ⊢;rw [← hlm] at hle hlb ht hf hls;clear hVS hFS hlm;generalize leL l sv (lowB (lm l.length)) l.length = out at ht hf hlb hle;refine MutCall.of_bodyG [0] Try.func79 rfl (by decide) (by simp [Try.ntmps79]) rfl rfl ?_;intro J hJ;simp only [Try.ntmps79, Try.results79];refine gS fun K hK => ?_;simp -dsimp;apply hK;clear hK K;refine gwp_peekN [3, 4] [0] [(0, stg g ⟨[], wi⟩ l sv (fL vs) (fL fs) (cL cuts))] (⟨.inr (by simp), trivial⟩) (by decide) (fun T' H' => Go.AM.look T' 3 = .ptr 5 0 0 ∧ Go.AM.look T' 4 = Bo true ∧ H' = [some (.map false [.i .i64] (tkK l sv)), some (.els 2 (VS.map Fr.cells)), some (.els 2 (FS.map Fr.cells)), some (.els 2 [[.row 1 0 g.Nodes.toNat, .row 2 0 g.Feeds.length]]), some (.els 1 [[Bo true]]), some (.els 2 [[.row 1 0 g.Nodes.toNat, .row 2 0 g.Feeds.length]])]) ?_ ?_
 ·intro J1 hJ1;refine gwp_draw mixed rfl (by decide) rfl rfl fun K hK => ?_;simp -dsimp;refine callK_mutF [] [] [some 0] (m_taken l sv hl hs) (by decide) rfl (by simp) (by simp) rfl (by simp) (by simp) (by simp) ?_;simp -dsimp;refine callK_mutF [] [] [none, some 0, some 1, some 2, some 3] (hsol) (by decide) rfl (by simp) (by simp) rfl (by simp) (by simp) (by simp) ?_;simp -dsimp;refine hK _ _ _ (by decide +kernel) ?_; clear hK K;exact ⟨rfl, rfl, by simp⟩
 ·intro T' H' hR;obtain ⟨hR, hR4, rfl⟩ := hR;refine ⟨by simp, ?_⟩;simp only [List.map_cons, List.map_nil, List.cons_append, List.nil_append, List.length_cons, List.length_nil, Nat.reduceAdd, Nat.zero_add, Option.map_some, upAV, upRow, Go.AM.look, Nat.reduceEqDiff, reduceIte, hR, hR4, up_fr];refine gwp_seq_k fun K1 hK1 => ?_;refine gS fun K hK => ?_;simp -dsimp;apply hK;clear hK K;refine gwp_cond rfl (fun hc0 => ?_) (fun hc0 => ?_)
  ·simp at hc0
  ·refine gwp_skip ?_;simp only [zT, reduceIte, Nat.reduceEqDiff];refine hK1 _ _ ?_;refine gwp_prune [0, 3] (Or.inr (by simp)) ?_;simp only [zP, Nat.reduceEqDiff, reduceIte];refine gS fun K hK => ?_;simp -dsimp;apply hK;clear hK K;refine gwp_weak (gsub (sub_rf (T' := [(0, .ptr 0 0 0), (3, .ptr 4 0 0)]) (H' := [hSb (.fptr x 1 0 0) l sv.length VS FS cuts.length, hNb g fe wi, some (.els 1 (sv.map bCell)), some (.els 4 (cuts.map Cu.cells)), some (.els 2 [[fL VS, fL FS]])]) [some 0, some 1, some 2, some 3, some 9] rfl ⟨.inr (by simp), .inr (by simp), trivial⟩ (by simp [htv, htf]; omega)) (by simp)) ?_
   ·refine gS fun K hK => ?_;simp -dsimp;apply hK;clear hK K;refine gwp_seq_k fun K2 hK2 => ?_;refine gS fun K hK => ?_;simp -dsimp;apply hK;clear hK K;refine gwp_block ?_;refine gwp_prune [0, 3, 5, 38, 39, 40] (Or.inr (by simp)) ?_;simp only [zP, Nat.reduceEqDiff, reduceIte];refine gwp_loop_l [0, 3, 5, 38, 39] (α := Nat) (fun k => [(40, I k)]) (fun k => [hSb (.fptr x 1 0 0) l sv.length VS FS cuts.length, hNb g fe wi, some (.els 1 (sv.map bCell)), some (.els 4 (cuts.map Cu.cells)), some (.els 2 [[fL VS, fL FS]]), some (.map false [.i .i64] (lm k)), some (.els 1 [[.mp 5]])]) (fun k => k ≤ l.length) (fun k => l.length - k) 0 ?_ ?_ ?_
    ·exact Nat.zero_le _
    ·rw [hl0];exact gsub (sub_same (by simp)) (by simp)
    rintro k k1;simp only [zP, Nat.reduceEqDiff, reduceIte];refine gS fun K hK => ?_;simp -dsimp;apply hK;clear hK K;refine gwp_seq_k fun K3 hK3 => ?_;refine gwp_cond rfl (fun hc1 => ?_) (fun hc1 => ?_)
    ·have hkl : k < l.length := by simpa using hc1
     have wk := zW k (by omega);have gl := ldA_get (l := l) (k := k) hkl;have gb := bAt_get (l := sv) (k := k) (by omega);have hne : ¬ sv = [] := by intro e; rw [e] at hs; simp at hs; omega
     have hks : k < sv.length := by omega
     have hbe : sv[k] = bAt sv k := Option.some.inj (by rw [← List.getElem?_eq_getElem hks]; exact gb);have hya := hld _ (List.mem_of_getElem? gl);have hlk := hls k;unfold lowS lowC at hlk;have hcp := c_part g ⟨[], wi⟩ l sv (fL VS) (fL FS) (cL cuts) hnt h12 (ldA l k).At hya.1 hya.2;have hpl := upN_len (partOf g ⟨[], wi⟩ (ldA l k).At.toNat);have hpo := partOf_len g ⟨[], wi⟩ (ldA l k).At.toNat;generalize upN (partOf g ⟨[], wi⟩ (ldA l k).At.toNat) = pl at hlk hcp hpl;obtain ⟨kA, hkA⟩ : ∃ kA : Nat, (ldA l k).At = kA := ⟨(ldA l k).At.toNat, by omega⟩;have hkN : kA < g.Nodes.toNat := by omega
     have gv := hgv kA hkN;have hd := hvd kA hkN;rw [hkA, Int.toNat_natCast] at hlk;rw [hkA] at hcp;have hLd : 0 ≤ g.Least * (vf kA).Den ∧ g.Least * (vf kA).Den ≤ 1000000000000000000 := ⟨Int.mul_nonneg (by omega) (by omega), Int.le_trans (Int.mul_le_mul hbd.2.2.2.2.2 hd.2 (by omega) (by omega)) (by omega)⟩;have w1 : IntKind.i64.wrap (g.Least * (vf kA).Den) = g.Least * (vf kA).Den := wrap_in (by omega) (by omega);obtain ⟨LD, hLD⟩ : ∃ LD, g.Least * (vf kA).Den = LD := ⟨_, rfl⟩;rw [hLD] at w1 hlk;refine gwp_skip ?_;simp only [zT, reduceIte, Nat.reduceEqDiff];refine hK3 _ _ ?_;refine gwp_prune [0, 3, 5, 38, 39, 40] (Or.inr (by simp)) ?_;simp only [zP, Nat.reduceEqDiff, reduceIte];refine gwp_seq_k fun K4 hK4 => ?_;refine gwp_block ?_;refine gS fun K hK => ?_;simp -dsimp [gl];apply hK;clear hK K;refine gwp_sd mixed rfl (by decide) rfl rfl fun K hK => ?_;simp -dsimp [gb, hne, hkA, hLD, w1, hks, hbe];refine idxK_intro ((vf kA).cells) (fun _ => by simp [gv]) ?_;simp -dsimp [gb, hne, hkA, hLD, w1, hks, hbe];refine idxK_intro ((vf kA).cells) (fun _ => by simp [gv]) ?_;simp -dsimp [gb, hne, hkA, hLD, w1, hks, hbe];refine hK _ _ _ (by decide +kernel) ?_; clear hK K;refine gwp_cond rfl (fun hc2 => ?_) (fun hc2 => ?_)
     ·refine gwp_thawE [5, 6] [5] [0, 3, 38, 39, 40] [(0, stg g ⟨[], wi⟩ l sv (fL VS) (fL FS) (cL cuts)), (5, .ptr 1 0 0), (7, .iptr (ldA l k).cells)] [some (.map false [.i .i64] (lm k)), some (.els 1 [[.mp 0]])] (by simp) (by decide) (⟨.inr (by simp), .inr (by simp), .inr (by simp [hkA]), trivial⟩) (by simp) (by decide) (fun T' H' => Go.AM.look T' 5 = .ptr 1 0 0 ∧ H' = [some (.map false [.i .i64] (setT (lm k) pl)), some (.els 1 [[.mp 0]])]) ?_ ?_
      ·intro J1 hJ1;refine gR fun K hK => ?_;simp -dsimp [hkA];refine callK_intro _ (hcp) (by simp) ?_;simp -dsimp [hkA];apply hK;clear hK K;refine ⟨rfl, ?_⟩;refine gwp_block ?_;refine gwp_prune [0, 3, 5, 38, 39, 40, 86, 87, 88] (Or.inr (by simp)) ?_;simp only [zP, Nat.reduceEqDiff, reduceIte];refine gwp_loop_l [0, 3, 5, 38, 39, 40, 86, 87] (α := Nat) (fun j => [(88, I j)]) (fun j => [some (.map false [.i .i64] (setT (lm k) (pl.take j))), some (.els 1 [[.mp 0]])]) (fun j => j ≤ pl.length) (fun j => pl.length - j) 0 ?_ ?_ ?_
       ·exact Nat.zero_le _
       ·exact gsub (sub_same (by simp [setT])) (by simp)
       rintro j j1;simp only [zP, Nat.reduceEqDiff, reduceIte];refine gS fun K hK => ?_;simp -dsimp;apply hK;clear hK K;refine gwp_seq_k fun K5 hK5 => ?_;refine gwp_cond rfl (fun hc3 => ?_) (fun hc3 => ?_)
       ·have hjl : j < pl.length := by simpa using hc3
        obtain ⟨y, hy⟩ : ∃ y, pl[j]? = some y := ⟨_, List.getElem?_eq_getElem hjl⟩;have hst := setT_snoc (bs := lm k) hy;have wj := zW j (by omega);refine gwp_skip ?_;simp only [zT, reduceIte, Nat.reduceEqDiff];refine hK5 _ _ ?_;refine gwp_prune [0, 3, 5, 38, 39, 40, 86, 87, 88] (Or.inr (by simp)) ?_;simp only [zP, Nat.reduceEqDiff, reduceIte];refine gwp_seq_k fun K6 hK6 => ?_;refine gwp_block ?_;refine gS fun K hK => ?_;simp -dsimp [hy];apply hK;clear hK K;refine gR fun K hK => ?_;simp -dsimp;apply hK;clear hK K;simp only [zT, reduceIte, Nat.reduceEqDiff];refine hK6 _ _ ?_;refine gwp_prune [0, 3, 5, 38, 39, 40, 86, 87, 88] (Or.inr (by simp)) ?_;simp only [zP, Nat.reduceEqDiff, reduceIte];refine gR fun K hK => ?_;simp -dsimp [wj];apply hK;clear hK K;simp only [zT, reduceIte, Nat.reduceEqDiff];exact ⟨j + 1, by omega, by omega, gsub (sub_rb [some 0, some 1] rfl (by simp) (by simp [hst])) (by simp)⟩
       ·have hje : j = pl.length := by have hn : ¬ j < pl.length := (by simpa using hc3); omega
        have htk : pl.take pl.length = pl := List.take_of_length_le (by omega);refine gwp_exit ?_;simp only [zT, reduceIte, Nat.reduceEqDiff];exact ⟨trivial, rfl, by simp, by rw [hje, htk]⟩
      ·intro T' H' hR;obtain ⟨hR, rfl⟩ := hR;refine ⟨by simp [thawT], ?_⟩;have hg : gfro [5, 6] 8 = [some 0, some 1, some 2, some 3, some 4, none, none, some 7] := rfl;have e1 : bkAV [5, 6] (.ptr 1 0 0) = .ptr 6 0 0 := rfl;have e2 : ∀ a b c, bkRow [5, 6] (.map a b c) = .map a b c := fun _ _ _ => rfl;have e3 : bkRow [5, 6] (.els 1 [[.mp 0]]) = .els 1 [[.mp 5]] := rfl;have hr : List.range 8 = [0, 1, 2, 3, 4, 5, 6, 7] := rfl;simp only [thawT, thawH, List.length_cons, List.length_nil, Nat.reduceAdd, Nat.zero_add, hg, hr, List.map_cons, List.map_nil, List.cons_append, List.nil_append, hR];simp only [zT, reduceIte, Nat.reduceEqDiff];refine hK4 _ _ ?_;refine gwp_prune [0, 3, 5, 38, 39, 40] (Or.inr (by simp)) ?_;simp only [zP, Nat.reduceEqDiff, reduceIte];refine gR fun K hK => ?_;simp -dsimp [wk];apply hK;clear hK K;simp only [zT, reduceIte, Nat.reduceEqDiff];have hcd : (bAt sv k && (decide (0 < (ldA l k).Units) && decide ((vf kA).Num < LD))) = true := by simpa [and_assoc] using hc2
       rw [if_pos hcd] at hlk;exact ⟨k + 1, by omega, by omega, gsub (sub_rb [some 0, some 1, some 2, some 3, some 4, some 5, some 6] rfl (by simp [e1]) (by simp [hlk, e2, e3])) (by simp)⟩
     ·refine gwp_skip ?_;simp only [zT, reduceIte, Nat.reduceEqDiff];refine hK4 _ _ ?_;refine gwp_prune [0, 3, 5, 38, 39, 40] (Or.inr (by simp)) ?_;simp only [zP, Nat.reduceEqDiff, reduceIte];refine gR fun K hK => ?_;simp -dsimp [wk];apply hK;clear hK K;simp only [zT, reduceIte, Nat.reduceEqDiff];have hcd : ¬ (bAt sv k && (decide (0 < (ldA l k).Units) && decide ((vf kA).Num < LD))) = true := by intro h; simp at h; simp [h.1, h.2.1, h.2.2] at hc2
      rw [if_neg hcd] at hlk;exact ⟨k + 1, by omega, by omega, gsub (sub_rb [some 0, some 1, some 2, some 3, some 4, some 5, some 6] rfl (by simp) (by simp [hlk])) (by simp)⟩
    ·have hke : k = l.length := by have hn : ¬ k < l.length := (by simpa using hc1); omega
     subst hke;refine gwp_exit ?_;simp only [zT, reduceIte, Nat.reduceEqDiff];refine hK2 _ _ ?_;refine gwp_prune [0, 3, 5] (Or.inr (by simp)) ?_;simp only [zP, Nat.reduceEqDiff, reduceIte];refine gS fun K hK => ?_;simp -dsimp;refine callK_intro _ (hle) (by simp) ?_;simp -dsimp;apply hK;clear hK K;refine gwp_seq_k fun K7 hK7 => ?_;refine gS fun K hK => ?_;simp -dsimp;apply hK;clear hK K;refine gwp_cond rfl (fun hc4 => ?_) (fun hc4 => ?_)
     ·obtain ⟨i, rfl⟩ : ∃ i : Nat, out = i := ⟨out.toNat, by have : 0 ≤ out := (by simpa using hc4); omega⟩;have gl := ldA_get (l := l) (k := i) (by omega);have hya := hld _ (List.mem_of_getElem? gl);obtain ⟨e1, e2, e3⟩ := ht i rfl;obtain ⟨kA, hkA⟩ : ∃ kA : Nat, (ldA l i).At = kA := ⟨(ldA l i).At.toNat, by omega⟩;have gv := hgv kA (by omega);rw [hkA, Int.toNat_natCast] at e3;subst e1 e2 e3;refine gwp_draw mixed rfl (by decide) rfl rfl fun K hK => ?_;simp -dsimp [gl, hkA, gv];refine callK_mut [0, 1] [2, 3] [some 0, some 1, none, none, none, none, none, some 2, some 3] ((m_cutb x g fe wi l sv VS FS cuts 3 i (vf kA) (by omega) hc).keep (Hk := [_]) (Hk' := [_]) 0 0 0 (x := x) (i := 0) (o := 0) rfl rfl rfl rfl rfl rfl) (by decide) rfl (by simp) (by simp) rfl (by simp) ?_;simp -dsimp [gl, hkA, gv];refine hK _ _ _ (by decide +kernel) ?_; clear hK K;simp only [zT, reduceIte, Nat.reduceEqDiff];refine hK7 _ _ ?_;refine gwp_prune [0, 10] (Or.inr (by simp)) ?_;simp only [zP, Nat.reduceEqDiff, reduceIte];refine gS fun K hK => ?_;simp -dsimp;apply hK;clear hK K;exact gwp_ret ⟨[some 0, some 1, some 7, some 8], rfl, by simp, by simp, by simp, by simp [resP, tupOf]⟩
     ·obtain ⟨e1, e2, e3⟩ := hf (by have : ¬ 0 ≤ out := (by simpa using hc4); omega);subst e1 e2 e3;refine gwp_skip ?_;simp only [zT, reduceIte, Nat.reduceEqDiff];refine hK7 _ _ ?_;refine gwp_prune [0, 10] (Or.inr (by simp)) ?_;simp only [zP, Nat.reduceEqDiff, reduceIte];refine gS fun K hK => ?_;simp -dsimp;apply hK;clear hK K;exact gwp_ret ⟨[some 0, some 1, some 2, some 3], rfl, by simp, by simp, by simp, by simp at hc4; simp [resP, tupOf]; omega⟩
end Go.Cur
end
section
namespace Go.Cur
open Go.AM Go.Proofs
structure SS where
 sv : List Bool
 fe : List Bool
 cuts : List Cu
 deriving DecidableEq
section
variable (g : Gr) (wi : List Bool) (l : List Ld)
def vfZ (z : SS) : Nat → Fr := vfS g ⟨z.fe, wi⟩ (tkK l z.sv)
def rDead (z : SS) : Option SS := ((List.range l.length).find? (deadB g ⟨z.fe, wi⟩ l z.sv)).map fun (i : Nat) => ⟨z.sv.set i false, z.fe, z.cuts ++ [(⟨1, i, ⟨0, 1⟩⟩ : Cu)]⟩
def iRet (z : SS) : Int := leL l z.sv (retB g ⟨z.fe, wi⟩ (tkK l z.sv)) l.length
def rRet (z : SS) : Option SS := if 0 ≤ iRet g wi l z then some ⟨z.sv.set (iRet g wi l z).toNat false, z.fe, z.cuts ++ [(⟨2, (iRet g wi l z).toNat, ⟨(ldA l (iRet g wi l z).toNat).Units, 1⟩⟩ : Cu)]⟩ else none
def iLow (z : SS) : Int := leL l z.sv (lowB (lowM g ⟨z.fe, wi⟩ (vfZ g wi l z) l z.sv l.length)) l.length
def rLow (z : SS) : Option SS := if 0 ≤ iLow g wi l z then some ⟨z.sv.set (iLow g wi l z).toNat false, z.fe, z.cuts ++ [(⟨3, (iLow g wi l z).toNat, vfZ g wi l z (ldA l (iLow g wi l z).toNat).At.toNat⟩ : Cu)]⟩ else none
def iTrip (z : SS) : Int := (trL g (flA g ⟨z.fe, wi⟩ (vfZ g wi l z)) g.Feeds.length).1
def rTrip (z : SS) : Option SS := if 0 ≤ iTrip g wi l z then some ⟨z.sv, z.fe.set (iTrip g wi l z).toNat false, z.cuts ++ [(⟨4, (iTrip g wi l z).toNat, frA (flA g ⟨z.fe, wi⟩ (vfZ g wi l z)) (iTrip g wi l z).toNat⟩ : Cu)]⟩ else none
def stepZ (z : SS) : Option SS := (rDead g wi l z).orElse fun _ => (rRet g wi l z).orElse fun _ => (rLow g wi l z).orElse fun _ => rTrip g wi l z
def settleN : Nat → SS → SS
 | 0, z => z
 | n + 1, z => match stepZ g wi l z with
  | some z' => settleN n z'
  | none => z
end
def cntT : List Bool → Nat
 | [] => 0
 | b :: l => (if b = true then 1 else 0) + cntT l
def cntZ (z : SS) : Nat := cntT z.sv + cntT z.fe
theorem cnt_set : ∀ {l : List Bool} {i : Nat}, bAt l i = true → cntT (l.set i false) + 1 = cntT l
 | [], i, h => by simp [bAt] at h
 | b :: l, 0, h => by
  have : b = true := by simpa [bAt] using h
  subst this;simp [cntT]; omega
 | b :: l, i + 1, h => by
  have := cnt_set (l := l) (i := i) (by simpa [bAt] using h);simp only [List.set_cons_succ, cntT]; omega
theorem cnt_len : ∀ l : List Bool, cntT l ≤ l.length
 | [] => Nat.le_refl _
 | b :: l => by
  have := cnt_len l;simp only [cntT, List.length_cons]; split <;> omega
theorem leL_none {l : List Ld} {sv : List Bool} {q : Ld → Bool} : ∀ {n : Nat}, leL l sv q n < 0 → ∀ i, i < n → bAt sv i = true → q (ldA l i) = false
 | 0, _, i, hi, _ => by omega
 | n + 1, h, i, hi, hb => by
  rw [leL_succ] at h;have hbd := leL_bd l sv q n;unfold leS at h
  split at h
  ·omega
  ·rename_i hc
   rcases Nat.lt_succ_iff_lt_or_eq.1 hi with h1 | rfl
   ·exact leL_none h i h1 hb
   ·cases hq : q (ldA l i) with
    | false => rfl
    | true => exact absurd ⟨hb, hq, Or.inl h⟩ hc
theorem leL_some {l : List Ld} {sv : List Bool} {q : Ld → Bool} : ∀ {n : Nat}, 0 ≤ leL l sv q n → bAt sv (leL l sv q n).toNat = true ∧ q (ldA l (leL l sv q n).toNat) = true
 | 0, h => by simp [leL] at h
 | n + 1, h => by
  rw [leL_succ] at h ⊢;unfold leS at h ⊢
  split at h
  ·rename_i hc;rw [if_pos hc, Int.toNat_natCast];exact ⟨hc.1, hc.2.1⟩
  ·rename_i hc;rw [if_neg hc];exact leL_some h
theorem trL_some {g : Gr} {fs : List Fr} : ∀ {n : Nat}, 0 ≤ (trL g fs n).1 → (trL g fs n).1 < n ∧ 0 < (ovr g fs (trL g fs n).1.toNat).Num
 | 0, h => by simp [trL] at h
 | n + 1, h => by
  rw [trL_succ] at h ⊢;unfold trS at h ⊢
  split at h
  ·rename_i hc;rw [if_pos hc];simp only [Int.toNat_natCast];exact ⟨by omega, hc.1⟩
  ·rename_i hc;rw [if_neg hc];have := trL_some h;exact ⟨by omega, this.2⟩
structure SetOk (g : Gr) (wi : List Bool) (l : List Ld) : Prop where
 gr : grB g = true
 sw : wi.length = g.Wires.length
 ld : LdOk g l
 ll : l.length ≤ 900
 p5 : ∀ p ∈ partL g ⟨[], wi⟩, p.length ≤ 5
structure ZOk (g : Gr) (wi : List Bool) (l : List Ld) (z : SS) : Prop where
 sv : z.sv.length = l.length
 fe : z.fe.length = g.Feeds.length
 cu : z.cuts.length + cntZ z ≤ 950
section
variable {g : Gr} {wi : List Bool} {l : List Ld} {z : SS}
theorem SetOk.net (h : SetOk g wi l) (hz : ZOk g wi l z) : NetOk g ⟨z.fe, wi⟩ := ⟨h.gr, hz.fe, h.sw⟩
theorem SetOk.p5' (h : SetOk g wi l) (fe : List Bool) : ∀ p ∈ partL g ⟨fe, wi⟩, p.length ≤ 5 := h.p5
theorem SetOk.few (h : SetOk g wi l) (fe : List Bool) : Few12 g ⟨fe, wi⟩ := fun p hp => by have := h.p5' fe p hp; omega
theorem SetOk.siz (h : SetOk g wi l) (fe : List Bool) (us : Kvs) : ∀ p ∈ partL g ⟨fe, wi⟩, Siz us p := fun p hp => Or.inl (h.p5' fe p hp)
theorem sumU_neg {us : Kvs} : ∀ {p : List Nat}, sumU us p < 0 → ∃ k ∈ p, igt us k < 0
 | [], h => by simp [sumU, sm] at h
 | k :: p, h => by
  by_cases hk : igt us k < 0
  ·exact ⟨k, by simp, hk⟩
  ·have : sumU us p < 0 := by unfold sumU at h ⊢; rw [sm] at h; omega
   obtain ⟨j, hj, h⟩ := sumU_neg this;exact ⟨j, by simp [hj], h⟩
theorem okZ (h : SetOk g wi l) (hz : ZOk g wi l z) (h1 : rDead g wi l z = none) (h2 : rRet g wi l z = none) : okS g ⟨z.fe, wi⟩ (tkK l z.sv) = true := by
 have hd : ∀ i, i < l.length → deadB g ⟨z.fe, wi⟩ l z.sv i = false := by
  unfold rDead at h1;rw [Option.map_eq_none_iff, List.find?_eq_none] at h1;intro i hi;have := h1 i (List.mem_range.2 hi);simpa using this
 have hr : iRet g wi l z < 0 := by
  unfold rRet at h2
  split at h2
  ·cases h2
  ·omega
 have hr2 := leL_none hr;have load : ∀ p ∈ partL g ⟨z.fe, wi⟩, ∀ k ∈ p, igt (tkK l z.sv) (k : Nat) ≠ 0 → ∃ i, i < l.length ∧ bAt z.sv i = true ∧ (ldA l i).At = (k : Int) ∧ igt (tkK l z.sv) (k : Nat) = (ldA l i).Units ∧ p = partOf g ⟨z.fe, wi⟩ (ldA l i).At.toNat := by
  intro p hp k hk hne
  rcases igt_tk l z.sv (k : Nat) with e | ⟨i, y, hi, hs, hy, e⟩
  ·exact absurd e hne
  ·have hil := (List.getElem?_eq_some_iff.1 hi).1;have hla : ldA l i = y := by have := ldA_get hil; rw [hi] at this; exact (Option.some.inj this).symm
   refine ⟨i, hil, by unfold bAt; rw [hs]; rfl, by rw [hla]; exact hy, by rw [hla]; exact e, ?_⟩;rw [hla, hy, Int.toNat_natCast];exact partOf_eq hp hk
 unfold okS;rw [List.all_eq_true];intro p hp;unfold pvol
 by_cases hf : feedL g ⟨z.fe, wi⟩ (upN p) = []
 ·rw [if_pos hf];show noneU (tkK l z.sv) p = true;unfold noneU;rw [List.all_eq_true];intro k hk;rw [beq_iff_eq];refine Decidable.byContradiction fun hne => ?_;obtain ⟨i, hil, hb, hat, hu, hpe⟩ := load p hp k hk hne;have := hd i hil;unfold deadB at this;rw [hb, ← hpe, hf, ← hu] at this;simp [hne] at this
 ·rw [if_neg hf]
  by_cases hs : sumU (tkK l z.sv) p < 0
  ·exfalso;obtain ⟨k, hk, hneg⟩ := sumU_neg hs;obtain ⟨i, hil, hb, hat, hu, hpe⟩ := load p hp k hk (by omega);have := hr2 i hil hb;unfold retB at this;rw [← hpe, ← hu] at this;simp [hneg, hs] at this
  ·rw [if_neg hs]
   split <;> rfl
theorem vpZ (h : SetOk g wi l) (hz : ZOk g wi l z) (h1 : rDead g wi l z = none) (h2 : rRet g wi l z = none) : ∀ p ∈ partL g ⟨z.fe, wi⟩, ∃ v d, VPart g ⟨z.fe, wi⟩ (tkK l z.sv) p v d (vfZ g wi l z) := by
 have ho := okZ h hz h1 h2;unfold okS at ho;rw [List.all_eq_true] at ho;exact fun p hp => ⟨_, _, vpart (h.net hz) hp (h.siz _ _ p hp) (tkK_int _ _) (tk_bd h.ld _) (ho p hp)⟩
theorem vp_bd {s : Sta} {us : Kvs} {vf : Nat → Fr} (hnt : NetOk g s) (hv : ∀ p ∈ partL g s, ∃ v d, VPart g s us p v d vf) {k : Nat} (hk : k < g.Nodes.toNat) : 0 < (vf k).Den ∧ (vf k).Den ≤ 100000000000000 ∧ (vf k).Num.natAbs ≤ 300000000000000000 := by
 obtain ⟨p, hp, hkp⟩ := List.mem_flatten.1 (partL_all hnt hk);obtain ⟨v, d, hV⟩ := hv p hp;obtain ⟨j, hj⟩ := List.getElem?_of_mem hkp;have hjl := (List.getElem?_eq_some_iff.1 hj).1;have hd0 := hV.d0;have hd1 := hV.d1;have hr := red_bd (n := at0 v (j : Nat)) hd0;have hgv := at0_nat (l := v) (k := j) (by rw [hV.len]; exact hjl);have hnb := hV.nb _ (List.mem_of_getElem? hgv);rw [hV.fr j k hj];omega
theorem ff_bd {s : Sta} {us : Kvs} {vf : Nat → Fr} (hnt : NetOk g s) (hv : ∀ p ∈ partL g s, ∃ v d, VPart g s us p v d vf) {i : Nat} (hi : i < g.Feeds.length) :
  0 ≤ (ffF g s vf i).Num ∧ (ffF g s vf i).Num ≤ 4000000000000000000 ∧ 1 ≤ (ffF g s vf i).Den ∧ (ffF g s vf i).Den ≤ 100000000000000 ∧ (0 < (ffF g s vf i).Num → bAt s.Feeds i = true) := by
 have hg : g.Feeds[i]? = some (fdI g (i : Int)) := by have := fdI_get (g := g) (i := (i : Int)) (by omega) (by omega); rwa [Int.toNat_natCast] at this
 have hb := hnt.feeds _ (List.mem_of_getElem? hg);have hvb := vp_bd hnt hv (k := (fdI g (i : Int)).At.toNat) (by omega);unfold ffF;simp only;generalize vf (fdI g (i : Int)).At.toNat = v at hvb ⊢;have h1 : 0 ≤ (fdI g (i : Int)).Volts * v.Den ∧ (fdI g (i : Int)).Volts * v.Den ≤ 100000000000000000 := ⟨Int.mul_nonneg (by omega) (by omega), Int.le_trans (Int.mul_le_mul hb.2.2.2.1 hvb.2.1 (by omega) (by omega)) (by omega)⟩
 split
 ·rename_i hc;have hd1 : (fdI g (i : Int)).Volts * v.Den - v.Num ≤ 400000000000000000 := by omega
  generalize (fdI g (i : Int)).Volts * v.Den - v.Num = d at *
  have hr := red_bd (n := (fdI g (i : Int)).Siem * d) hvb.1;have h2 : 0 ≤ (fdI g (i : Int)).Siem * d ∧ (fdI g (i : Int)).Siem * d ≤ 4000000000000000000 := by
   have hc2 := hc.2
   rcases (by omega : (fdI g (i : Int)).Siem = 1 ∨ (fdI g (i : Int)).Siem = 2 ∨ (fdI g (i : Int)).Siem = 3 ∨ (fdI g (i : Int)).Siem = 4) with h | h | h | h <;> rw [h] <;> omega
  have h3 : 0 ≤ (red ((fdI g (i : Int)).Siem * d) v.Den).Num := by
   unfold red;exact Int.ediv_nonneg h2.1 (by omega)
  exact ⟨h3, by omega, by omega, by omega, fun _ => hc.1⟩
 ·exact ⟨by decide, by decide, by decide, by decide, fun h => absurd h (by decide)⟩
theorem frA_fl {s : Sta} {vf : Nat → Fr} {i : Nat} (hi : i < g.Feeds.length) : frA (flA g s vf) i = ffF g s vf i := by
 unfold frA flA;rw [List.getElem?_map, List.getElem?_range hi]; rfl
theorem tr_ok {s : Sta} {us : Kvs} {vf : Nat → Fr} (hnt : NetOk g s) (hv : ∀ p ∈ partL g s, ∃ v d, VPart g s us p v d vf) : TrOk g (flA g s vf) := by
 have key : ∀ y ∈ flA g s vf, ∃ i, i < g.Feeds.length ∧ y = ffF g s vf i := fun y hy => by
  obtain ⟨i, hi, rfl⟩ := List.mem_map.1 hy;exact ⟨i, List.mem_range.1 hi, rfl⟩
 refine ⟨by simp [flA], fun y hy => ?_, fun y hy => ?_, fun f hf => ?_⟩
 ·obtain ⟨i, hi, rfl⟩ := key y hy;have := ff_bd hnt hv hi;exact ⟨this.1, this.2.1⟩
 ·obtain ⟨i, hi, rfl⟩ := key y hy;have := ff_bd hnt hv hi;exact ⟨this.2.2.1, this.2.2.2.1⟩
 ·have := hnt.feeds f hf;omega
theorem step_ok (h : SetOk g wi l) (hz : ZOk g wi l z) {z' : SS} (hs : stepZ g wi l z = some z') : ZOk g wi l z' ∧ cntZ z' + 1 = cntZ z ∧ z'.cuts.length = z.cuts.length + 1 := by
 have svc : ∀ {i : Nat} {c : Cu}, bAt z.sv i = true → ZOk g wi l ⟨z.sv.set i false, z.fe, z.cuts ++ [c]⟩ ∧ cntZ ⟨z.sv.set i false, z.fe, z.cuts ++ [c]⟩ + 1 = cntZ z ∧ (z.cuts ++ [c]).length = z.cuts.length + 1 := by
  intro i c hb;have h1 := cnt_set hb;have h2 := hz.cu;refine ⟨⟨by simp [hz.sv], hz.fe, ?_⟩, ?_, by simp⟩
  ·unfold cntZ at h2 ⊢;simp only [List.length_append, List.length_singleton]; omega
  ·unfold cntZ;simp only; omega
 unfold stepZ at hs
 cases h1 : rDead g wi l z with
 | some a =>
  rw [h1] at hs;simp only [Option.orElse_some, Option.some.injEq] at hs;subst hs;unfold rDead at h1;rw [Option.map_eq_some_iff] at h1;obtain ⟨i, hi, rfl⟩ := h1;have := List.find?_some hi;refine svc ?_;unfold deadB at this;simp only [Bool.and_eq_true] at this;exact this.1
 | none =>
  rw [h1] at hs
  cases h2 : rRet g wi l z with
  | some a =>
   rw [h2] at hs;simp only [Option.orElse_none, Option.orElse_some, Option.some.injEq] at hs;subst hs;unfold rRet at h2
   split at h2
   ·rename_i hi;simp only [Option.some.injEq] at h2;subst h2;exact svc (leL_some hi).1
   ·cases h2
  | none =>
   rw [h2] at hs;have hv := vpZ h hz h1 h2
   cases h3 : rLow g wi l z with
   | some a =>
    rw [h3] at hs;simp only [Option.orElse_none, Option.orElse_some, Option.some.injEq] at hs;subst hs;unfold rLow at h3
    split at h3
    ·rename_i hi;simp only [Option.some.injEq] at h3;subst h3;exact svc (leL_some hi).1
    ·cases h3
   | none =>
    rw [h3] at hs;simp only [Option.orElse_none] at hs;unfold rTrip at hs
    split at hs
    ·rename_i hi;simp only [Option.some.injEq] at hs;subst hs;obtain ⟨k1, k2⟩ := trL_some hi;change iTrip g wi l z < _ at k1;change 0 < (ovr g (flA g ⟨z.fe, wi⟩ (vfZ g wi l z)) (iTrip g wi l z).toNat).Num at k2;generalize iTrip g wi l z = i at hi k1 k2;have hfr := frA_fl (g := g) (s := ⟨z.fe, wi⟩) (vf := vfZ g wi l z) (i := i.toNat) (by omega);have hb := ff_bd (h.net hz) hv (i := i.toNat) (by omega);have hl := (tr_ok (h.net hz) hv).prod (k := i.toNat) (by omega);unfold ovr at k2;simp only at k2;rw [hfr] at k2 hl;have hb2 : bAt z.fe i.toNat = true := hb.2.2.2.2 (by omega);have h4 := cnt_set hb2;have h5 := hz.cu;refine ⟨⟨hz.sv, by simp [hz.fe], ?_⟩, ?_, by simp⟩
     ·unfold cntZ at h5 ⊢;simp only [List.length_append, List.length_singleton]; omega
     ·unfold cntZ;simp only; omega
    ·cases hs
theorem settle_step {n : Nat} {z z' : SS} (hs : stepZ g wi l z = some z') : settleN g wi l (n + 1) z = settleN g wi l n z' := by
 simp only [settleN, hs]
theorem settle_stop {n : Nat} {z : SS} (hs : stepZ g wi l z = none) : settleN g wi l n z = z := by
 cases n with
 | zero => rfl
 | succ n => simp only [settleN, hs]
end
end Go.Cur
end
section
namespace Go
section
variable {P : Program} {b : Frame} {a : Act} {k : List Item} {cs : List Frame} {w : World}
theorem stepR_scope {c : Code} : step P (lone (b.atR a (.code (.scope c) :: k)) cs w) = .next (lone (b.atR a (.code c :: .inScope c :: k)) cs w) :=
 step_lone_go (by simp [stepG, stepG.exec, Frame.atR])
theorem stepR_inScope {c : Code} : step P (lone (b.atR a (.inScope c :: k)) cs w) = .next (lone (b.atR a k) cs w) :=
 step_lone_go (by simp [stepG, stepG.exec, Frame.atR])
theorem wpIn_scope_straight {F : Fence} {n : Nat} {Q : Exit → Act → World → Prop} {c : Code} (h : c.wpIn F n P (Exit.noGoto Q) a w) : (Code.scope c).wpIn F n P Q a w := by
 intro b k cs hro hb hr;have h0 : (lone (b.atR a (.code (.scope c) :: k)) cs w).fenced P F := fenced_calm hb hr rfl;obtain ⟨e, a₁, w₁, hq, harr⟩ := h b (.inScope c :: k) cs hro hb hr
 cases e with
 | normal => exact ⟨.normal, a₁, w₁, hq, .head h0 stepR_scope (StepsIn.trans harr (.one (fenced_calm hb hr rfl) stepR_inScope))⟩
 | exit id' =>
  have hx : exitTo id' (.inScope c :: k) = exitTo id' k := by simp [exitTo]
  exact ⟨.exit id', a₁, w₁, hq, fun k' hk => .head h0 stepR_scope (harr.1 k' (by rw [hx]; exact hk)),
   fun hr' hk => let ⟨k₁, h1, h2⟩ := harr.2 hr' (by rw [hx]; exact hk); ⟨k₁, h1, .head h0 stepR_scope h2⟩⟩
 | goto l => exact hq.elim
 | ret => exact ⟨_, a₁, w₁, hq, .of_steps (.one h0 stepR_scope) harr⟩
 | panic ch => exact ⟨_, a₁, w₁, hq, .of_steps (.one h0 stepR_scope) harr⟩
 | outgrown => exact ⟨_, a₁, w₁, hq, .of_steps (.one h0 stepR_scope) harr⟩
end
end Go
namespace Go.AM
theorem gwp_scope {P : Program} {ro : Option Nat} {J : Jt} {nt : Nat} {kp : List Nat} {c : Code} {T : Tm} {H : Hp} {Q : Exit → Tm → Hp → Prop} (h : GWp P ro J nt kp c T H (noGotoA Q)) : GWp P ro J nt kp (.scope c) T H Q := by
 intro hJ kv a w hs;refine wpIn_scope_straight (wpIn_mono (h hJ kv a w hs) ?_);rintro e a' w' ⟨T', H', q, s⟩
 cases e with
 | goto l => exact q.elim
 | normal => exact ⟨T', H', q, s⟩
 | exit id => exact ⟨T', H', q, s⟩
 | ret => exact ⟨T', H', q, s⟩
 | panic c => exact ⟨T', H', q, s⟩
 | outgrown => exact ⟨T', H', q, s⟩
theorem gwp_sl {P : Program} {ro : Option Nat} {J : Jt} {nt l : Nat} {kp : List Nat} {c : Code} {T : Tm} {H : Hp} {Q : Exit → Tm → Hp → Prop} (h : GWp P ro J nt kp c T H Q) : GWp P ro J nt kp (.seq (.label l) c) T H Q := by
 intro hJ kv a w hs;exact wpIn_seq (wpIn_label (h hJ kv a w hs))
end Go.AM
namespace Go.Cur
open Go.AM Go.Proofs
theorem w_deada (x : Value) (g : Gr) (wi : List Bool) (l : List Ld) (z : SS) (vs fs : List Fr) (h : SetOk g wi l) (hz : ZOk g wi l z) :
  MutCall Try.prog 77 [.ptr 0 0 0] [hSa (.fptr x 1 0 0) l z.sv.length vs fs z.cuts.length, hNa g z.fe wi] [some (.els 1 (z.sv.map bCell)), some (.els 1 (z.fe.map bCell)), some (.els 4 (z.cuts.map Cu.cells))]
   (Bo (rDead g wi l z).isSome) [hSa (.fptr x 1 0 0) l ((rDead g wi l z).getD z).sv.length vs fs ((rDead g wi l z).getD z).cuts.length, hNa g ((rDead g wi l z).getD z).fe wi] [some (.els 1 (((rDead g wi l z).getD z).sv.map bCell)), some (.els 1 (((rDead g wi l z).getD z).fe.map bCell)), some (.els 4 (((rDead g wi l z).getD z).cuts.map Cu.cells))] := by
 obtain ⟨sv, fe, cuts⟩ := z;have hfe : ((rDead g wi l ⟨sv, fe, cuts⟩).getD ⟨sv, fe, cuts⟩).fe = fe := by
  unfold rDead
  cases (List.range l.length).find? (deadB g ⟨fe, wi⟩ l sv) <;> rfl
 rw [hfe];have hcu := hz.cu;simp only at hcu;exact m_deada x g fe wi l sv vs fs cuts (by have := h.ll; omega) hz.sv (by omega) h.ld.at_ (h.net hz) (h.few _) _ _ _
  (fun i hi hd hj => by
   have e : (List.range l.length).find? (deadB g ⟨fe, wi⟩ l sv) = some i := List.find?_range_eq_some.2 ⟨hd, List.mem_range.2 hi, fun j hj' => by rw [hj j hj']; rfl⟩;unfold rDead;simp only [e];exact ⟨rfl, rfl, rfl⟩)
  (fun hj => by
   have e : (List.range l.length).find? (deadB g ⟨fe, wi⟩ l sv) = none := List.find?_eq_none.2 fun x hx => by rw [hj x (List.mem_range.1 hx)]; simp
   unfold rDead;simp only [e];exact ⟨rfl, rfl, rfl⟩)
theorem w_reta (x : Value) (g : Gr) (wi : List Bool) (l : List Ld) (z : SS) (vs fs : List Fr) (h : SetOk g wi l) (hz : ZOk g wi l z) :
  MutCall Try.prog 78 [.ptr 0 0 0] [hSa (.fptr x 1 0 0) l z.sv.length vs fs z.cuts.length, hNa g z.fe wi] [some (.els 1 (z.sv.map bCell)), some (.els 1 (z.fe.map bCell)), some (.els 4 (z.cuts.map Cu.cells))]
   (Bo (rRet g wi l z).isSome) [hSa (.fptr x 1 0 0) l ((rRet g wi l z).getD z).sv.length vs fs ((rRet g wi l z).getD z).cuts.length, hNa g ((rRet g wi l z).getD z).fe wi] [some (.els 1 (((rRet g wi l z).getD z).sv.map bCell)), some (.els 1 (((rRet g wi l z).getD z).fe.map bCell)), some (.els 4 (((rRet g wi l z).getD z).cuts.map Cu.cells))] := by
 obtain ⟨sv, fe, cuts⟩ := z;have hfe : ((rRet g wi l ⟨sv, fe, cuts⟩).getD ⟨sv, fe, cuts⟩).fe = fe := by
  unfold rRet
  split <;> rfl
 rw [hfe];have hcu := hz.cu;simp only at hcu;exact m_returneda x g fe wi l sv vs fs cuts (by have := h.ll; omega) hz.sv (by omega) h.ld.at_ (h.net hz) (h.few _) (tk_bd h.ld _) _ _ _
  (fun i hi => by
   have e : iRet g wi l ⟨sv, fe, cuts⟩ = (i : Int) := hi;have e2 : rRet g wi l ⟨sv, fe, cuts⟩ = some ⟨sv.set i false, fe, cuts ++ [(⟨2, i, ⟨(ldA l i).Units, 1⟩⟩ : Cu)]⟩ := by
    unfold rRet;rw [e, if_pos (by omega), Int.toNat_natCast]
   rw [e2];exact ⟨rfl, rfl, rfl⟩)
  (fun hi => by
   have e : iRet g wi l ⟨sv, fe, cuts⟩ < 0 := hi;have e2 : rRet g wi l ⟨sv, fe, cuts⟩ = none := by
    unfold rRet;rw [if_neg (by omega)]
   rw [e2];exact ⟨rfl, rfl, rfl⟩)
theorem w_lowa (x : Value) (g : Gr) (wi : List Bool) (l : List Ld) (z : SS) (vs fs : List Fr) (h : SetOk g wi l) (hz : ZOk g wi l z) (h1 : rDead g wi l z = none) (h2 : rRet g wi l z = none) :
  MutCall Try.prog 79 [.ptr 0 0 0] [hSa (.fptr x 1 0 0) l z.sv.length vs fs z.cuts.length, hNa g z.fe wi] [some (.els 1 (z.sv.map bCell)), some (.els 1 (z.fe.map bCell)), some (.els 4 (z.cuts.map Cu.cells))]
   (Bo (rLow g wi l z).isSome) [hSa (.fptr x 1 0 0) l ((rLow g wi l z).getD z).sv.length (vlA g.Nodes.toNat (vfZ g wi l z)) (flA g ⟨z.fe, wi⟩ (vfZ g wi l z)) ((rLow g wi l z).getD z).cuts.length, hNa g ((rLow g wi l z).getD z).fe wi] [some (.els 1 (((rLow g wi l z).getD z).sv.map bCell)), some (.els 1 (((rLow g wi l z).getD z).fe.map bCell)), some (.els 4 (((rLow g wi l z).getD z).cuts.map Cu.cells))] := by
 obtain ⟨sv, fe, cuts⟩ := z;have hfe : ((rLow g wi l ⟨sv, fe, cuts⟩).getD ⟨sv, fe, cuts⟩).fe = fe := by
  unfold rLow
  split <;> rfl
 rw [hfe];have hcu := hz.cu;simp only at hcu;have hv := vpZ h hz h1 h2;exact m_lowa x g fe wi l sv vs fs cuts (by have := h.ll; omega) hz.sv (by omega) h.ld.at_ (h.net hz) (h.few _) (vfZ g wi l ⟨sv, fe, cuts⟩) hv (fun k hk => by have := vp_bd (h.net hz) hv hk; omega) _ _ _
  (fun i hi => by
   have e : iLow g wi l ⟨sv, fe, cuts⟩ = (i : Int) := hi;have e2 : rLow g wi l ⟨sv, fe, cuts⟩ = some ⟨sv.set i false, fe, cuts ++ [(⟨3, i, vfZ g wi l ⟨sv, fe, cuts⟩ (ldA l i).At.toNat⟩ : Cu)]⟩ := by
    unfold rLow;rw [e, if_pos (by omega), Int.toNat_natCast]
   rw [e2];exact ⟨rfl, rfl, rfl⟩)
  (fun hi => by
   have e : iLow g wi l ⟨sv, fe, cuts⟩ < 0 := hi;have e2 : rLow g wi l ⟨sv, fe, cuts⟩ = none := by
    unfold rLow;rw [if_neg (by omega)]
   rw [e2];exact ⟨rfl, rfl, rfl⟩)
theorem w_deadb (x : Value) (g : Gr) (wi : List Bool) (l : List Ld) (z : SS) (vs fs : List Fr) (h : SetOk g wi l) (hz : ZOk g wi l z) (hb : z.fe = []) :
  MutCall Try.prog 77 [.ptr 0 0 0] [hSb (.fptr x 1 0 0) l z.sv.length vs fs z.cuts.length, hNb g z.fe wi] [some (.els 1 (z.sv.map bCell)), some (.els 4 (z.cuts.map Cu.cells))]
   (Bo (rDead g wi l z).isSome) [hSb (.fptr x 1 0 0) l ((rDead g wi l z).getD z).sv.length vs fs ((rDead g wi l z).getD z).cuts.length, hNb g ((rDead g wi l z).getD z).fe wi] [some (.els 1 (((rDead g wi l z).getD z).sv.map bCell)), some (.els 4 (((rDead g wi l z).getD z).cuts.map Cu.cells))] := by
 obtain ⟨sv, fe, cuts⟩ := z;subst hb;have hfe : ((rDead g wi l ⟨sv, [], cuts⟩).getD ⟨sv, [], cuts⟩).fe = [] := by
  unfold rDead
  cases (List.range l.length).find? (deadB g ⟨[], wi⟩ l sv) <;> rfl
 rw [hfe];have hcu := hz.cu;simp only at hcu;exact m_deadb x g [] wi l sv vs fs cuts (by have := h.ll; omega) hz.sv (by omega) h.ld.at_ (h.net hz) (h.few _) _ _ _
  (fun i hi hd hj => by
   have e : (List.range l.length).find? (deadB g ⟨[], wi⟩ l sv) = some i := List.find?_range_eq_some.2 ⟨hd, List.mem_range.2 hi, fun j hj' => by rw [hj j hj']; rfl⟩;unfold rDead;simp only [e];exact ⟨rfl, rfl, rfl⟩)
  (fun hj => by
   have e : (List.range l.length).find? (deadB g ⟨[], wi⟩ l sv) = none := List.find?_eq_none.2 fun x hx => by rw [hj x (List.mem_range.1 hx)]; simp
   unfold rDead;simp only [e];exact ⟨rfl, rfl, rfl⟩)
theorem w_retb (x : Value) (g : Gr) (wi : List Bool) (l : List Ld) (z : SS) (vs fs : List Fr) (h : SetOk g wi l) (hz : ZOk g wi l z) (hb : z.fe = []) :
  MutCall Try.prog 78 [.ptr 0 0 0] [hSb (.fptr x 1 0 0) l z.sv.length vs fs z.cuts.length, hNb g z.fe wi] [some (.els 1 (z.sv.map bCell)), some (.els 4 (z.cuts.map Cu.cells))]
   (Bo (rRet g wi l z).isSome) [hSb (.fptr x 1 0 0) l ((rRet g wi l z).getD z).sv.length vs fs ((rRet g wi l z).getD z).cuts.length, hNb g ((rRet g wi l z).getD z).fe wi] [some (.els 1 (((rRet g wi l z).getD z).sv.map bCell)), some (.els 4 (((rRet g wi l z).getD z).cuts.map Cu.cells))] := by
 obtain ⟨sv, fe, cuts⟩ := z;subst hb;have hfe : ((rRet g wi l ⟨sv, [], cuts⟩).getD ⟨sv, [], cuts⟩).fe = [] := by
  unfold rRet
  split <;> rfl
 rw [hfe];have hcu := hz.cu;simp only at hcu;exact m_returnedb x g [] wi l sv vs fs cuts (by have := h.ll; omega) hz.sv (by omega) h.ld.at_ (h.net hz) (h.few _) (tk_bd h.ld _) _ _ _
  (fun i hi => by
   have e : iRet g wi l ⟨sv, [], cuts⟩ = (i : Int) := hi;have e2 : rRet g wi l ⟨sv, [], cuts⟩ = some ⟨sv.set i false, [], cuts ++ [(⟨2, i, ⟨(ldA l i).Units, 1⟩⟩ : Cu)]⟩ := by
    unfold rRet;rw [e, if_pos (by omega), Int.toNat_natCast]
   rw [e2];exact ⟨rfl, rfl, rfl⟩)
  (fun hi => by
   have e : iRet g wi l ⟨sv, [], cuts⟩ < 0 := hi;have e2 : rRet g wi l ⟨sv, [], cuts⟩ = none := by
    unfold rRet;rw [if_neg (by omega)]
   rw [e2];exact ⟨rfl, rfl, rfl⟩)
theorem w_lowb (x : Value) (g : Gr) (wi : List Bool) (l : List Ld) (z : SS) (vs fs : List Fr) (h : SetOk g wi l) (hz : ZOk g wi l z) (hb : z.fe = []) (h1 : rDead g wi l z = none) (h2 : rRet g wi l z = none) :
  MutCall Try.prog 79 [.ptr 0 0 0] [hSb (.fptr x 1 0 0) l z.sv.length vs fs z.cuts.length, hNb g z.fe wi] [some (.els 1 (z.sv.map bCell)), some (.els 4 (z.cuts.map Cu.cells))]
   (Bo (rLow g wi l z).isSome) [hSb (.fptr x 1 0 0) l ((rLow g wi l z).getD z).sv.length (vlA g.Nodes.toNat (vfZ g wi l z)) (flA g ⟨z.fe, wi⟩ (vfZ g wi l z)) ((rLow g wi l z).getD z).cuts.length, hNb g ((rLow g wi l z).getD z).fe wi] [some (.els 1 (((rLow g wi l z).getD z).sv.map bCell)), some (.els 4 (((rLow g wi l z).getD z).cuts.map Cu.cells))] := by
 obtain ⟨sv, fe, cuts⟩ := z;subst hb;have hfe : ((rLow g wi l ⟨sv, [], cuts⟩).getD ⟨sv, [], cuts⟩).fe = [] := by
  unfold rLow
  split <;> rfl
 rw [hfe];have hcu := hz.cu;simp only at hcu;have hv := vpZ h hz h1 h2;exact m_lowb x g [] wi l sv vs fs cuts (by have := h.ll; omega) hz.sv (by omega) h.ld.at_ (h.net hz) (h.few _) (vfZ g wi l ⟨sv, [], cuts⟩) hv (fun k hk => by have := vp_bd (h.net hz) hv hk; omega) _ _ _
  (fun i hi => by
   have e : iLow g wi l ⟨sv, [], cuts⟩ = (i : Int) := hi;have e2 : rLow g wi l ⟨sv, [], cuts⟩ = some ⟨sv.set i false, [], cuts ++ [(⟨3, i, vfZ g wi l ⟨sv, [], cuts⟩ (ldA l i).At.toNat⟩ : Cu)]⟩ := by
    unfold rLow;rw [e, if_pos (by omega), Int.toNat_natCast]
   rw [e2];exact ⟨rfl, rfl, rfl⟩)
  (fun hi => by
   have e : iLow g wi l ⟨sv, [], cuts⟩ < 0 := hi;have e2 : rLow g wi l ⟨sv, [], cuts⟩ = none := by
    unfold rLow;rw [if_neg (by omega)]
   rw [e2];exact ⟨rfl, rfl, rfl⟩)
theorem w_tripa (x : Value) (g : Gr) (wi : List Bool) (l : List Ld) (z : SS) (h : SetOk g wi l) (hz : ZOk g wi l z) (h1 : rDead g wi l z = none) (h2 : rRet g wi l z = none) :
  MutCall Try.prog 80 [.ptr 0 0 0] [hSa (.fptr x 1 0 0) l z.sv.length (vlA g.Nodes.toNat (vfZ g wi l z)) (flA g ⟨z.fe, wi⟩ (vfZ g wi l z)) z.cuts.length, hNa g z.fe wi] [some (.els 1 (z.sv.map bCell)), some (.els 1 (z.fe.map bCell)), some (.els 4 (z.cuts.map Cu.cells))]
   (Bo (rTrip g wi l z).isSome) [hSa (.fptr x 1 0 0) l ((rTrip g wi l z).getD z).sv.length (vlA g.Nodes.toNat (vfZ g wi l z)) (flA g ⟨z.fe, wi⟩ (vfZ g wi l z)) ((rTrip g wi l z).getD z).cuts.length, hNa g ((rTrip g wi l z).getD z).fe wi] [some (.els 1 (((rTrip g wi l z).getD z).sv.map bCell)), some (.els 1 (((rTrip g wi l z).getD z).fe.map bCell)), some (.els 4 (((rTrip g wi l z).getD z).cuts.map Cu.cells))] := by
 obtain ⟨sv, fe, cuts⟩ := z;have hsv : ((rTrip g wi l ⟨sv, fe, cuts⟩).getD ⟨sv, fe, cuts⟩).sv = sv := by
  unfold rTrip
  split <;> rfl
 rw [hsv];have hcu := hz.cu;simp only at hcu;have hv := vpZ h hz h1 h2;exact m_tripa x g fe wi l sv _ _ cuts (by omega) (by have := (grB_bd h.gr).2.2.2.1; omega) hz.fe (tr_ok (h.net hz) hv) _ _ _
  (fun i hi => by
   have e : iTrip g wi l ⟨sv, fe, cuts⟩ = (i : Int) := hi;have e2 : rTrip g wi l ⟨sv, fe, cuts⟩ = some ⟨sv, fe.set i false, cuts ++ [(⟨4, i, frA (flA g ⟨fe, wi⟩ (vfZ g wi l ⟨sv, fe, cuts⟩)) i⟩ : Cu)]⟩ := by
    unfold rTrip;rw [e, if_pos (by omega), Int.toNat_natCast]
   rw [e2];exact ⟨rfl, rfl, rfl⟩)
  (fun hi => by
   have e : iTrip g wi l ⟨sv, fe, cuts⟩ < 0 := hi;have e2 : rTrip g wi l ⟨sv, fe, cuts⟩ = none := by
    unfold rTrip;rw [if_neg (by omega)]
   rw [e2];exact ⟨rfl, rfl, rfl⟩)
theorem w_tripb (x : Value) (g : Gr) (wi : List Bool) (l : List Ld) (z : SS) (h : SetOk g wi l) (hz : ZOk g wi l z) (hb : z.fe = []) :
  MutCall Try.prog 80 [.ptr 0 0 0] [hSb (.fptr x 1 0 0) l z.sv.length (vlA g.Nodes.toNat (vfZ g wi l z)) (flA g ⟨z.fe, wi⟩ (vfZ g wi l z)) z.cuts.length, hNb g z.fe wi] [some (.els 1 (z.sv.map bCell)), some (.els 4 (z.cuts.map Cu.cells))]
   (Bo (rTrip g wi l z).isSome) [hSb (.fptr x 1 0 0) l ((rTrip g wi l z).getD z).sv.length (vlA g.Nodes.toNat (vfZ g wi l z)) (flA g ⟨z.fe, wi⟩ (vfZ g wi l z)) ((rTrip g wi l z).getD z).cuts.length, hNb g ((rTrip g wi l z).getD z).fe wi] [some (.els 1 (((rTrip g wi l z).getD z).sv.map bCell)), some (.els 4 (((rTrip g wi l z).getD z).cuts.map Cu.cells))] := by
 have hg : g.Feeds = [] := by
  have := hz.fe;rw [hb] at this;exact List.length_eq_zero_iff.1 this.symm
 have e : rTrip g wi l z = none := by
  unfold rTrip iTrip;rw [hg]
  rfl
 rw [e];exact m_tripb x g z.fe wi l z.sv _ _ z.cuts hg
def svK (n k : Nat) : List Bool := List.replicate k true ++ List.replicate (n - k) false
theorem svK_set {n k : Nat} (h : k < n) : (svK n k).set k true = svK n (k + 1) := by
 unfold svK;rw [List.set_append_right _ _ (by simp), List.length_replicate, Nat.sub_self, show n - k = (n - (k + 1)) + 1 by omega, List.replicate_succ, List.set_cons_zero, List.replicate_succ', List.append_assoc]; rfl
theorem svK_len {n k : Nat} (h : k ≤ n) : (svK n k).length = n := by simp [svK]; omega
theorem svK_all (n : Nat) : svK n n = List.replicate n true := by simp [svK]
theorem svK_zero (n : Nat) : svK n 0 = List.replicate n false := by simp [svK]
def z0 (l : List Ld) (fe : List Bool) : SS := ⟨List.replicate l.length true, fe, []⟩
theorem z0_ok {g : Gr} {wi : List Bool} {l : List Ld} (h : SetOk g wi l) {fe : List Bool} (hfe : fe.length = g.Feeds.length) : ZOk g wi l (z0 l fe) := by
 refine ⟨by simp [z0], hfe, ?_⟩;have h1 := cnt_len (List.replicate l.length true);have h2 := cnt_len fe;have h3 := (grB_bd h.gr).2.2.2.1;have h4 := h.ll;rw [List.length_replicate] at h1;unfold cntZ z0;simp only [List.length_nil]; omega
def settleS (g : Gr) (wi : List Bool) (l : List Ld) (fe : List Bool) : SS := settleN g wi l (cntZ (z0 l fe)) (z0 l fe)
abbrev hMa (g : Gr) (fe wi : List Bool) : Option ARow := some (.els 6 [[I g.Nodes, .lst 4 (g.Wires.map Wr.cells), .lst 4 (g.Feeds.map Fd.cells), I g.Least, .row 1 0 fe.length, bL wi]])
abbrev hTa (x : AV) (l : List Ld) (z : SS) (vs fs : List Fr) : Option ARow := some (.els 6 [[x, lL l, .row 2 0 z.sv.length, fL vs, fL fs, .row 4 0 z.cuts.length]])
theorem m_settlea (g : Gr) (wi : List Bool) (l : List Ld) (fe : List Bool) (h : SetOk g wi l) (hfl : fe.length = g.Feeds.length) (Z : SS) (hZ : settleS g wi l fe = Z) :
  MutCall Try.prog 55 [.ptr 0 0 0, lL l] [hMa g fe wi] [some (.els 1 (fe.map bCell))] (.ptr 3 0 0) [hMa g Z.fe wi]
   [some (.els 1 (Z.fe.map bCell)), some (.els 1 (Z.sv.map bCell)), hTa (.ptr 0 0 0) l Z (vlA g.Nodes.toNat (vfZ g wi l Z)) (flA g ⟨Z.fe, wi⟩ (vfZ g wi l Z)), some (.els 4 (Z.cuts.map Cu.cells))] := by
 have hll := h.ll;have f0 : Fits l.length 2 := fits_of (by omega) (by omega);have hz0 := z0_ok h hfl;refine MutCall.of_bodyG [0] Try.func55 rfl (by decide) (by simp [Try.ntmps55]) rfl rfl ?_;intro J hJ;simp only [Try.ntmps55, Try.results55];refine gS fun K hK => ?_;simp -dsimp;apply hK;clear hK K;refine gwp_scope ?_;refine gS fun K hK => ?_;simp -dsimp [f0];apply hK;clear hK K;refine gwp_seq_k fun K1 hK1 => ?_;refine gS fun K hK => ?_;simp -dsimp;apply hK;clear hK K;refine gwp_block ?_;refine gwp_prune [0, 5, 21, 22] (Or.inr (by simp)) ?_;simp only [zP, Nat.reduceEqDiff, reduceIte];refine gwp_loop_l [0, 5, 21] (α := Nat) (fun k => [(22, I k)]) (fun k => [hMa g fe wi, some (.els 1 (fe.map bCell)), some (.els 1 ((svK l.length k).map bCell)), some (.els 6 [[.ptr 0 0 0, lL l, .row 2 0 l.length, .v (.slice none 0 0), .v (.slice none 0 0), .v (.slice none 0 0)]])]) (fun k => k ≤ l.length) (fun k => l.length - k) 0 ?_ ?_ ?_
 ·exact Nat.zero_le _
 ·exact gsub (sub_rb [some 0, some 1, some 2, some 3] rfl (by simp) (by simp [svK_zero, bCell])) (by simp)
 rintro k k1;simp only [zP, Nat.reduceEqDiff, reduceIte];refine gS fun K hK => ?_;simp -dsimp;apply hK;clear hK K;refine gwp_seq_k fun K2 hK2 => ?_;refine gwp_cond rfl (fun hc0 => ?_) (fun hc0 => ?_)
 ·have hkl : k < l.length := by simpa using hc0
  have wk := zW k (by omega);have hsl := svK_len (n := l.length) (k := k) k1;have hst := svK_set hkl;refine gwp_skip ?_;simp only [zT, reduceIte, Nat.reduceEqDiff];refine hK2 _ _ ?_;refine gwp_prune [0, 5, 21, 22] (Or.inr (by simp)) ?_;simp only [zP, Nat.reduceEqDiff, reduceIte];refine gwp_seq_k fun K3 hK3 => ?_;refine gwp_block ?_;refine gS fun K hK => ?_;simp -dsimp;apply hK;clear hK K;refine gR fun K hK => ?_;simp -dsimp [hkl, hsl];apply hK;clear hK K;simp only [zT, reduceIte, Nat.reduceEqDiff];refine hK3 _ _ ?_;refine gwp_prune [0, 5, 21, 22] (Or.inr (by simp)) ?_;simp only [zP, Nat.reduceEqDiff, reduceIte];refine gR fun K hK => ?_;simp -dsimp [wk];apply hK;clear hK K;simp only [zT, reduceIte, Nat.reduceEqDiff];exact ⟨k + 1, by omega, by omega, gsub (sub_rb [some 0, some 1, some 2, some 3] rfl (by simp) (by simp [← hst, List.map_set, bCell])) (by simp)⟩
 ·have hke : k = l.length := by have hn : ¬ k < l.length := (by simpa using hc0); omega
  subst hke;refine gwp_exit ?_;simp only [zT, reduceIte, Nat.reduceEqDiff];refine hK1 _ _ ?_;refine gwp_prune [0, 5] (Or.inr (by simp)) ?_;simp only [zP, Nat.reduceEqDiff, reduceIte];rw [svK_all];refine gwp_weak (gsub (((sub_nilc 3 0 3 2 (sz0 := 6) rfl rfl rfl).trans (sub_nilc 3 0 4 2 (sz0 := 6) rfl rfl rfl)).trans (sub_nilc 3 0 5 4 (sz0 := 6) rfl rfl rfl)) (by simp)) ?_;refine gwp_weak (gsub (sub_rf (T' := [(0, .ptr 0 0 0), (5, .ptr 3 0 0)]) (H' := [hMa g (z0 l fe).fe wi, some (.els 1 ((z0 l fe).fe.map bCell)), some (.els 1 ((z0 l fe).sv.map bCell)), hTa (.ptr 0 0 0) l (z0 l fe) [] [], some (.els 4 ((z0 l fe).cuts.map Cu.cells))]) [some 0, some 1, some 2, some 3, some 6] rfl ⟨.inr (by simp), .inr (by simp), trivial⟩ (by simp [z0])) (by simp)) ?_;refine gwp_fix 3 0 rfl rfl fun x => ?_;simp only [hset, List.set_cons_zero]
  ·refine gwp_flag (by decide) ?_;refine gS fun K hK => ?_;simp -dsimp;apply hK;clear hK K;refine gwp_sl ?_;refine gwp_block ?_;refine gwp_prune [0, 5, 7] (Or.inr (by simp)) ?_;simp only [zP, Nat.reduceEqDiff, reduceIte];refine gwp_loop_l [0, 5, 7] (α := SS × List Fr × List Fr) (fun a => []) (fun a => [hMa g a.1.fe wi, some (.els 1 (a.1.fe.map bCell)), some (.els 1 (a.1.sv.map bCell)), hTa (.fptr x 0 0 0) l a.1 a.2.1 a.2.2, some (.els 4 (a.1.cuts.map Cu.cells)), some (.els 1 [[.bnd 77 [.ptr 3 0 0]], [.bnd 78 [.ptr 3 0 0]], [.bnd 79 [.ptr 3 0 0]], [.bnd 80 [.ptr 3 0 0]]])]) (fun a => ZOk g wi l a.1 ∧ settleN g wi l (cntZ a.1) a.1 = Z) (fun a => cntZ a.1) (z0 l fe, [], []) ?_ ?_ ?_
   ·exact ⟨hz0, hZ⟩
   ·exact gsub (sub_same (by simp)) (by simp)
   rintro ⟨z, vs, fs⟩ ⟨hz, hN⟩;simp only at hz hN ⊢;obtain ⟨vK, hvK⟩ : ∃ vK : Nat → List Fr, vK = fun k => if k ≤ 2 then vs else vlA g.Nodes.toNat (vfZ g wi l z) := ⟨_, rfl⟩;obtain ⟨fK, hfK⟩ : ∃ fK : Nat → List Fr, fK = fun k => if k ≤ 2 then fs else flA g ⟨z.fe, wi⟩ (vfZ g wi l z) := ⟨_, rfl⟩;have v0 : vK 0 = vs := by rw [hvK]; rfl
   have v1 : vK 1 = vs := by rw [hvK]; rfl
   have v2 : vK 2 = vs := by rw [hvK]; rfl
   have v3 : vK 3 = vlA g.Nodes.toNat (vfZ g wi l z) := by rw [hvK]; rfl
   have v4 : vK 4 = vlA g.Nodes.toNat (vfZ g wi l z) := by rw [hvK]; rfl
   have g0 : fK 0 = fs := by rw [hfK]; rfl
   have g1 : fK 1 = fs := by rw [hfK]; rfl
   have g2 : fK 2 = fs := by rw [hfK]; rfl
   have g3 : fK 3 = flA g ⟨z.fe, wi⟩ (vfZ g wi l z) := by rw [hfK]; rfl
   have g4 : fK 4 = flA g ⟨z.fe, wi⟩ (vfZ g wi l z) := by rw [hfK]; rfl
   simp only [zP, Nat.reduceEqDiff, reduceIte];refine gwp_block ?_;refine gwp_seq_k fun K4 hK4 => ?_;refine gS fun K hK => ?_;simp -dsimp;apply hK;clear hK K;refine gwp_block ?_;refine gwp_prune [0, 5, 7, 41, 42, 43] (Or.inr (by simp)) ?_;simp only [zP, Nat.reduceEqDiff, reduceIte];refine gwp_loop_l [0, 5, 7, 41, 42] (α := Nat) (fun k => [(43, I k)]) (fun k => [hMa g z.fe wi, some (.els 1 (z.fe.map bCell)), some (.els 1 (z.sv.map bCell)), hTa (.fptr x 0 0 0) l z (vK k) (fK k), some (.els 4 (z.cuts.map Cu.cells)), some (.els 1 [[.bnd 77 [.ptr 3 0 0]], [.bnd 78 [.ptr 3 0 0]], [.bnd 79 [.ptr 3 0 0]], [.bnd 80 [.ptr 3 0 0]]])]) (fun k => k ≤ 4 ∧ (1 ≤ k → rDead g wi l z = none) ∧ (2 ≤ k → rRet g wi l z = none) ∧ (3 ≤ k → rLow g wi l z = none) ∧ (4 ≤ k → rTrip g wi l z = none)) (fun k => 4 - k) 0 ?_ ?_ ?_
   ·exact ⟨by omega, fun h => by omega, fun h => by omega, fun h => by omega, fun h => by omega⟩
   ·exact gsub (sub_rb [some 0, some 1, some 2, some 3, some 4, some 5] rfl (by simp) (by simp [v0, g0])) (by simp)
   rintro k ⟨k1, k2, k3, k4, k5⟩
   rcases (by omega : k = 0 ∨ k = 1 ∨ k = 2 ∨ k = 3 ∨ k = 4) with rfl | rfl | rfl | rfl | rfl
   ·simp only [zP, Nat.reduceEqDiff, reduceIte];refine gS fun K hK => ?_;simp -dsimp;apply hK;clear hK K;refine gwp_seq_k fun K5 hK5 => ?_;refine gwp_cond rfl (fun hc1 => ?_) (fun hc1 => ?_)
    ·rw [v0, g0];refine gwp_skip ?_;simp only [zT, reduceIte, Nat.reduceEqDiff];refine hK5 _ _ ?_;refine gwp_prune [0, 5, 7, 41, 42, 43] (Or.inr (by simp)) ?_;simp only [zP, Nat.reduceEqDiff, reduceIte];refine gwp_seq_k fun K6 hK6 => ?_;refine gwp_block ?_;refine gS fun K hK => ?_;simp -dsimp;apply hK;clear hK K;refine gS fun K hK => ?_;simp -dsimp;refine callK_mut [3, 0] [2, 1, 4] [some 1, none, none, some 0, none, none, some 2, some 3, some 4] (w_deada x g wi l z vs fs h hz) (by decide) rfl (by simp) (by simp) rfl (by simp) ?_;simp -dsimp;apply hK;clear hK K;refine gwp_cond rfl (fun hc2 => ?_) (fun hc2 => ?_)
     ·obtain ⟨z1, hz1⟩ := Option.isSome_iff_exists.1 hc2;have hst : stepZ g wi l z = some z1 := by unfold stepZ; rw [hz1]; rfl
      rw [hz1];simp only [Option.getD_some];refine gwp_exit ?_;simp only [zT, reduceIte, Nat.reduceEqDiff];obtain ⟨s1, s2, s3⟩ := step_ok h hz hst;exact ⟨(z1, vs, fs), ⟨s1, by rw [← hN, ← s2, settle_step hst]⟩, by simp only; omega, gsub (sub_rb [some 0, some 7, some 6, some 3, some 8, some 5] rfl (by simp) (by simp)) (by simp)⟩
     ·have hn : rDead g wi l z = none := by simpa using hc2
      rw [hn];simp only [Option.getD_none];refine gwp_skip ?_;simp only [zT, reduceIte, Nat.reduceEqDiff];refine hK6 _ _ ?_;refine gwp_prune [0, 5, 7, 41, 42, 43] (Or.inr (by simp)) ?_;simp only [zP, Nat.reduceEqDiff, reduceIte];refine gR fun K hK => ?_;simp -dsimp;apply hK;clear hK K;simp only [zT, reduceIte, Nat.reduceEqDiff];have wk : IntKind.i64.wrap 1 = 1 := by decide
      exact ⟨1, ⟨by omega, fun _ => hn, fun h => by omega, fun h => by omega, fun h => by omega⟩, by omega, gsub (sub_rb [some 0, some 7, some 6, some 3, some 8, some 5] rfl (by simp [wk]) (by simp [v1, g1])) (by simp)⟩
    ·simp at hc1
   ·simp only [zP, Nat.reduceEqDiff, reduceIte];refine gS fun K hK => ?_;simp -dsimp;apply hK;clear hK K;refine gwp_seq_k fun K7 hK7 => ?_;refine gwp_cond rfl (fun hc1 => ?_) (fun hc1 => ?_)
    ·rw [v1, g1];refine gwp_skip ?_;simp only [zT, reduceIte, Nat.reduceEqDiff];refine hK7 _ _ ?_;refine gwp_prune [0, 5, 7, 41, 42, 43] (Or.inr (by simp)) ?_;simp only [zP, Nat.reduceEqDiff, reduceIte];refine gwp_seq_k fun K8 hK8 => ?_;refine gwp_block ?_;refine gS fun K hK => ?_;simp -dsimp;apply hK;clear hK K;refine gS fun K hK => ?_;simp -dsimp;refine callK_mut [3, 0] [2, 1, 4] [some 1, none, none, some 0, none, none, some 2, some 3, some 4] (w_reta x g wi l z vs fs h hz) (by decide) rfl (by simp) (by simp) rfl (by simp) ?_;simp -dsimp;apply hK;clear hK K;refine gwp_cond rfl (fun hc2 => ?_) (fun hc2 => ?_)
     ·obtain ⟨z1, hz1⟩ := Option.isSome_iff_exists.1 hc2;have hst : stepZ g wi l z = some z1 := by unfold stepZ; rw [k2 (by omega), hz1]; rfl
      rw [hz1];simp only [Option.getD_some];refine gwp_exit ?_;simp only [zT, reduceIte, Nat.reduceEqDiff];obtain ⟨s1, s2, s3⟩ := step_ok h hz hst;exact ⟨(z1, vs, fs), ⟨s1, by rw [← hN, ← s2, settle_step hst]⟩, by simp only; omega, gsub (sub_rb [some 0, some 7, some 6, some 3, some 8, some 5] rfl (by simp) (by simp)) (by simp)⟩
     ·have hn : rRet g wi l z = none := by simpa using hc2
      rw [hn];simp only [Option.getD_none];refine gwp_skip ?_;simp only [zT, reduceIte, Nat.reduceEqDiff];refine hK8 _ _ ?_;refine gwp_prune [0, 5, 7, 41, 42, 43] (Or.inr (by simp)) ?_;simp only [zP, Nat.reduceEqDiff, reduceIte];refine gR fun K hK => ?_;simp -dsimp;apply hK;clear hK K;simp only [zT, reduceIte, Nat.reduceEqDiff];have wk : IntKind.i64.wrap 2 = 2 := by decide
      exact ⟨2, ⟨by omega, fun _ => k2 (by omega), fun _ => hn, fun h => by omega, fun h => by omega⟩, by omega, gsub (sub_rb [some 0, some 7, some 6, some 3, some 8, some 5] rfl (by simp [wk]) (by simp [v2, g2])) (by simp)⟩
    ·simp at hc1
   ·simp only [zP, Nat.reduceEqDiff, reduceIte];refine gS fun K hK => ?_;simp -dsimp;apply hK;clear hK K;refine gwp_seq_k fun K9 hK9 => ?_;refine gwp_cond rfl (fun hc1 => ?_) (fun hc1 => ?_)
    ·rw [v2, g2];refine gwp_skip ?_;simp only [zT, reduceIte, Nat.reduceEqDiff];refine hK9 _ _ ?_;refine gwp_prune [0, 5, 7, 41, 42, 43] (Or.inr (by simp)) ?_;simp only [zP, Nat.reduceEqDiff, reduceIte];refine gwp_seq_k fun K10 hK10 => ?_;refine gwp_block ?_;refine gS fun K hK => ?_;simp -dsimp;apply hK;clear hK K;refine gS fun K hK => ?_;simp -dsimp;refine callK_mut [3, 0] [2, 1, 4] [some 1, none, none, some 0, none, none, some 2, some 3, some 4] (w_lowa x g wi l z vs fs h hz (k2 (by omega)) (k3 (by omega))) (by decide) rfl (by simp) (by simp) rfl (by simp) ?_;simp -dsimp;apply hK;clear hK K;refine gwp_cond rfl (fun hc2 => ?_) (fun hc2 => ?_)
     ·obtain ⟨z1, hz1⟩ := Option.isSome_iff_exists.1 hc2;have hst : stepZ g wi l z = some z1 := by unfold stepZ; rw [k2 (by omega), k3 (by omega), hz1]; rfl
      rw [hz1];simp only [Option.getD_some];refine gwp_exit ?_;simp only [zT, reduceIte, Nat.reduceEqDiff];obtain ⟨s1, s2, s3⟩ := step_ok h hz hst;exact ⟨(z1, vlA g.Nodes.toNat (vfZ g wi l z), flA g ⟨z.fe, wi⟩ (vfZ g wi l z)), ⟨s1, by rw [← hN, ← s2, settle_step hst]⟩, by simp only; omega, gsub (sub_rb [some 0, some 7, some 6, some 3, some 8, some 5] rfl (by simp) (by simp)) (by simp)⟩
     ·have hn : rLow g wi l z = none := by simpa using hc2
      rw [hn];simp only [Option.getD_none];refine gwp_skip ?_;simp only [zT, reduceIte, Nat.reduceEqDiff];refine hK10 _ _ ?_;refine gwp_prune [0, 5, 7, 41, 42, 43] (Or.inr (by simp)) ?_;simp only [zP, Nat.reduceEqDiff, reduceIte];refine gR fun K hK => ?_;simp -dsimp;apply hK;clear hK K;simp only [zT, reduceIte, Nat.reduceEqDiff];have wk : IntKind.i64.wrap 3 = 3 := by decide
      exact ⟨3, ⟨by omega, fun _ => k2 (by omega), fun _ => k3 (by omega), fun _ => hn, fun h => by omega⟩, by omega, gsub (sub_rb [some 0, some 7, some 6, some 3, some 8, some 5] rfl (by simp [wk]) (by simp [v3, g3])) (by simp)⟩
    ·simp at hc1
   ·simp only [zP, Nat.reduceEqDiff, reduceIte];refine gS fun K hK => ?_;simp -dsimp;apply hK;clear hK K;refine gwp_seq_k fun K11 hK11 => ?_;refine gwp_cond rfl (fun hc1 => ?_) (fun hc1 => ?_)
    ·rw [v3, g3];refine gwp_skip ?_;simp only [zT, reduceIte, Nat.reduceEqDiff];refine hK11 _ _ ?_;refine gwp_prune [0, 5, 7, 41, 42, 43] (Or.inr (by simp)) ?_;simp only [zP, Nat.reduceEqDiff, reduceIte];refine gwp_seq_k fun K12 hK12 => ?_;refine gwp_block ?_;refine gS fun K hK => ?_;simp -dsimp;apply hK;clear hK K;refine gS fun K hK => ?_;simp -dsimp;refine callK_mut [3, 0] [2, 1, 4] [some 1, none, none, some 0, none, none, some 2, some 3, some 4] (w_tripa x g wi l z h hz (k2 (by omega)) (k3 (by omega))) (by decide) rfl (by simp) (by simp) rfl (by simp) ?_;simp -dsimp;apply hK;clear hK K;refine gwp_cond rfl (fun hc2 => ?_) (fun hc2 => ?_)
     ·obtain ⟨z1, hz1⟩ := Option.isSome_iff_exists.1 hc2;have hst : stepZ g wi l z = some z1 := by unfold stepZ; rw [k2 (by omega), k3 (by omega), k4 (by omega), hz1]; rfl
      rw [hz1];simp only [Option.getD_some];refine gwp_exit ?_;simp only [zT, reduceIte, Nat.reduceEqDiff];obtain ⟨s1, s2, s3⟩ := step_ok h hz hst;exact ⟨(z1, vlA g.Nodes.toNat (vfZ g wi l z), flA g ⟨z.fe, wi⟩ (vfZ g wi l z)), ⟨s1, by rw [← hN, ← s2, settle_step hst]⟩, by simp only; omega, gsub (sub_rb [some 0, some 7, some 6, some 3, some 8, some 5] rfl (by simp) (by simp)) (by simp)⟩
     ·have hn : rTrip g wi l z = none := by simpa using hc2
      rw [hn];simp only [Option.getD_none];refine gwp_skip ?_;simp only [zT, reduceIte, Nat.reduceEqDiff];refine hK12 _ _ ?_;refine gwp_prune [0, 5, 7, 41, 42, 43] (Or.inr (by simp)) ?_;simp only [zP, Nat.reduceEqDiff, reduceIte];refine gR fun K hK => ?_;simp -dsimp;apply hK;clear hK K;simp only [zT, reduceIte, Nat.reduceEqDiff];have wk : IntKind.i64.wrap 4 = 4 := by decide
      exact ⟨4, ⟨by omega, fun _ => k2 (by omega), fun _ => k3 (by omega), fun _ => k4 (by omega), fun _ => hn⟩, by omega, gsub (sub_rb [some 0, some 7, some 6, some 3, some 8, some 5] rfl (by simp [wk]) (by simp [v4, g4])) (by simp)⟩
    ·simp at hc1
   ·simp only [zP, Nat.reduceEqDiff, reduceIte];refine gS fun K hK => ?_;simp -dsimp;apply hK;clear hK K;refine gwp_seq_k fun K13 hK13 => ?_;refine gwp_cond rfl (fun hc1 => ?_) (fun hc1 => ?_)
    ·simp at hc1
    ·rw [v4, g4];have hst : stepZ g wi l z = none := by unfold stepZ; rw [k2 (by omega), k3 (by omega), k4 (by omega), k5 (by omega)]; rfl
     rw [settle_stop hst] at hN;subst hN;refine gwp_exit ?_;simp only [zT, reduceIte, Nat.reduceEqDiff];refine hK4 _ _ ?_;refine gwp_prune [0, 5] (Or.inr (by simp)) ?_;simp only [zP, Nat.reduceEqDiff, reduceIte];refine gS fun K hK => ?_;simp -dsimp;apply hK;clear hK K;refine gwp_weak (gsub (sub_unfix 3 0 rfl rfl) (by simp)) ?_;simp only [hset, List.set_cons_zero];exact gwp_ret ⟨[some 0, some 1, some 2, some 3, some 4], rfl, by simp, by simp, by simp, by simp [resP, tupOf]⟩
abbrev hMb (g : Gr) (fe wi : List Bool) : Option ARow := some (.els 6 [[I g.Nodes, .lst 4 (g.Wires.map Wr.cells), .lst 4 (g.Feeds.map Fd.cells), I g.Least, bL [], bL wi]])
abbrev hTb (x : AV) (l : List Ld) (z : SS) (vs fs : List Fr) : Option ARow := some (.els 6 [[x, lL l, .row 1 0 z.sv.length, fL vs, fL fs, .row 3 0 z.cuts.length]])
theorem m_settleb (g : Gr) (wi : List Bool) (l : List Ld) (fe : List Bool) (h : SetOk g wi l) (hfl : fe.length = g.Feeds.length) (hb : fe = []) (Z : SS) (hZ : settleS g wi l fe = Z) :
  MutCall Try.prog 55 [.ptr 0 0 0, lL l] [hMb g fe wi] [] (.ptr 2 0 0) [hMb g Z.fe wi]
   [some (.els 1 (Z.sv.map bCell)), hTb (.ptr 0 0 0) l Z (vlA g.Nodes.toNat (vfZ g wi l Z)) (flA g ⟨Z.fe, wi⟩ (vfZ g wi l Z)), some (.els 4 (Z.cuts.map Cu.cells))] := by
 have hll := h.ll;have f0 : Fits l.length 2 := fits_of (by omega) (by omega);have hz0 := z0_ok h hfl;refine MutCall.of_bodyG [0] Try.func55 rfl (by decide) (by simp [Try.ntmps55]) rfl rfl ?_;intro J hJ;simp only [Try.ntmps55, Try.results55];refine gS fun K hK => ?_;simp -dsimp;apply hK;clear hK K;refine gwp_scope ?_;refine gS fun K hK => ?_;simp -dsimp [f0];apply hK;clear hK K;refine gwp_seq_k fun K1 hK1 => ?_;refine gS fun K hK => ?_;simp -dsimp;apply hK;clear hK K;refine gwp_block ?_;refine gwp_prune [0, 5, 21, 22] (Or.inr (by simp)) ?_;simp only [zP, Nat.reduceEqDiff, reduceIte];refine gwp_loop_l [0, 5, 21] (α := Nat) (fun k => [(22, I k)]) (fun k => [hMb g fe wi, some (.els 1 ((svK l.length k).map bCell)), some (.els 6 [[.ptr 0 0 0, lL l, .row 1 0 l.length, .v (.slice none 0 0), .v (.slice none 0 0), .v (.slice none 0 0)]])]) (fun k => k ≤ l.length) (fun k => l.length - k) 0 ?_ ?_ ?_
 ·exact Nat.zero_le _
 ·exact gsub (sub_rb [some 0, some 1, some 2] rfl (by simp) (by simp [svK_zero, bCell])) (by simp)
 rintro k k1;simp only [zP, Nat.reduceEqDiff, reduceIte];refine gS fun K hK => ?_;simp -dsimp;apply hK;clear hK K;refine gwp_seq_k fun K2 hK2 => ?_;refine gwp_cond rfl (fun hc0 => ?_) (fun hc0 => ?_)
 ·have hkl : k < l.length := by simpa using hc0
  have wk := zW k (by omega);have hsl := svK_len (n := l.length) (k := k) k1;have hst := svK_set hkl;refine gwp_skip ?_;simp only [zT, reduceIte, Nat.reduceEqDiff];refine hK2 _ _ ?_;refine gwp_prune [0, 5, 21, 22] (Or.inr (by simp)) ?_;simp only [zP, Nat.reduceEqDiff, reduceIte];refine gwp_seq_k fun K3 hK3 => ?_;refine gwp_block ?_;refine gS fun K hK => ?_;simp -dsimp;apply hK;clear hK K;refine gR fun K hK => ?_;simp -dsimp [hkl, hsl];apply hK;clear hK K;simp only [zT, reduceIte, Nat.reduceEqDiff];refine hK3 _ _ ?_;refine gwp_prune [0, 5, 21, 22] (Or.inr (by simp)) ?_;simp only [zP, Nat.reduceEqDiff, reduceIte];refine gR fun K hK => ?_;simp -dsimp [wk];apply hK;clear hK K;simp only [zT, reduceIte, Nat.reduceEqDiff];exact ⟨k + 1, by omega, by omega, gsub (sub_rb [some 0, some 1, some 2] rfl (by simp) (by simp [← hst, List.map_set, bCell])) (by simp)⟩
 ·have hke : k = l.length := by have hn : ¬ k < l.length := (by simpa using hc0); omega
  subst hke;refine gwp_exit ?_;simp only [zT, reduceIte, Nat.reduceEqDiff];refine hK1 _ _ ?_;refine gwp_prune [0, 5] (Or.inr (by simp)) ?_;simp only [zP, Nat.reduceEqDiff, reduceIte];rw [svK_all];refine gwp_weak (gsub (((sub_nilc 2 0 3 2 (sz0 := 6) rfl rfl rfl).trans (sub_nilc 2 0 4 2 (sz0 := 6) rfl rfl rfl)).trans (sub_nilc 2 0 5 4 (sz0 := 6) rfl rfl rfl)) (by simp)) ?_;refine gwp_weak (gsub (sub_rf (T' := [(0, .ptr 0 0 0), (5, .ptr 2 0 0)]) (H' := [hMb g (z0 l fe).fe wi, some (.els 1 ((z0 l fe).sv.map bCell)), hTb (.ptr 0 0 0) l (z0 l fe) [] [], some (.els 4 ((z0 l fe).cuts.map Cu.cells))]) [some 0, some 1, some 2, some 5] rfl ⟨.inr (by simp), .inr (by simp), trivial⟩ (by simp [z0])) (by simp)) ?_;refine gwp_fix 2 0 rfl rfl fun x => ?_;simp only [hset, List.set_cons_zero]
  ·refine gwp_flag (by decide) ?_;refine gS fun K hK => ?_;simp -dsimp;apply hK;clear hK K;refine gwp_sl ?_;refine gwp_block ?_;refine gwp_prune [0, 5, 7] (Or.inr (by simp)) ?_;simp only [zP, Nat.reduceEqDiff, reduceIte];refine gwp_loop_l [0, 5, 7] (α := SS × List Fr × List Fr) (fun a => []) (fun a => [hMb g a.1.fe wi, some (.els 1 (a.1.sv.map bCell)), hTb (.fptr x 0 0 0) l a.1 a.2.1 a.2.2, some (.els 4 (a.1.cuts.map Cu.cells)), some (.els 1 [[.bnd 77 [.ptr 2 0 0]], [.bnd 78 [.ptr 2 0 0]], [.bnd 79 [.ptr 2 0 0]], [.bnd 80 [.ptr 2 0 0]]])]) (fun a => ZOk g wi l a.1 ∧ settleN g wi l (cntZ a.1) a.1 = Z ∧ a.1.fe = []) (fun a => cntZ a.1) (z0 l fe, [], []) ?_ ?_ ?_
   ·exact ⟨hz0, hZ, hb⟩
   ·exact gsub (sub_same (by simp)) (by simp)
   rintro ⟨z, vs, fs⟩ ⟨hz, hN, hb⟩;simp only at hz hN hb ⊢;obtain ⟨vK, hvK⟩ : ∃ vK : Nat → List Fr, vK = fun k => if k ≤ 2 then vs else vlA g.Nodes.toNat (vfZ g wi l z) := ⟨_, rfl⟩;obtain ⟨fK, hfK⟩ : ∃ fK : Nat → List Fr, fK = fun k => if k ≤ 2 then fs else flA g ⟨z.fe, wi⟩ (vfZ g wi l z) := ⟨_, rfl⟩;have v0 : vK 0 = vs := by rw [hvK]; rfl
   have v1 : vK 1 = vs := by rw [hvK]; rfl
   have v2 : vK 2 = vs := by rw [hvK]; rfl
   have v3 : vK 3 = vlA g.Nodes.toNat (vfZ g wi l z) := by rw [hvK]; rfl
   have v4 : vK 4 = vlA g.Nodes.toNat (vfZ g wi l z) := by rw [hvK]; rfl
   have g0 : fK 0 = fs := by rw [hfK]; rfl
   have g1 : fK 1 = fs := by rw [hfK]; rfl
   have g2 : fK 2 = fs := by rw [hfK]; rfl
   have g3 : fK 3 = flA g ⟨z.fe, wi⟩ (vfZ g wi l z) := by rw [hfK]; rfl
   have g4 : fK 4 = flA g ⟨z.fe, wi⟩ (vfZ g wi l z) := by rw [hfK]; rfl
   simp only [zP, Nat.reduceEqDiff, reduceIte];refine gwp_block ?_;refine gwp_seq_k fun K4 hK4 => ?_;refine gS fun K hK => ?_;simp -dsimp;apply hK;clear hK K;refine gwp_block ?_;refine gwp_prune [0, 5, 7, 41, 42, 43] (Or.inr (by simp)) ?_;simp only [zP, Nat.reduceEqDiff, reduceIte];refine gwp_loop_l [0, 5, 7, 41, 42] (α := Nat) (fun k => [(43, I k)]) (fun k => [hMb g z.fe wi, some (.els 1 (z.sv.map bCell)), hTb (.fptr x 0 0 0) l z (vK k) (fK k), some (.els 4 (z.cuts.map Cu.cells)), some (.els 1 [[.bnd 77 [.ptr 2 0 0]], [.bnd 78 [.ptr 2 0 0]], [.bnd 79 [.ptr 2 0 0]], [.bnd 80 [.ptr 2 0 0]]])]) (fun k => k ≤ 4 ∧ (1 ≤ k → rDead g wi l z = none) ∧ (2 ≤ k → rRet g wi l z = none) ∧ (3 ≤ k → rLow g wi l z = none) ∧ (4 ≤ k → rTrip g wi l z = none)) (fun k => 4 - k) 0 ?_ ?_ ?_
   ·exact ⟨by omega, fun h => by omega, fun h => by omega, fun h => by omega, fun h => by omega⟩
   ·exact gsub (sub_rb [some 0, some 1, some 2, some 3, some 4] rfl (by simp) (by simp [v0, g0])) (by simp)
   rintro k ⟨k1, k2, k3, k4, k5⟩
   rcases (by omega : k = 0 ∨ k = 1 ∨ k = 2 ∨ k = 3 ∨ k = 4) with rfl | rfl | rfl | rfl | rfl
   ·simp only [zP, Nat.reduceEqDiff, reduceIte];refine gS fun K hK => ?_;simp -dsimp;apply hK;clear hK K;refine gwp_seq_k fun K5 hK5 => ?_;refine gwp_cond rfl (fun hc1 => ?_) (fun hc1 => ?_)
    ·rw [v0, g0];refine gwp_skip ?_;simp only [zT, reduceIte, Nat.reduceEqDiff];refine hK5 _ _ ?_;refine gwp_prune [0, 5, 7, 41, 42, 43] (Or.inr (by simp)) ?_;simp only [zP, Nat.reduceEqDiff, reduceIte];refine gwp_seq_k fun K6 hK6 => ?_;refine gwp_block ?_;refine gS fun K hK => ?_;simp -dsimp;apply hK;clear hK K;refine gS fun K hK => ?_;simp -dsimp;refine callK_mut [2, 0] [1, 3] [some 1, none, some 0, none, none, some 2, some 3] (w_deadb x g wi l z vs fs h hz hb) (by decide) rfl (by simp) (by simp) rfl (by simp) ?_;simp -dsimp;apply hK;clear hK K;refine gwp_cond rfl (fun hc2 => ?_) (fun hc2 => ?_)
     ·obtain ⟨z1, hz1⟩ := Option.isSome_iff_exists.1 hc2;have hst : stepZ g wi l z = some z1 := by unfold stepZ; rw [hz1]; rfl
      rw [hz1];simp only [Option.getD_some];refine gwp_exit ?_;simp only [zT, reduceIte, Nat.reduceEqDiff];obtain ⟨s1, s2, s3⟩ := step_ok h hz hst;exact ⟨(z1, vs, fs), ⟨s1, by rw [← hN, ← s2, settle_step hst], List.length_eq_zero_iff.1 (by rw [s1.fe, ← hz.fe, hb]; rfl)⟩, by simp only; omega, gsub (sub_rb [some 0, some 5, some 2, some 6, some 4] rfl (by simp) (by simp)) (by simp)⟩
     ·have hn : rDead g wi l z = none := by simpa using hc2
      rw [hn];simp only [Option.getD_none];refine gwp_skip ?_;simp only [zT, reduceIte, Nat.reduceEqDiff];refine hK6 _ _ ?_;refine gwp_prune [0, 5, 7, 41, 42, 43] (Or.inr (by simp)) ?_;simp only [zP, Nat.reduceEqDiff, reduceIte];refine gR fun K hK => ?_;simp -dsimp;apply hK;clear hK K;simp only [zT, reduceIte, Nat.reduceEqDiff];have wk : IntKind.i64.wrap 1 = 1 := by decide
      exact ⟨1, ⟨by omega, fun _ => hn, fun h => by omega, fun h => by omega, fun h => by omega⟩, by omega, gsub (sub_rb [some 0, some 5, some 2, some 6, some 4] rfl (by simp [wk]) (by simp [v1, g1])) (by simp)⟩
    ·simp at hc1
   ·simp only [zP, Nat.reduceEqDiff, reduceIte];refine gS fun K hK => ?_;simp -dsimp;apply hK;clear hK K;refine gwp_seq_k fun K7 hK7 => ?_;refine gwp_cond rfl (fun hc1 => ?_) (fun hc1 => ?_)
    ·rw [v1, g1];refine gwp_skip ?_;simp only [zT, reduceIte, Nat.reduceEqDiff];refine hK7 _ _ ?_;refine gwp_prune [0, 5, 7, 41, 42, 43] (Or.inr (by simp)) ?_;simp only [zP, Nat.reduceEqDiff, reduceIte];refine gwp_seq_k fun K8 hK8 => ?_;refine gwp_block ?_;refine gS fun K hK => ?_;simp -dsimp;apply hK;clear hK K;refine gS fun K hK => ?_;simp -dsimp;refine callK_mut [2, 0] [1, 3] [some 1, none, some 0, none, none, some 2, some 3] (w_retb x g wi l z vs fs h hz hb) (by decide) rfl (by simp) (by simp) rfl (by simp) ?_;simp -dsimp;apply hK;clear hK K;refine gwp_cond rfl (fun hc2 => ?_) (fun hc2 => ?_)
     ·obtain ⟨z1, hz1⟩ := Option.isSome_iff_exists.1 hc2;have hst : stepZ g wi l z = some z1 := by unfold stepZ; rw [k2 (by omega), hz1]; rfl
      rw [hz1];simp only [Option.getD_some];refine gwp_exit ?_;simp only [zT, reduceIte, Nat.reduceEqDiff];obtain ⟨s1, s2, s3⟩ := step_ok h hz hst;exact ⟨(z1, vs, fs), ⟨s1, by rw [← hN, ← s2, settle_step hst], List.length_eq_zero_iff.1 (by rw [s1.fe, ← hz.fe, hb]; rfl)⟩, by simp only; omega, gsub (sub_rb [some 0, some 5, some 2, some 6, some 4] rfl (by simp) (by simp)) (by simp)⟩
     ·have hn : rRet g wi l z = none := by simpa using hc2
      rw [hn];simp only [Option.getD_none];refine gwp_skip ?_;simp only [zT, reduceIte, Nat.reduceEqDiff];refine hK8 _ _ ?_;refine gwp_prune [0, 5, 7, 41, 42, 43] (Or.inr (by simp)) ?_;simp only [zP, Nat.reduceEqDiff, reduceIte];refine gR fun K hK => ?_;simp -dsimp;apply hK;clear hK K;simp only [zT, reduceIte, Nat.reduceEqDiff];have wk : IntKind.i64.wrap 2 = 2 := by decide
      exact ⟨2, ⟨by omega, fun _ => k2 (by omega), fun _ => hn, fun h => by omega, fun h => by omega⟩, by omega, gsub (sub_rb [some 0, some 5, some 2, some 6, some 4] rfl (by simp [wk]) (by simp [v2, g2])) (by simp)⟩
    ·simp at hc1
   ·simp only [zP, Nat.reduceEqDiff, reduceIte];refine gS fun K hK => ?_;simp -dsimp;apply hK;clear hK K;refine gwp_seq_k fun K9 hK9 => ?_;refine gwp_cond rfl (fun hc1 => ?_) (fun hc1 => ?_)
    ·rw [v2, g2];refine gwp_skip ?_;simp only [zT, reduceIte, Nat.reduceEqDiff];refine hK9 _ _ ?_;refine gwp_prune [0, 5, 7, 41, 42, 43] (Or.inr (by simp)) ?_;simp only [zP, Nat.reduceEqDiff, reduceIte];refine gwp_seq_k fun K10 hK10 => ?_;refine gwp_block ?_;refine gS fun K hK => ?_;simp -dsimp;apply hK;clear hK K;refine gS fun K hK => ?_;simp -dsimp;refine callK_mut [2, 0] [1, 3] [some 1, none, some 0, none, none, some 2, some 3] (w_lowb x g wi l z vs fs h hz hb (k2 (by omega)) (k3 (by omega))) (by decide) rfl (by simp) (by simp) rfl (by simp) ?_;simp -dsimp;apply hK;clear hK K;refine gwp_cond rfl (fun hc2 => ?_) (fun hc2 => ?_)
     ·obtain ⟨z1, hz1⟩ := Option.isSome_iff_exists.1 hc2;have hst : stepZ g wi l z = some z1 := by unfold stepZ; rw [k2 (by omega), k3 (by omega), hz1]; rfl
      rw [hz1];simp only [Option.getD_some];refine gwp_exit ?_;simp only [zT, reduceIte, Nat.reduceEqDiff];obtain ⟨s1, s2, s3⟩ := step_ok h hz hst;exact ⟨(z1, vlA g.Nodes.toNat (vfZ g wi l z), flA g ⟨z.fe, wi⟩ (vfZ g wi l z)), ⟨s1, by rw [← hN, ← s2, settle_step hst], List.length_eq_zero_iff.1 (by rw [s1.fe, ← hz.fe, hb]; rfl)⟩, by simp only; omega, gsub (sub_rb [some 0, some 5, some 2, some 6, some 4] rfl (by simp) (by simp)) (by simp)⟩
     ·have hn : rLow g wi l z = none := by simpa using hc2
      rw [hn];simp only [Option.getD_none];refine gwp_skip ?_;simp only [zT, reduceIte, Nat.reduceEqDiff];refine hK10 _ _ ?_;refine gwp_prune [0, 5, 7, 41, 42, 43] (Or.inr (by simp)) ?_;simp only [zP, Nat.reduceEqDiff, reduceIte];refine gR fun K hK => ?_;simp -dsimp;apply hK;clear hK K;simp only [zT, reduceIte, Nat.reduceEqDiff];have wk : IntKind.i64.wrap 3 = 3 := by decide
      exact ⟨3, ⟨by omega, fun _ => k2 (by omega), fun _ => k3 (by omega), fun _ => hn, fun h => by omega⟩, by omega, gsub (sub_rb [some 0, some 5, some 2, some 6, some 4] rfl (by simp [wk]) (by simp [v3, g3])) (by simp)⟩
    ·simp at hc1
   ·simp only [zP, Nat.reduceEqDiff, reduceIte];refine gS fun K hK => ?_;simp -dsimp;apply hK;clear hK K;refine gwp_seq_k fun K11 hK11 => ?_;refine gwp_cond rfl (fun hc1 => ?_) (fun hc1 => ?_)
    ·rw [v3, g3];refine gwp_skip ?_;simp only [zT, reduceIte, Nat.reduceEqDiff];refine hK11 _ _ ?_;refine gwp_prune [0, 5, 7, 41, 42, 43] (Or.inr (by simp)) ?_;simp only [zP, Nat.reduceEqDiff, reduceIte];refine gwp_seq_k fun K12 hK12 => ?_;refine gwp_block ?_;refine gS fun K hK => ?_;simp -dsimp;apply hK;clear hK K;refine gS fun K hK => ?_;simp -dsimp;refine callK_mut [2, 0] [1, 3] [some 1, none, some 0, none, none, some 2, some 3] (w_tripb x g wi l z h hz hb) (by decide) rfl (by simp) (by simp) rfl (by simp) ?_;simp -dsimp;apply hK;clear hK K;refine gwp_cond rfl (fun hc2 => ?_) (fun hc2 => ?_)
     ·obtain ⟨z1, hz1⟩ := Option.isSome_iff_exists.1 hc2;have hst : stepZ g wi l z = some z1 := by unfold stepZ; rw [k2 (by omega), k3 (by omega), k4 (by omega), hz1]; rfl
      rw [hz1];simp only [Option.getD_some];refine gwp_exit ?_;simp only [zT, reduceIte, Nat.reduceEqDiff];obtain ⟨s1, s2, s3⟩ := step_ok h hz hst;exact ⟨(z1, vlA g.Nodes.toNat (vfZ g wi l z), flA g ⟨z.fe, wi⟩ (vfZ g wi l z)), ⟨s1, by rw [← hN, ← s2, settle_step hst], List.length_eq_zero_iff.1 (by rw [s1.fe, ← hz.fe, hb]; rfl)⟩, by simp only; omega, gsub (sub_rb [some 0, some 5, some 2, some 6, some 4] rfl (by simp) (by simp)) (by simp)⟩
     ·have hn : rTrip g wi l z = none := by simpa using hc2
      rw [hn];simp only [Option.getD_none];refine gwp_skip ?_;simp only [zT, reduceIte, Nat.reduceEqDiff];refine hK12 _ _ ?_;refine gwp_prune [0, 5, 7, 41, 42, 43] (Or.inr (by simp)) ?_;simp only [zP, Nat.reduceEqDiff, reduceIte];refine gR fun K hK => ?_;simp -dsimp;apply hK;clear hK K;simp only [zT, reduceIte, Nat.reduceEqDiff];have wk : IntKind.i64.wrap 4 = 4 := by decide
      exact ⟨4, ⟨by omega, fun _ => k2 (by omega), fun _ => k3 (by omega), fun _ => k4 (by omega), fun _ => hn⟩, by omega, gsub (sub_rb [some 0, some 5, some 2, some 6, some 4] rfl (by simp [wk]) (by simp [v4, g4])) (by simp)⟩
    ·simp at hc1
   ·simp only [zP, Nat.reduceEqDiff, reduceIte];refine gS fun K hK => ?_;simp -dsimp;apply hK;clear hK K;refine gwp_seq_k fun K13 hK13 => ?_;refine gwp_cond rfl (fun hc1 => ?_) (fun hc1 => ?_)
    ·simp at hc1
    ·rw [v4, g4];have hst : stepZ g wi l z = none := by unfold stepZ; rw [k2 (by omega), k3 (by omega), k4 (by omega), k5 (by omega)]; rfl
     rw [settle_stop hst] at hN;subst hN;refine gwp_exit ?_;simp only [zT, reduceIte, Nat.reduceEqDiff];refine hK4 _ _ ?_;refine gwp_prune [0, 5] (Or.inr (by simp)) ?_;simp only [zP, Nat.reduceEqDiff, reduceIte];refine gS fun K hK => ?_;simp -dsimp;apply hK;clear hK K;refine gwp_weak (gsub (sub_unfix 2 0 rfl rfl) (by simp)) ?_;simp only [hset, List.set_cons_zero];exact gwp_ret ⟨[some 0, some 1, some 2, some 3], rfl, by simp, by simp, by simp, by simp [resP, tupOf]⟩
end Go.Cur
end
section
namespace Go.Cur
open Go.AM Go.Proofs
def stlS (g : Gr) (wi : List Bool) (l : List Ld) (Z : SS) : Stl := ⟨vlA g.Nodes.toNat (vfZ g wi l Z), flA g ⟨Z.fe, wi⟩ (vfZ g wi l Z), ⟨Z.fe, wi⟩, Z.sv, Z.cuts⟩
theorem settle_ok {g : Gr} {wi : List Bool} {l : List Ld} (h : SetOk g wi l) : ∀ {n : Nat} {z : SS}, ZOk g wi l z → ZOk g wi l (settleN g wi l n z)
 | 0, z, hz => hz
 | n + 1, z, hz => by
  cases hs : stepZ g wi l z with
  | none => rw [settle_stop hs]; exact hz
  | some z' => rw [settle_step hs]; exact settle_ok h (step_ok h hz hs).1
theorem settle_end {g : Gr} {wi : List Bool} {l : List Ld} (h : SetOk g wi l) : ∀ {n : Nat} {z : SS}, ZOk g wi l z → cntZ z ≤ n → stepZ g wi l (settleN g wi l n z) = none
 | 0, z, hz, hn => by
  cases hs : stepZ g wi l z with
  | none => exact hs
  | some z' => have := (step_ok h hz hs).2.1; omega
 | n + 1, z, hz, hn => by
  cases hs : stepZ g wi l z with
  | none => rw [settle_stop hs]; exact hs
  | some z' =>
   rw [settle_step hs];have := step_ok h hz hs;exact settle_end h this.1 (by omega)
theorem m_begina (g : Gr) (s : Sta) (l : List Ld) (hl : l.length ≤ 1000) (hfine : fineB g s l = true) (hne : s.Feeds ≠ []) : MutCall Try.prog 47 [g.av, s.av, lL l] [] [] (.tup [.ptr 0 0 0, Bo true]) [] [hMa g s.Feeds s.Wires, some (.els 1 (s.Feeds.map bCell))] := by
 have hfine0 := hfine;simp only [fineB, stB, Bool.and_eq_true, decide_eq_true_eq] at hfine0;have hgo : grB g = true ∧ s.Feeds.length = g.Feeds.length ∧ s.Wires.length = g.Wires.length := ⟨hfine0.1.1, hfine0.1.2.1.1, hfine0.1.2.1.2⟩;have hfl1 : s.Feeds.length ≤ 1000 := by have := (grB_bd hgo.1).2.2.2.1; omega
 refine MutCall.of_bodyG [] Try.func47 rfl (by decide) (by simp [Try.ntmps47]) rfl rfl ?_;intro J hJ;simp only [Try.ntmps47, Try.results47];refine gS fun K hK => ?_;simp -dsimp;apply hK;clear hK K;refine gwp_seq_k fun K1 hK1 => ?_;refine gS fun K hK => ?_;simp -dsimp [okE];refine callK_intro _ (c_Check g) (by simp) ?_;simp -dsimp [okE];apply hK;clear hK K;refine gwp_cond rfl (fun hc0 => ?_) (fun hc0 => ?_)
 ·exfalso;simp [hgo.1, hgo.2.1, hgo.2.2] at hc0
 ·have hb := grB_bd hgo.1;refine gwp_skip ?_;simp only [zT, reduceIte, Nat.reduceEqDiff];refine hK1 _ _ ?_;refine gwp_prune [2, 3, 4] (Or.inr (by simp)) ?_;simp only [zP, Nat.reduceEqDiff, reduceIte];refine gwp_seq_k fun K2 hK2 => ?_;refine gS fun K hK => ?_;simp -dsimp;apply hK;clear hK K;refine gwp_block ?_;refine gwp_prune [2, 3, 4, 35, 36, 37] (Or.inr (by simp)) ?_;simp only [zP, Nat.reduceEqDiff, reduceIte];refine gwp_loop_l [2, 3, 4, 35, 36] (α := Nat) (fun k => [(37, I k)]) (fun k => [some (.els 4 [g.cells]), some (.els 2 [s.cells])]) (fun k => k ≤ g.Wires.length ∧ swTo g s k = true) (fun k => g.Wires.length - k) 0 ?_ ?_ ?_
  ·exact ⟨Nat.zero_le _, rfl⟩
  ·exact gsub (sub_same (by simp)) (by simp)
  rintro k ⟨k1, k2⟩;simp only [zP, Nat.reduceEqDiff, reduceIte];refine gS fun K hK => ?_;simp -dsimp;apply hK;clear hK K;refine gwp_seq_k fun K3 hK3 => ?_;refine gwp_cond rfl (fun hc1 => ?_) (fun hc1 => ?_)
  ·skip
   try simp at hc1
   obtain ⟨w, hw⟩ : ∃ w, g.Wires[k]? = some w := ⟨_, List.getElem?_eq_getElem hc1⟩;have wk := zW k (by omega);have gb := bAt_get (l := s.Wires) (k := k) (by omega);refine gwp_skip ?_;simp only [zT, reduceIte, Nat.reduceEqDiff];refine hK3 _ _ ?_;refine gwp_prune [2, 3, 4, 35, 36, 37] (Or.inr (by simp)) ?_;simp only [zP, Nat.reduceEqDiff, reduceIte];refine gwp_seq_k fun K4 hK4 => ?_;refine gwp_block ?_;refine gS fun K hK => ?_;simp -dsimp [hw];apply hK;clear hK K;refine gS fun K hK => ?_;simp -dsimp [gb, hgo.2.2];refine idxK_intro (bCell (bAt s.Wires k)) (fun _ => by simp [gb]) ?_;simp -dsimp [gb, hgo.2.2];apply hK;clear hK K;refine gwp_cond rfl (fun hc2 => ?_) (fun hc2 => ?_)
   ·exfalso;have hfl : (w.Sw || bAt s.Wires k) = false := by cases hw1 : w.Sw <;> cases hb1 : bAt s.Wires k <;> simp [hw1, hb1] at hc2 ⊢
    rw [fine_w hw hfl] at hfine; cases hfine
   ·refine gwp_skip ?_;simp only [zT, reduceIte, Nat.reduceEqDiff];refine hK4 _ _ ?_;refine gwp_prune [2, 3, 4, 35, 36, 37] (Or.inr (by simp)) ?_;simp only [zP, Nat.reduceEqDiff, reduceIte];refine gR fun K hK => ?_;simp -dsimp [wk];apply hK;clear hK K;simp only [zT, reduceIte, Nat.reduceEqDiff];refine ⟨k + 1, ⟨by omega, ?_⟩, by omega, gsub (sub_rb [some 0, some 1] rfl (by simp) (by simp)) (by simp)⟩;simp only [swTo, k2, hw, Bool.true_and]
    cases hw1 : w.Sw <;> cases hb1 : bAt s.Wires k <;> simp [hw1, hb1] at hc2 ⊢
  ·skip
   try simp at hc1
   have hke : k = g.Wires.length := by omega
   subst hke;refine gwp_exit ?_;simp only [zT, reduceIte, Nat.reduceEqDiff];refine hK2 _ _ ?_;refine gwp_prune [2, 3, 4] (Or.inr (by simp)) ?_;simp only [zP, Nat.reduceEqDiff, reduceIte];refine gS fun K hK => ?_;simp -dsimp;apply hK;clear hK K;refine gwp_seq_k fun K5 hK5 => ?_;refine gS fun K hK => ?_;simp -dsimp;apply hK;clear hK K;refine gwp_block ?_;refine gwp_prune [3, 4, 10, 55, 56, 57] (Or.inr (by simp)) ?_;simp only [zP, Nat.reduceEqDiff, reduceIte];refine gwp_loop_l [3, 4, 10, 55, 56] (α := Nat) (fun k => [(57, I k)]) (fun k => [some (.els 4 [g.cells]), some (.els 2 [s.cells]), some (.map false [.i .i64] (lkv (l.take k)))]) (fun k => k ≤ l.length ∧ ldTo g l k = true) (fun k => l.length - k) 0 ?_ ?_ ?_
   ·exact ⟨Nat.zero_le _, rfl⟩
   ·exact gsub (sub_rb [some 0, some 1, some 2] rfl (by simp) (by simp [lkv])) (by simp)
   rintro i ⟨i1, i2⟩;simp only [zP, Nat.reduceEqDiff, reduceIte];refine gS fun K hK => ?_;simp -dsimp;apply hK;clear hK K;refine gwp_seq_k fun K6 hK6 => ?_;refine gwp_cond rfl (fun hc3 => ?_) (fun hc3 => ?_)
   ·skip
    try simp at hc3
    obtain ⟨f, hf⟩ : ∃ f, l[i]? = some f := ⟨_, List.getElem?_eq_getElem hc3⟩;have wi := zW i (by omega);have wn : IntKind.i64.wrap (g.Nodes - 1) = g.Nodes - 1 := wrap_in (by omega) (by omega);refine gwp_skip ?_;simp only [zT, reduceIte, Nat.reduceEqDiff];refine hK6 _ _ ?_;refine gwp_prune [3, 4, 10, 55, 56, 57] (Or.inr (by simp)) ?_;simp only [zP, Nat.reduceEqDiff, reduceIte];refine gwp_seq_k fun K7 hK7 => ?_;refine gwp_block ?_;refine gS fun K hK => ?_;simp -dsimp [hf];apply hK;clear hK K;refine gwp_seq_k fun K8 hK8 => ?_;refine gS fun K hK => ?_;simp -dsimp [wn, lkv_look];refine callK_intro _ (c_within _ _ _) (by simp) ?_;simp -dsimp [wn, lkv_look];refine callK_may _ (fun hm => c_within f.Units (-40) 40) (by simp) ?_;simp -dsimp [wn, lkv_look];refine callK_may _ (fun hm => c_within f.Rank 0 100) (by simp) ?_;simp -dsimp [wn, lkv_look];refine valK_intro (_) (fun hm => rfl) ?_;simp -dsimp [wn, lkv_look];apply hK;clear hK K;refine gwp_cond rfl (fun hc4 => ?_) (fun hc4 => ?_)
    ·have hfd : ldB g (l.take i) f = !(!inr f.At 0 (g.Nodes - 1) || !inr f.Units (-40) 40 || !inr f.Rank 0 100 || ((l.take i).any fun x => decide (x.At = f.At))) := by
      simp only [ldB]
      cases inr f.At 0 (g.Nodes - 1) <;> cases inr f.Units (-40) 40 <;> cases inr f.Rank 0 100 <;> cases ((l.take i).any fun x => decide (x.At = f.At)) <;> rfl
     exfalso;rw [fine_l hf (by rw [hfd, hc4]; rfl)] at hfine; cases hfine
    ·have hfd : ldB g (l.take i) f = !(!inr f.At 0 (g.Nodes - 1) || !inr f.Units (-40) 40 || !inr f.Rank 0 100 || ((l.take i).any fun x => decide (x.At = f.At))) := by
      simp only [ldB]
      cases inr f.At 0 (g.Nodes - 1) <;> cases inr f.Units (-40) 40 <;> cases inr f.Rank 0 100 <;> cases ((l.take i).any fun x => decide (x.At = f.At)) <;> rfl
     have hany : ((l.take i).any fun x => decide (x.At = f.At)) = false := by
      cases h : ((l.take i).any fun x => decide (x.At = f.At)) with
      | false => rfl
      | true => rw [h] at hc4; simp at hc4
     refine gwp_skip ?_;simp only [zT, reduceIte, Nat.reduceEqDiff];refine hK8 _ _ ?_;refine gwp_prune [3, 4, 10, 12, 55, 56, 57] (Or.inr (by simp)) ?_;simp only [zP, Nat.reduceEqDiff, reduceIte];refine gR fun K hK => ?_;simp -dsimp [lkv_snoc _ _ hany];apply hK;clear hK K;simp only [zT, reduceIte, Nat.reduceEqDiff];refine hK7 _ _ ?_;refine gwp_prune [3, 4, 10, 55, 56, 57] (Or.inr (by simp)) ?_;simp only [zP, Nat.reduceEqDiff, reduceIte];refine gR fun K hK => ?_;simp -dsimp [wi];apply hK;clear hK K;simp only [zT, reduceIte, Nat.reduceEqDiff];refine ⟨i + 1, ⟨by omega, ?_⟩, by omega, gsub (sub_rb [some 0, some 1, some 2] rfl (by simp) (by simp [List.take_add_one, hf])) (by simp)⟩;simp only [ldTo, i2, hf, hfd, hc4]; rfl
   ·skip
    try simp at hc3
    refine gwp_exit ?_;simp only [zT, reduceIte, Nat.reduceEqDiff];refine hK5 _ _ ?_;refine gwp_prune [3, 4] (Or.inr (by simp)) ?_;simp only [zP, Nat.reduceEqDiff, reduceIte];refine gwp_sd mixed rfl (by decide) rfl rfl fun K hK => ?_;simp -dsimp;refine callK_own (o_Cl s.Feeds hne hfl1) ?_;simp -dsimp;refine callK_intro _ (c_Clone_Bool s.Wires (by omega)) (by simp) ?_;simp -dsimp;refine hK _ _ _ (by decide +kernel) ?_; clear hK K;exact gwp_ret ⟨[some 4, some 3], rfl, by simp, by simp [hne], by simp, by simp [resP, tupOf]⟩
theorem c_Settle_ta (g : Gr) (s : Sta) (l : List Ld) (hf : fineB g s l = true) (hlo : longB g s = false) (h : SetOk g s.Wires l) (hne : s.Feeds ≠ []) (Z : SS) (hZ : settleS g s.Wires l s.Feeds = Z) :
  PureCall Try.prog 27 [g.av, s.av, lL l] (.tup [.agg (stlS g s.Wires l Z).cells, I 0]) := by
 have hll := h.ll;have hnt := fine_net hf;have hb := m_begina g s l (by omega) hf hne;have hlg := c_long g s hnt (h.few _);rw [hlo] at hlg;have hst := m_settlea g s.Wires l s.Feeds h hnt.sf Z hZ;refine PureCall.of_bodyG Try.func27 rfl (by decide) (by simp [Try.ntmps27]) ?_;intro J hJ;simp only [Try.ntmps27, Try.results27];refine gS fun K hK => ?_;simp -dsimp;apply hK;clear hK K;refine gS fun K hK => ?_;simp -dsimp;refine callK_mut [] [] [none, none, none, some 0, some 1] (hb) (by decide) rfl (by simp) (by simp) rfl (by simp) ?_;simp -dsimp;apply hK;clear hK K;refine gwp_seq_k fun K1 hK1 => ?_;refine gwp_block ?_;refine gS fun K hK => ?_;simp -dsimp;apply hK;clear hK K;refine gwp_cond rfl (fun hc0 => ?_) (fun hc0 => ?_)
 ·simp at hc0
 ·refine gS fun K hK => ?_;simp -dsimp;refine callK_intro _ (hlg) (by simp) ?_;simp -dsimp;apply hK;clear hK K;refine gwp_cond rfl (fun hc1 => ?_) (fun hc1 => ?_)
  ·simp at hc1
  ·refine gwp_skip ?_;simp only [zT, reduceIte, Nat.reduceEqDiff];refine hK1 _ _ ?_;refine gwp_prune [2, 6, 8] (Or.inr (by simp)) ?_;simp only [zP, Nat.reduceEqDiff, reduceIte];refine gS fun K hK => ?_;simp -dsimp;refine callK_mut [3] [4] [none, none, none, some 0, none, some 1, some 2, some 3, some 4] (hst) (by decide) rfl (by simp) (by simp) rfl (by simp) ?_;simp -dsimp;apply hK;clear hK K;refine gwp_sd mixed rfl (by decide) rfl rfl fun K hK => ?_;simp -dsimp;refine hK _ _ _ (by decide +kernel) ?_; clear hK K;exact gwp_ret (by simp [stlS, resP, tupOf])
theorem m_beginb (g : Gr) (s : Sta) (l : List Ld) (hl : l.length ≤ 1000) (hfine : fineB g s l = true) (hne : s.Feeds = []) : MutCall Try.prog 47 [g.av, s.av, lL l] [] [] (.tup [.ptr 0 0 0, Bo true]) [] [hMb g s.Feeds s.Wires] := by
 have hfine0 := hfine;simp only [fineB, stB, Bool.and_eq_true, decide_eq_true_eq] at hfine0;have hgo : grB g = true ∧ s.Feeds.length = g.Feeds.length ∧ s.Wires.length = g.Wires.length := ⟨hfine0.1.1, hfine0.1.2.1.1, hfine0.1.2.1.2⟩;have hfl1 : s.Feeds.length ≤ 1000 := by have := (grB_bd hgo.1).2.2.2.1; omega
 refine MutCall.of_bodyG [] Try.func47 rfl (by decide) (by simp [Try.ntmps47]) rfl rfl ?_;intro J hJ;simp only [Try.ntmps47, Try.results47];refine gS fun K hK => ?_;simp -dsimp;apply hK;clear hK K;refine gwp_seq_k fun K1 hK1 => ?_;refine gS fun K hK => ?_;simp -dsimp [okE];refine callK_intro _ (c_Check g) (by simp) ?_;simp -dsimp [okE];apply hK;clear hK K;refine gwp_cond rfl (fun hc0 => ?_) (fun hc0 => ?_)
 ·exfalso;simp [hgo.1, hgo.2.1, hgo.2.2] at hc0
 ·have hb := grB_bd hgo.1;refine gwp_skip ?_;simp only [zT, reduceIte, Nat.reduceEqDiff];refine hK1 _ _ ?_;refine gwp_prune [2, 3, 4] (Or.inr (by simp)) ?_;simp only [zP, Nat.reduceEqDiff, reduceIte];refine gwp_seq_k fun K2 hK2 => ?_;refine gS fun K hK => ?_;simp -dsimp;apply hK;clear hK K;refine gwp_block ?_;refine gwp_prune [2, 3, 4, 35, 36, 37] (Or.inr (by simp)) ?_;simp only [zP, Nat.reduceEqDiff, reduceIte];refine gwp_loop_l [2, 3, 4, 35, 36] (α := Nat) (fun k => [(37, I k)]) (fun k => [some (.els 4 [g.cells]), some (.els 2 [s.cells])]) (fun k => k ≤ g.Wires.length ∧ swTo g s k = true) (fun k => g.Wires.length - k) 0 ?_ ?_ ?_
  ·exact ⟨Nat.zero_le _, rfl⟩
  ·exact gsub (sub_same (by simp)) (by simp)
  rintro k ⟨k1, k2⟩;simp only [zP, Nat.reduceEqDiff, reduceIte];refine gS fun K hK => ?_;simp -dsimp;apply hK;clear hK K;refine gwp_seq_k fun K3 hK3 => ?_;refine gwp_cond rfl (fun hc1 => ?_) (fun hc1 => ?_)
  ·skip
   try simp at hc1
   obtain ⟨w, hw⟩ : ∃ w, g.Wires[k]? = some w := ⟨_, List.getElem?_eq_getElem hc1⟩;have wk := zW k (by omega);have gb := bAt_get (l := s.Wires) (k := k) (by omega);refine gwp_skip ?_;simp only [zT, reduceIte, Nat.reduceEqDiff];refine hK3 _ _ ?_;refine gwp_prune [2, 3, 4, 35, 36, 37] (Or.inr (by simp)) ?_;simp only [zP, Nat.reduceEqDiff, reduceIte];refine gwp_seq_k fun K4 hK4 => ?_;refine gwp_block ?_;refine gS fun K hK => ?_;simp -dsimp [hw];apply hK;clear hK K;refine gS fun K hK => ?_;simp -dsimp [gb, hgo.2.2];refine idxK_intro (bCell (bAt s.Wires k)) (fun _ => by simp [gb]) ?_;simp -dsimp [gb, hgo.2.2];apply hK;clear hK K;refine gwp_cond rfl (fun hc2 => ?_) (fun hc2 => ?_)
   ·exfalso;have hfl : (w.Sw || bAt s.Wires k) = false := by cases hw1 : w.Sw <;> cases hb1 : bAt s.Wires k <;> simp [hw1, hb1] at hc2 ⊢
    rw [fine_w hw hfl] at hfine; cases hfine
   ·refine gwp_skip ?_;simp only [zT, reduceIte, Nat.reduceEqDiff];refine hK4 _ _ ?_;refine gwp_prune [2, 3, 4, 35, 36, 37] (Or.inr (by simp)) ?_;simp only [zP, Nat.reduceEqDiff, reduceIte];refine gR fun K hK => ?_;simp -dsimp [wk];apply hK;clear hK K;simp only [zT, reduceIte, Nat.reduceEqDiff];refine ⟨k + 1, ⟨by omega, ?_⟩, by omega, gsub (sub_rb [some 0, some 1] rfl (by simp) (by simp)) (by simp)⟩;simp only [swTo, k2, hw, Bool.true_and]
    cases hw1 : w.Sw <;> cases hb1 : bAt s.Wires k <;> simp [hw1, hb1] at hc2 ⊢
  ·skip
   try simp at hc1
   have hke : k = g.Wires.length := by omega
   subst hke;refine gwp_exit ?_;simp only [zT, reduceIte, Nat.reduceEqDiff];refine hK2 _ _ ?_;refine gwp_prune [2, 3, 4] (Or.inr (by simp)) ?_;simp only [zP, Nat.reduceEqDiff, reduceIte];refine gS fun K hK => ?_;simp -dsimp;apply hK;clear hK K;refine gwp_seq_k fun K5 hK5 => ?_;refine gS fun K hK => ?_;simp -dsimp;apply hK;clear hK K;refine gwp_block ?_;refine gwp_prune [3, 4, 10, 55, 56, 57] (Or.inr (by simp)) ?_;simp only [zP, Nat.reduceEqDiff, reduceIte];refine gwp_loop_l [3, 4, 10, 55, 56] (α := Nat) (fun k => [(57, I k)]) (fun k => [some (.els 4 [g.cells]), some (.els 2 [s.cells]), some (.map false [.i .i64] (lkv (l.take k)))]) (fun k => k ≤ l.length ∧ ldTo g l k = true) (fun k => l.length - k) 0 ?_ ?_ ?_
   ·exact ⟨Nat.zero_le _, rfl⟩
   ·exact gsub (sub_rb [some 0, some 1, some 2] rfl (by simp) (by simp [lkv])) (by simp)
   rintro i ⟨i1, i2⟩;simp only [zP, Nat.reduceEqDiff, reduceIte];refine gS fun K hK => ?_;simp -dsimp;apply hK;clear hK K;refine gwp_seq_k fun K6 hK6 => ?_;refine gwp_cond rfl (fun hc3 => ?_) (fun hc3 => ?_)
   ·skip
    try simp at hc3
    obtain ⟨f, hf⟩ : ∃ f, l[i]? = some f := ⟨_, List.getElem?_eq_getElem hc3⟩;have wi := zW i (by omega);have wn : IntKind.i64.wrap (g.Nodes - 1) = g.Nodes - 1 := wrap_in (by omega) (by omega);refine gwp_skip ?_;simp only [zT, reduceIte, Nat.reduceEqDiff];refine hK6 _ _ ?_;refine gwp_prune [3, 4, 10, 55, 56, 57] (Or.inr (by simp)) ?_;simp only [zP, Nat.reduceEqDiff, reduceIte];refine gwp_seq_k fun K7 hK7 => ?_;refine gwp_block ?_;refine gS fun K hK => ?_;simp -dsimp [hf];apply hK;clear hK K;refine gwp_seq_k fun K8 hK8 => ?_;refine gS fun K hK => ?_;simp -dsimp [wn, lkv_look];refine callK_intro _ (c_within _ _ _) (by simp) ?_;simp -dsimp [wn, lkv_look];refine callK_may _ (fun hm => c_within f.Units (-40) 40) (by simp) ?_;simp -dsimp [wn, lkv_look];refine callK_may _ (fun hm => c_within f.Rank 0 100) (by simp) ?_;simp -dsimp [wn, lkv_look];refine valK_intro (_) (fun hm => rfl) ?_;simp -dsimp [wn, lkv_look];apply hK;clear hK K;refine gwp_cond rfl (fun hc4 => ?_) (fun hc4 => ?_)
    ·have hfd : ldB g (l.take i) f = !(!inr f.At 0 (g.Nodes - 1) || !inr f.Units (-40) 40 || !inr f.Rank 0 100 || ((l.take i).any fun x => decide (x.At = f.At))) := by
      simp only [ldB]
      cases inr f.At 0 (g.Nodes - 1) <;> cases inr f.Units (-40) 40 <;> cases inr f.Rank 0 100 <;> cases ((l.take i).any fun x => decide (x.At = f.At)) <;> rfl
     exfalso;rw [fine_l hf (by rw [hfd, hc4]; rfl)] at hfine; cases hfine
    ·have hfd : ldB g (l.take i) f = !(!inr f.At 0 (g.Nodes - 1) || !inr f.Units (-40) 40 || !inr f.Rank 0 100 || ((l.take i).any fun x => decide (x.At = f.At))) := by
      simp only [ldB]
      cases inr f.At 0 (g.Nodes - 1) <;> cases inr f.Units (-40) 40 <;> cases inr f.Rank 0 100 <;> cases ((l.take i).any fun x => decide (x.At = f.At)) <;> rfl
     have hany : ((l.take i).any fun x => decide (x.At = f.At)) = false := by
      cases h : ((l.take i).any fun x => decide (x.At = f.At)) with
      | false => rfl
      | true => rw [h] at hc4; simp at hc4
     refine gwp_skip ?_;simp only [zT, reduceIte, Nat.reduceEqDiff];refine hK8 _ _ ?_;refine gwp_prune [3, 4, 10, 12, 55, 56, 57] (Or.inr (by simp)) ?_;simp only [zP, Nat.reduceEqDiff, reduceIte];refine gR fun K hK => ?_;simp -dsimp [lkv_snoc _ _ hany];apply hK;clear hK K;simp only [zT, reduceIte, Nat.reduceEqDiff];refine hK7 _ _ ?_;refine gwp_prune [3, 4, 10, 55, 56, 57] (Or.inr (by simp)) ?_;simp only [zP, Nat.reduceEqDiff, reduceIte];refine gR fun K hK => ?_;simp -dsimp [wi];apply hK;clear hK K;simp only [zT, reduceIte, Nat.reduceEqDiff];refine ⟨i + 1, ⟨by omega, ?_⟩, by omega, gsub (sub_rb [some 0, some 1, some 2] rfl (by simp) (by simp [List.take_add_one, hf])) (by simp)⟩;simp only [ldTo, i2, hf, hfd, hc4]; rfl
   ·skip
    try simp at hc3
    refine gwp_exit ?_;simp only [zT, reduceIte, Nat.reduceEqDiff];refine hK5 _ _ ?_;refine gwp_prune [3, 4] (Or.inr (by simp)) ?_;simp only [zP, Nat.reduceEqDiff, reduceIte];refine gwp_sd mixed rfl (by decide) rfl rfl fun K hK => ?_;simp -dsimp;refine callK_intro _ (c_Clone_Bool s.Feeds (by omega)) (by simp) ?_;simp -dsimp;refine callK_intro _ (c_Clone_Bool s.Wires (by omega)) (by simp) ?_;simp -dsimp;refine hK _ _ _ (by decide +kernel) ?_; clear hK K;exact gwp_ret ⟨[some 3], rfl, by simp, by simp [hne], by simp, by simp [resP, tupOf]⟩
theorem c_Settle_tb (g : Gr) (s : Sta) (l : List Ld) (hf : fineB g s l = true) (hlo : longB g s = false) (h : SetOk g s.Wires l) (hne : s.Feeds = []) (Z : SS) (hZ : settleS g s.Wires l s.Feeds = Z) :
  PureCall Try.prog 27 [g.av, s.av, lL l] (.tup [.agg (stlS g s.Wires l Z).cells, I 0]) := by
 have hll := h.ll;have hnt := fine_net hf;have hb := m_beginb g s l (by omega) hf hne;have hlg := c_long g s hnt (h.few _);rw [hlo] at hlg;change PureCall _ _ [.iptr [I g.Nodes, .lst 4 (g.Wires.map Wr.cells), .lst 4 (g.Feeds.map Fd.cells), I g.Least, bL s.Feeds, bL s.Wires]] _ at hlg;rw [hne] at hlg;have hst := m_settleb g s.Wires l s.Feeds h hnt.sf hne Z hZ;have hzf : Z.fe = [] := by
  have := (settle_ok h (n := cntZ (z0 l s.Feeds)) (z0_ok h (fe := s.Feeds) hnt.sf)).fe;have e : (settleN g s.Wires l (cntZ (z0 l s.Feeds)) (z0 l s.Feeds)) = Z := hZ;rw [e, ← hnt.sf, hne] at this;exact List.length_eq_zero_iff.1 this
 refine PureCall.of_bodyG Try.func27 rfl (by decide) (by simp [Try.ntmps27]) ?_;intro J hJ;simp only [Try.ntmps27, Try.results27];refine gS fun K hK => ?_;simp -dsimp;apply hK;clear hK K;refine gS fun K hK => ?_;simp -dsimp;refine callK_mut [] [] [none, none, none, some 0] (hb) (by decide) rfl (by simp) (by simp) rfl (by simp) ?_;simp -dsimp;apply hK;clear hK K;refine gwp_seq_k fun K1 hK1 => ?_;refine gwp_block ?_;refine gS fun K hK => ?_;simp -dsimp;apply hK;clear hK K;refine gwp_cond rfl (fun hc0 => ?_) (fun hc0 => ?_)
 ·simp at hc0
 ·refine gS fun K hK => ?_;simp -dsimp;refine callK_intro _ (hlg) (by simp) ?_;simp -dsimp;apply hK;clear hK K;refine gwp_cond rfl (fun hc1 => ?_) (fun hc1 => ?_)
  ·simp at hc1
  ·refine gwp_skip ?_;simp only [zT, reduceIte, Nat.reduceEqDiff];refine hK1 _ _ ?_;refine gwp_prune [2, 6, 8] (Or.inr (by simp)) ?_;simp only [zP, Nat.reduceEqDiff, reduceIte];refine gS fun K hK => ?_;simp -dsimp;refine callK_mut [3] [] [none, none, none, some 0, some 1, some 2, some 3] (hst) (by decide) rfl (by simp) (by simp) rfl (by simp) ?_;simp -dsimp;apply hK;clear hK K;refine gwp_sd mixed rfl (by decide) rfl rfl fun K hK => ?_;simp -dsimp;refine hK _ _ _ (by decide +kernel) ?_; clear hK K;exact gwp_ret (by simp [stlS, hzf, resP, tupOf])
end Go.Cur
end
section
namespace Go.Cur
open Go.AM Go.Proofs
def onAll (wi : List Bool) (ws : List Int) : List Bool := ws.foldl (fun b w => b.set w.toNat true) wi
theorem onAll_snoc {wi : List Bool} {ws : List Int} {k : Nat} {w : Int} (h : ws[k]? = some w) : onAll wi (ws.take (k + 1)) = (onAll wi (ws.take k)).set w.toNat true := by
 unfold onAll;rw [List.take_add_one, h, List.foldl_append]; rfl
theorem onAll_len : ∀ (ws : List Int) (wi : List Bool), (onAll wi ws).length = wi.length
 | [], wi => rfl
 | w :: ws, wi => by
  have := onAll_len ws (wi.set w.toNat true);unfold onAll at this ⊢;rw [List.foldl_cons, this, List.length_set]
def rlB (g : Gr) (s : Sta) (ws : List Int) (l : List Ld) : Bool := decide ((settleS g (onAll s.Wires ws) l s.Feeds).cuts.length = 0)
theorem len_eq0 (c : List Cu) : ((c.length : Int) == 0) = decide (c = []) := by
 cases c with
 | nil => rfl
 | cons a t =>
  have : ¬ ((a :: t).length : Int) = 0 := by simp only [List.length_cons]; omega
  rw [beq_eq_false_iff_ne.2 this]; simp
theorem not_long {g : Gr} {wi : List Bool} {l : List Ld} (h : SetOk g wi l) (fe : List Bool) : longB g ⟨fe, wi⟩ = false := by
 unfold longB;rw [List.any_eq_false];intro p hp;have := h.p5' fe p hp;simp; omega
theorem c_relievesa (g : Gr) (s : Sta) (ws : List Int) (l : List Ld) (hnt : NetOk g s) (hw : ∀ w ∈ ws, 0 ≤ w ∧ w < s.Wires.length) (h : SetOk g (onAll s.Wires ws) l) (hwl : ws.length ≤ 1000) (hne : s.Feeds ≠ []) (hwn : s.Wires ≠ []) :
  PureCall Try.prog 60 [net g s, iL ws, lL l] (Bo (rlB g s ws l)) := by
 have hol := onAll_len ws s.Wires;have hnt2 : NetOk g ⟨s.Feeds, onAll s.Wires ws⟩ := ⟨hnt.gr, hnt.sf, by rw [hol]; exact hnt.sw⟩;have hlg := c_long g ⟨s.Feeds, onAll s.Wires ws⟩ hnt2 (h.few _);rw [not_long h] at hlg;have hbd := grB_bd hnt.gr;have hsf := hnt.sf;have hsw := hnt.sw;have hst := m_settlea g (onAll s.Wires ws) l s.Feeds h hsf _ rfl;have hrl : rlB g s ws l = decide ((settleS g (onAll s.Wires ws) l s.Feeds).cuts.length = 0) := rfl;generalize settleS g (onAll s.Wires ws) l s.Feeds = Z at hst hrl;rw [hrl];have htw : List.take s.Wires.length ((onAll s.Wires ws).map bCell) = (onAll s.Wires ws).map bCell := List.take_of_length_le (by simp; omega);refine PureCall.of_bodyG Try.func60 rfl (by decide) (by simp [Try.ntmps60]) ?_;intro J hJ;simp only [Try.ntmps60, Try.results60];refine gS fun K hK => ?_;simp -dsimp;apply hK;clear hK K;refine gwp_sd mixed rfl (by decide) rfl rfl fun K hK => ?_;simp -dsimp;refine callK_own (o_Cl s.Feeds hne (by omega)) ?_;simp -dsimp;refine callK_own (o_Cl s.Wires hwn (by omega)) ?_;simp -dsimp;refine hK _ _ _ (by decide +kernel) ?_; clear hK K;refine gwp_seq_k fun K1 hK1 => ?_;refine gS fun K hK => ?_;simp -dsimp;apply hK;clear hK K;refine gwp_block ?_;refine gwp_prune [2, 7, 29, 30, 31] (Or.inr (by simp)) ?_;simp only [zP, Nat.reduceEqDiff, reduceIte];refine gwp_loop_l [2, 7, 29, 30] (α := Nat) (fun k => [(31, I k)]) (fun k => [some (.els 1 (s.Feeds.map bCell)), some (.els 1 ((onAll s.Wires (ws.take k)).map bCell)), some (.els 6 [[I g.Nodes, .lst 4 (g.Wires.map Wr.cells), .lst 4 (g.Feeds.map Fd.cells), I g.Least, .row 0 0 s.Feeds.length, .row 1 0 s.Wires.length]])]) (fun k => k ≤ ws.length) (fun k => ws.length - k) 0 ?_ ?_ ?_
 ·exact Nat.zero_le _
 ·exact gsub (sub_rb [some 0, some 1, some 2] rfl (by simp) (by simp [onAll])) (by simp)
 rintro k k1;simp only [zP, Nat.reduceEqDiff, reduceIte];refine gS fun K hK => ?_;simp -dsimp;apply hK;clear hK K;refine gwp_seq_k fun K2 hK2 => ?_;refine gwp_cond rfl (fun hc0 => ?_) (fun hc0 => ?_)
 ·have hkl : k < ws.length := by simpa using hc0
  have wk := zW k (by omega);obtain ⟨w, hwk⟩ : ∃ w, ws[k]? = some w := ⟨_, List.getElem?_eq_getElem hkl⟩;obtain ⟨hw0, hw1⟩ := hw w (List.mem_of_getElem? hwk);have hos := onAll_snoc (wi := s.Wires) hwk;have hok := onAll_len (ws.take k) s.Wires;obtain ⟨wn, rfl⟩ : ∃ wn : Nat, w = wn := ⟨w.toNat, by omega⟩;rw [Int.toNat_natCast] at hos;refine gwp_skip ?_;simp only [zT, reduceIte, Nat.reduceEqDiff];refine hK2 _ _ ?_;refine gwp_prune [2, 7, 29, 30, 31] (Or.inr (by simp)) ?_;simp only [zP, Nat.reduceEqDiff, reduceIte];refine gwp_seq_k fun K3 hK3 => ?_;refine gwp_block ?_;refine gS fun K hK => ?_;simp -dsimp [hwk];apply hK;clear hK K;refine gR fun K hK => ?_;simp -dsimp [hok, (by omega : wn < s.Wires.length)];apply hK;clear hK K;simp only [zT, reduceIte, Nat.reduceEqDiff];refine hK3 _ _ ?_;refine gwp_prune [2, 7, 29, 30, 31] (Or.inr (by simp)) ?_;simp only [zP, Nat.reduceEqDiff, reduceIte];refine gR fun K hK => ?_;simp -dsimp [wk];apply hK;clear hK K;simp only [zT, reduceIte, Nat.reduceEqDiff];exact ⟨k + 1, by omega, by omega, gsub (sub_rb [some 0, some 1, some 2] rfl (by simp) (by simp [hos, List.map_set])) (by simp)⟩
 ·have hke : k = ws.length := by have hn : ¬ k < ws.length := (by simpa using hc0); omega
  subst hke;rw [List.take_of_length_le (Nat.le_refl _)];refine gwp_exit ?_;simp only [zT, reduceIte, Nat.reduceEqDiff];refine hK1 _ _ ?_;refine gwp_prune [2, 7] (Or.inr (by simp)) ?_;simp only [zP, Nat.reduceEqDiff, reduceIte];refine gwp_weak (gsub (sub_rf (T' := [(2, lL l), (7, .ptr 0 0 0)]) (H' := [hMa g s.Feeds (onAll s.Wires ws), some (.els 1 (s.Feeds.map bCell))]) [some 2, some 0] rfl ⟨.inr (by simp), .inr (by simp), trivial⟩ (by simp [htw, hol])) (by simp)) ?_
  ·refine gS fun K hK => ?_;simp -dsimp;refine callK_intro _ (hlg) (by simp) ?_;simp -dsimp;refine callK_mut [0] [1] [some 0, none, some 1, some 2, some 3, some 4] (hst) (by decide) rfl (by simp) (by simp) rfl (by simp) ?_;simp -dsimp;apply hK;clear hK K;exact gwp_ret (by simp [len_eq0, resP, tupOf])
theorem c_relieves0a (g : Gr) (s : Sta) (l : List Ld) (hnt : NetOk g s) (h : SetOk g s.Wires l) (hne : s.Feeds ≠ []) (hwe : s.Wires = []) :
  PureCall Try.prog 60 [net g s, iL [], lL l] (Bo (rlB g s [] l)) := by
 have hlg := c_long g ⟨s.Feeds, s.Wires⟩ hnt (h.few _);rw [not_long h] at hlg;have hbd := grB_bd hnt.gr;have hsf := hnt.sf;have hsw := hnt.sw;have hst := m_settlea g s.Wires l s.Feeds h hsf _ rfl;have hrl : rlB g s [] l = decide ((settleS g s.Wires l s.Feeds).cuts.length = 0) := rfl;generalize settleS g s.Wires l s.Feeds = Z at hst hrl;rw [hrl];refine PureCall.of_bodyG Try.func60 rfl (by decide) (by simp [Try.ntmps60]) ?_;intro J hJ;simp only [Try.ntmps60, Try.results60];refine gS fun K hK => ?_;simp -dsimp;apply hK;clear hK K;refine gwp_sd mixed rfl (by decide) rfl rfl fun K hK => ?_;simp -dsimp;refine callK_own (o_Cl s.Feeds hne (by omega)) ?_;simp -dsimp;refine callK_intro _ (c_Clone_Bool s.Wires (by omega)) (by simp) ?_;simp -dsimp;refine hK _ _ _ (by decide +kernel) ?_; clear hK K;refine gwp_seq_k fun K1 hK1 => ?_;refine gS fun K hK => ?_;simp -dsimp;apply hK;clear hK K;refine gwp_block ?_;refine gwp_prune [2, 7, 29, 30, 31] (Or.inr (by simp)) ?_;simp only [zP, Nat.reduceEqDiff, reduceIte];refine gwp_loop_l [2, 7, 29, 30] (α := Nat) (fun k => [(31, I 0)]) (fun k => [some (.els 1 (s.Feeds.map bCell)), some (.els 6 [[I g.Nodes, .lst 4 (g.Wires.map Wr.cells), .lst 4 (g.Feeds.map Fd.cells), I g.Least, .row 0 0 s.Feeds.length, bL s.Wires]])]) (fun k => True) (fun k => 0) 0 ?_ ?_ ?_
 ·trivial
 ·exact gsub (sub_rb [some 0, some 1] rfl (by simp) (by simp)) (by simp)
 rintro k k1;simp only [zP, Nat.reduceEqDiff, reduceIte];refine gS fun K hK => ?_;simp -dsimp;apply hK;clear hK K;refine gwp_seq_k fun K2 hK2 => ?_;refine gwp_cond rfl (fun hc0 => ?_) (fun hc0 => ?_)
 ·simp at hc0
 ·refine gwp_exit ?_;simp only [zT, reduceIte, Nat.reduceEqDiff];refine hK1 _ _ ?_;refine gwp_prune [2, 7] (Or.inr (by simp)) ?_;simp only [zP, Nat.reduceEqDiff, reduceIte];refine gwp_weak (gsub (sub_rb (T' := [(2, lL l), (7, .ptr 0 0 0)]) (H' := [hMa g s.Feeds s.Wires, some (.els 1 (s.Feeds.map bCell))]) [some 1, some 0] rfl (by simp) (by simp)) (by simp)) ?_
  ·refine gS fun K hK => ?_;simp -dsimp;refine callK_intro _ (hlg) (by simp) ?_;simp -dsimp;refine callK_mut [0] [1] [some 0, none, some 1, some 2, some 3, some 4] (hst) (by decide) rfl (by simp) (by simp) rfl (by simp) ?_;simp -dsimp;apply hK;clear hK K;exact gwp_ret (by simp [len_eq0, resP, tupOf])
theorem c_relievesb (g : Gr) (s : Sta) (ws : List Int) (l : List Ld) (hnt : NetOk g s) (hw : ∀ w ∈ ws, 0 ≤ w ∧ w < s.Wires.length) (h : SetOk g (onAll s.Wires ws) l) (hwl : ws.length ≤ 1000) (hne : s.Feeds = []) (hwn : s.Wires ≠ []) :
  PureCall Try.prog 60 [net g s, iL ws, lL l] (Bo (rlB g s ws l)) := by
 have hol := onAll_len ws s.Wires;have hnt2 : NetOk g ⟨s.Feeds, onAll s.Wires ws⟩ := ⟨hnt.gr, hnt.sf, by rw [hol]; exact hnt.sw⟩;have hlg := c_long g ⟨s.Feeds, onAll s.Wires ws⟩ hnt2 (h.few _);rw [not_long h] at hlg;have hbd := grB_bd hnt.gr;have hsf := hnt.sf;have hsw := hnt.sw;change PureCall _ _ [.iptr [I g.Nodes, .lst 4 (g.Wires.map Wr.cells), .lst 4 (g.Feeds.map Fd.cells), I g.Least, bL s.Feeds, bL (onAll s.Wires ws)]] _ at hlg;rw [hne] at hlg;have hst := m_settleb g (onAll s.Wires ws) l s.Feeds h hsf hne _ rfl;have hrl : rlB g s ws l = decide ((settleS g (onAll s.Wires ws) l s.Feeds).cuts.length = 0) := rfl;generalize settleS g (onAll s.Wires ws) l s.Feeds = Z at hst hrl;rw [hrl];have htw : List.take s.Wires.length ((onAll s.Wires ws).map bCell) = (onAll s.Wires ws).map bCell := List.take_of_length_le (by simp; omega);refine PureCall.of_bodyG Try.func60 rfl (by decide) (by simp [Try.ntmps60]) ?_;intro J hJ;simp only [Try.ntmps60, Try.results60];refine gS fun K hK => ?_;simp -dsimp;apply hK;clear hK K;refine gwp_sd mixed rfl (by decide) rfl rfl fun K hK => ?_;simp -dsimp;refine callK_intro _ (c_Clone_Bool s.Feeds (by omega)) (by simp) ?_;simp -dsimp;refine callK_own (o_Cl s.Wires hwn (by omega)) ?_;simp -dsimp;refine hK _ _ _ (by decide +kernel) ?_; clear hK K;refine gwp_seq_k fun K1 hK1 => ?_;refine gS fun K hK => ?_;simp -dsimp;apply hK;clear hK K;refine gwp_block ?_;refine gwp_prune [2, 7, 29, 30, 31] (Or.inr (by simp)) ?_;simp only [zP, Nat.reduceEqDiff, reduceIte];refine gwp_loop_l [2, 7, 29, 30] (α := Nat) (fun k => [(31, I k)]) (fun k => [some (.els 1 ((onAll s.Wires (ws.take k)).map bCell)), some (.els 6 [[I g.Nodes, .lst 4 (g.Wires.map Wr.cells), .lst 4 (g.Feeds.map Fd.cells), I g.Least, bL s.Feeds, .row 0 0 s.Wires.length]])]) (fun k => k ≤ ws.length) (fun k => ws.length - k) 0 ?_ ?_ ?_
 ·exact Nat.zero_le _
 ·exact gsub (sub_rb [some 0, some 1] rfl (by simp) (by simp [onAll])) (by simp)
 rintro k k1;simp only [zP, Nat.reduceEqDiff, reduceIte];refine gS fun K hK => ?_;simp -dsimp;apply hK;clear hK K;refine gwp_seq_k fun K2 hK2 => ?_;refine gwp_cond rfl (fun hc0 => ?_) (fun hc0 => ?_)
 ·have hkl : k < ws.length := by simpa using hc0
  have wk := zW k (by omega);obtain ⟨w, hwk⟩ : ∃ w, ws[k]? = some w := ⟨_, List.getElem?_eq_getElem hkl⟩;obtain ⟨hw0, hw1⟩ := hw w (List.mem_of_getElem? hwk);have hos := onAll_snoc (wi := s.Wires) hwk;have hok := onAll_len (ws.take k) s.Wires;obtain ⟨wn, rfl⟩ : ∃ wn : Nat, w = wn := ⟨w.toNat, by omega⟩;rw [Int.toNat_natCast] at hos;refine gwp_skip ?_;simp only [zT, reduceIte, Nat.reduceEqDiff];refine hK2 _ _ ?_;refine gwp_prune [2, 7, 29, 30, 31] (Or.inr (by simp)) ?_;simp only [zP, Nat.reduceEqDiff, reduceIte];refine gwp_seq_k fun K3 hK3 => ?_;refine gwp_block ?_;refine gS fun K hK => ?_;simp -dsimp [hwk];apply hK;clear hK K;refine gR fun K hK => ?_;simp -dsimp [hok, (by omega : wn < s.Wires.length)];apply hK;clear hK K;simp only [zT, reduceIte, Nat.reduceEqDiff];refine hK3 _ _ ?_;refine gwp_prune [2, 7, 29, 30, 31] (Or.inr (by simp)) ?_;simp only [zP, Nat.reduceEqDiff, reduceIte];refine gR fun K hK => ?_;simp -dsimp [wk];apply hK;clear hK K;simp only [zT, reduceIte, Nat.reduceEqDiff];exact ⟨k + 1, by omega, by omega, gsub (sub_rb [some 0, some 1] rfl (by simp) (by simp [hos, List.map_set])) (by simp)⟩
 ·have hke : k = ws.length := by have hn : ¬ k < ws.length := (by simpa using hc0); omega
  subst hke;rw [List.take_of_length_le (Nat.le_refl _)];refine gwp_exit ?_;simp only [zT, reduceIte, Nat.reduceEqDiff];refine hK1 _ _ ?_;refine gwp_prune [2, 7] (Or.inr (by simp)) ?_;simp only [zP, Nat.reduceEqDiff, reduceIte];refine gwp_weak (gsub (sub_rf (T' := [(2, lL l), (7, .ptr 0 0 0)]) (H' := [hMb g s.Feeds (onAll s.Wires ws)]) [some 1] rfl ⟨.inr (by simp), .inr (by simp), trivial⟩ (by simp [htw, hol, hne])) (by simp)) ?_
  ·refine gS fun K hK => ?_;simp -dsimp;refine callK_intro _ (hlg) (by simp) ?_;simp -dsimp;refine callK_mut [0] [] [some 0, some 1, some 2, some 3] (hst) (by decide) rfl (by simp) (by simp) rfl (by simp) ?_;simp -dsimp;apply hK;clear hK K;exact gwp_ret (by simp [len_eq0, resP, tupOf])
theorem c_relieves0b (g : Gr) (s : Sta) (l : List Ld) (hnt : NetOk g s) (h : SetOk g s.Wires l) (hne : s.Feeds = []) (hwe : s.Wires = []) :
  PureCall Try.prog 60 [net g s, iL [], lL l] (Bo (rlB g s [] l)) := by
 have hlg := c_long g ⟨s.Feeds, s.Wires⟩ hnt (h.few _);rw [not_long h] at hlg;have hbd := grB_bd hnt.gr;have hsf := hnt.sf;have hsw := hnt.sw;change PureCall _ _ [.iptr [I g.Nodes, .lst 4 (g.Wires.map Wr.cells), .lst 4 (g.Feeds.map Fd.cells), I g.Least, bL s.Feeds, bL s.Wires]] _ at hlg;rw [hne] at hlg;have hst := m_settleb g s.Wires l s.Feeds h hsf hne _ rfl;have hrl : rlB g s [] l = decide ((settleS g s.Wires l s.Feeds).cuts.length = 0) := rfl;generalize settleS g s.Wires l s.Feeds = Z at hst hrl;rw [hrl];refine PureCall.of_bodyG Try.func60 rfl (by decide) (by simp [Try.ntmps60]) ?_;intro J hJ;simp only [Try.ntmps60, Try.results60];refine gS fun K hK => ?_;simp -dsimp;apply hK;clear hK K;refine gwp_sd mixed rfl (by decide) rfl rfl fun K hK => ?_;simp -dsimp;refine callK_intro _ (c_Clone_Bool s.Feeds (by omega)) (by simp) ?_;simp -dsimp;refine callK_intro _ (c_Clone_Bool s.Wires (by omega)) (by simp) ?_;simp -dsimp;refine hK _ _ _ (by decide +kernel) ?_; clear hK K;refine gwp_seq_k fun K1 hK1 => ?_;refine gS fun K hK => ?_;simp -dsimp;apply hK;clear hK K;refine gwp_block ?_;refine gwp_prune [2, 7, 29, 30, 31] (Or.inr (by simp)) ?_;simp only [zP, Nat.reduceEqDiff, reduceIte];refine gwp_loop_l [2, 7, 29, 30] (α := Nat) (fun k => [(31, I 0)]) (fun k => [some (.els 6 [[I g.Nodes, .lst 4 (g.Wires.map Wr.cells), .lst 4 (g.Feeds.map Fd.cells), I g.Least, bL s.Feeds, bL s.Wires]])]) (fun k => True) (fun k => 0) 0 ?_ ?_ ?_
 ·trivial
 ·exact gsub (sub_rb [some 0] rfl (by simp) (by simp)) (by simp)
 rintro k k1;simp only [zP, Nat.reduceEqDiff, reduceIte];refine gS fun K hK => ?_;simp -dsimp;apply hK;clear hK K;refine gwp_seq_k fun K2 hK2 => ?_;refine gwp_cond rfl (fun hc0 => ?_) (fun hc0 => ?_)
 ·simp at hc0
 ·refine gwp_exit ?_;simp only [zT, reduceIte, Nat.reduceEqDiff];refine hK1 _ _ ?_;refine gwp_prune [2, 7] (Or.inr (by simp)) ?_;simp only [zP, Nat.reduceEqDiff, reduceIte];refine gwp_weak (gsub (sub_rb (T' := [(2, lL l), (7, .ptr 0 0 0)]) (H' := [hMb g s.Feeds s.Wires]) [some 0] rfl (by simp) (by simp [hne])) (by simp)) ?_
  ·refine gS fun K hK => ?_;simp -dsimp;refine callK_intro _ (hlg) (by simp) ?_;simp -dsimp;refine callK_mut [0] [] [some 0, some 1, some 2, some 3] (hst) (by decide) rfl (by simp) (by simp) rfl (by simp) ?_;simp -dsimp;apply hK;clear hK K;exact gwp_ret (by simp [len_eq0, resP, tupOf])
end Go.Cur
end
section
namespace Go.Cur
open Go.AM Go.Proofs
theorem c_rel (g : Gr) (s : Sta) (ws : List Int) (l : List Ld) (hnt : NetOk g s) (hw : ∀ w ∈ ws, 0 ≤ w ∧ w < s.Wires.length) (h : SetOk g (onAll s.Wires ws) l) (hwl : ws.length ≤ 1000) :
  PureCall Try.prog 60 [net g s, iL ws, lL l] (Bo (rlB g s ws l)) := by
 by_cases hwn : s.Wires = []
 ·have hws : ws = [] := by
   cases ws with
   | nil => rfl
   | cons w ws =>
    have := hw w (by simp);rw [hwn] at this;simp at this; omega
  subst hws
  by_cases hf : s.Feeds = []
  ·exact c_relieves0b g s l hnt h hf hwn
  ·exact c_relieves0a g s l hnt h hf hwn
 ·by_cases hf : s.Feeds = []
  ·exact c_relievesb g s ws l hnt hw h hwl hf hwn
  ·exact c_relievesa g s ws l hnt hw h hwl hf hwn
def fA : Option (List Int) → AV
 | none => .v (.slice none 0 0)
 | some c => iL c
@[simp] theorem fA_ren (g : List (Option Nat)) (k : Nat) (o : Option (List Int)) : renAV g k (fA o) = fA o := by
 cases o <;> cases k <;> rfl
@[simp] theorem fA_noRef (k : Nat) (o : Option (List Int)) : AV.noRef k (fA o) = true := by
 cases o <;> cases k <;> rfl
theorem fA_some (c : List Int) : fA (some c) = iL c := rfl
theorem fA_none : fA none = .v (.slice none 0 0) := rfl
def chA (c : List Int) : Option (List Int) := if c = [] then none else some c
def chF (rl : List Int → Bool) : Nat → List Int → List Int → Option (List Int) → Bool × Option (List Int)
 | 0, c, _, _ => (rl c, chA c)
 | d + 1, c, r, f => (List.range r.length).foldl (fun q i => if q.1 = true then q else chF rl d (c ++ [at0 r (i : Nat)]) (r.drop (i + 1)) q.2) (false, f)
def chS (rl : List Int → Bool) (d : Nat) (c r : List Int) (q : Bool × Option (List Int)) (i : Nat) : Bool × Option (List Int) := if q.1 = true then q else chF rl d (c ++ [at0 r (i : Nat)]) (r.drop (i + 1)) q.2
theorem chF_succ (rl : List Int → Bool) (d : Nat) (c r : List Int) (f : Option (List Int)) : chF rl (d + 1) c r f = (List.range r.length).foldl (chS rl d c r) (false, f) := rfl
theorem chS_true (rl : List Int → Bool) (d : Nat) (c r : List Int) (q : Bool × Option (List Int)) (hq : q.1 = true) : ∀ l : List Nat, l.foldl (chS rl d c r) q = q
 | [] => rfl
 | i :: l => by
  rw [List.foldl_cons, show chS rl d c r q i = q from if_pos hq];exact chS_true rl d c r q hq l
theorem fold_more {α : Type} (f : α → Nat → α) (x : α) {i n : Nat} (h : i ≤ n) : (List.range n).foldl f x = ((List.range (n - i)).map (fun j => i + j)).foldl f ((List.range i).foldl f x) := by
 rw [← List.foldl_append]
 congr 1
 rw [show n = i + (n - i) by omega, List.range_add];simp
abbrev chR (g : Gr) (s : Sta) (l : List Ld) (f : Option (List Int)) : Hp := [some (.els 1 [[fA f]]), some (.els 1 [[net g s]]), some (.els 1 [[lL l]]), some (.els 1 [[.clo 59 [.ptr 0 0 0, .ptr 1 0 0, .ptr 2 0 0, .ptr 3 0 0]]])]
theorem m_ClI (t : List Int) (hne : t ≠ []) (hn : t.length ≤ 1000) : MutCall Try.prog 61 [iL t] [] [] (.row 0 0 t.length) [] [some (.els 1 (t.map nCell))] := by
 have f1 : Fits t.length 9 := fits_of (by omega) (by omega);refine MutCall.of_bodyG [] Try.func61 rfl (by decide) (by simp [Try.ntmps61]) rfl rfl ?_;intro J hJ;simp only [Try.ntmps61, Try.results61];refine gS fun K hK => ?_;simp -dsimp;apply hK;clear hK K;refine gwp_seq_k fun K1 hK1 => ?_;refine gS fun K hK => ?_;simp -dsimp [hne];apply hK;clear hK K;refine gwp_cond rfl (fun hc0 => ?_) (fun hc0 => ?_)
 ·simp at hc0
 ·refine gwp_skip ?_;simp only [zT, reduceIte, Nat.reduceEqDiff];refine hK1 _ _ ?_;refine gwp_prune [0] (Or.inr (by simp)) ?_;simp only [zP, Nat.reduceEqDiff, reduceIte];refine gS fun K hK => ?_;simp -dsimp [hne, f1];apply hK;clear hK K;exact gwp_ret ⟨[some 0], rfl, by simp, by simp, by simp, by simp [resP, tupOf]⟩
theorem m_ch_zero (g : Gr) (s : Sta) (l : List Ld) (rl : List Int → Bool) (c r : List Int) (f : Option (List Int)) (hc : c ≠ []) (hrl : PureCall Try.prog 60 [net g s, iL c, lL l] (Bo (rl c))) :
  MutCall Try.prog 59 [.row 4 0 c.length, iL r, I 0, .ptr 0 0 0, .ptr 1 0 0, .ptr 2 0 0, .ptr 3 0 0] (chR g s l f) [some (.els 1 (c.map nCell))] (Bo (rl c)) (chR g s l (some c)) [] := by
 have htc : List.take c.length (c.map nCell) = c.map nCell := List.take_of_length_le (by simp);refine MutCall.of_bodyG [3, 4, 5, 6] Try.func59 rfl (by decide) (by simp [Try.ntmps59]) rfl rfl ?_;intro J hJ;simp only [Try.ntmps59, Try.results59];refine gS fun K hK => ?_;simp -dsimp;apply hK;clear hK K;refine gwp_seq_k fun K1 hK1 => ?_;refine gS fun K hK => ?_;simp -dsimp;apply hK;clear hK K;refine gwp_cond rfl (fun hc0 => ?_) (fun hc0 => ?_)
 ·refine gS fun K hK => ?_;simp -dsimp;apply hK;clear hK K;refine gS fun K hK => ?_;simp -dsimp [htc];refine callK_intro _ (hrl) (by simp) ?_;simp -dsimp [htc];apply hK;clear hK K;refine gwp_weak (gsub (sub_rf (T' := [(3, .ptr 0 0 0), (4, .ptr 1 0 0), (5, .ptr 2 0 0), (6, .ptr 3 0 0), (10, Bo (rl c))]) (H' := chR g s l (some c)) [some 0, some 1, some 2, some 3] rfl ⟨.inr (by simp), .inr (by simp), .inr (by simp), .inr (by simp), .inr (by simp), trivial⟩ (by simp [htc, fA_some])) (by simp)) ?_;exact gwp_ret ⟨[some 0, some 1, some 2, some 3], rfl, by simp, by simp, by simp, by simp [resP, tupOf]⟩
 ·simp at hc0
theorem m_ch_zero0 (g : Gr) (s : Sta) (l : List Ld) (rl : List Int → Bool) (r : List Int) (f : Option (List Int)) (hrl : PureCall Try.prog 60 [net g s, .v (.slice none 0 0), lL l] (Bo (rl []))) :
  MutCall Try.prog 59 [.v (.slice none 0 0), iL r, I 0, .ptr 0 0 0, .ptr 1 0 0, .ptr 2 0 0, .ptr 3 0 0] (chR g s l f) [] (Bo (rl [])) (chR g s l none) [] := by
 refine MutCall.of_bodyG [3, 4, 5, 6] Try.func59 rfl (by decide) (by simp [Try.ntmps59]) rfl rfl ?_;intro J hJ;simp only [Try.ntmps59, Try.results59];refine gS fun K hK => ?_;simp -dsimp;apply hK;clear hK K;refine gwp_seq_k fun K1 hK1 => ?_;refine gS fun K hK => ?_;simp -dsimp;apply hK;clear hK K;refine gwp_cond rfl (fun hc0 => ?_) (fun hc0 => ?_)
 ·refine gS fun K hK => ?_;simp -dsimp;apply hK;clear hK K;refine gS fun K hK => ?_;simp -dsimp;refine callK_intro _ (hrl) (by simp) ?_;simp -dsimp;apply hK;clear hK K;exact gwp_ret ⟨[some 0, some 1, some 2, some 3], rfl, by simp, by simp [fA_none], by simp, by simp [resP, tupOf]⟩
 ·simp at hc0
theorem m_ch_succ (g : Gr) (s : Sta) (l : List Ld) (rl : List Int → Bool) (d : Nat) (c r : List Int) (f : Option (List Int)) (hd : d ≤ 100) (hc : c ≠ []) (hcl : c.length ≤ 900) (hr : r.length ≤ 1000)
  (hb : ∀ (i : Nat) (f : Option (List Int)), i < r.length → MutCall Try.prog 59 [.row 4 0 (c ++ [at0 r i]).length, iL (r.drop (i + 1)), I d, .ptr 0 0 0, .ptr 1 0 0, .ptr 2 0 0, .ptr 3 0 0] (chR g s l f) [some (.els 1 ((c ++ [at0 r i]).map nCell))] (Bo (chF rl d (c ++ [at0 r i]) (r.drop (i + 1)) f).1) (chR g s l (chF rl d (c ++ [at0 r i]) (r.drop (i + 1)) f).2) []) :
  MutCall Try.prog 59 [.row 4 0 c.length, iL r, I (d + 1 : Nat), .ptr 0 0 0, .ptr 1 0 0, .ptr 2 0 0, .ptr 3 0 0] (chR g s l f) [some (.els 1 (c.map nCell))] (Bo (chF rl (d + 1) c r f).1) (chR g s l (chF rl (d + 1) c r f).2) [] := by
 have htc : List.take c.length (c.map nCell) = c.map nCell := List.take_of_length_le (by simp);have f1 : Fits (c.length + 1) 9 := fits_of (by omega) (by omega);rw [chF_succ];refine MutCall.of_bodyG [3, 4, 5, 6] Try.func59 rfl (by decide) (by simp [Try.ntmps59]) rfl rfl ?_;intro J hJ;simp only [Try.ntmps59, Try.results59];refine gS fun K hK => ?_;simp -dsimp;apply hK;clear hK K;refine gwp_seq_k fun K1 hK1 => ?_;refine gS fun K hK => ?_;simp -dsimp;apply hK;clear hK K;refine gwp_cond rfl (fun hc0 => ?_) (fun hc0 => ?_)
 ·exfalso; simp at hc0; omega
 ·refine gwp_skip ?_;simp only [zT, reduceIte, Nat.reduceEqDiff];refine hK1 _ _ ?_;refine gwp_prune [0, 1, 2, 3, 4, 5, 6] (Or.inr (by simp)) ?_;simp only [zP, Nat.reduceEqDiff, reduceIte];refine gwp_seq_k fun K2 hK2 => ?_;refine gS fun K hK => ?_;simp -dsimp;apply hK;clear hK K;refine gwp_block ?_;refine gwp_prune [0, 1, 2, 3, 4, 5, 6, 20, 21, 22] (Or.inr (by simp)) ?_;simp only [zP, Nat.reduceEqDiff, reduceIte];refine gwp_loop_l [0, 1, 2, 3, 4, 5, 6, 20, 21] (α := Nat × Option (List Int)) (fun x => [(22, I x.1)]) (fun x => chR g s l x.2 ++ [some (.els 1 (c.map nCell))]) (fun x => x.1 ≤ r.length ∧ (List.range x.1).foldl (chS rl d c r) (false, f) = (false, x.2)) (fun x => r.length - x.1) (0, f) ?_ ?_ ?_
  ·exact ⟨Nat.zero_le _, rfl⟩
  ·exact gsub (sub_rb [some 0, some 1, some 2, some 3, some 4] rfl (by simp) (by simp)) (by simp)
  rintro ⟨i, fi⟩ ⟨k1, k2⟩;simp only at k1 k2 ⊢;simp only [zP, Nat.reduceEqDiff, reduceIte];refine gS fun K hK => ?_;simp -dsimp;apply hK;clear hK K;refine gwp_seq_k fun K3 hK3 => ?_;refine gwp_cond rfl (fun hc1 => ?_) (fun hc1 => ?_)
  ·have hil : i < r.length := by simpa using hc1
   have wi := zW i (by omega);have wd : IntKind.i64.wrap (d : Int) = (d : Int) := wrap_in (by omega) (by omega);have gr := at0_nat hil;have hcall := hb i fi hil;have hst : (List.range (i + 1)).foldl (chS rl d c r) (false, f) = chF rl d (c ++ [at0 r i]) (r.drop (i + 1)) fi := by rw [List.range_succ, List.foldl_append, k2]; rfl
   generalize chF rl d (c ++ [at0 r i]) (r.drop (i + 1)) fi = q at hcall hst;refine gwp_skip ?_;simp only [zT, reduceIte, Nat.reduceEqDiff];refine hK3 _ _ ?_;refine gwp_prune [0, 1, 2, 3, 4, 5, 6, 20, 21, 22] (Or.inr (by simp)) ?_;simp only [zP, Nat.reduceEqDiff, reduceIte];refine gwp_seq_k fun K4 hK4 => ?_;refine gwp_block ?_;refine gS fun K hK => ?_;simp -dsimp [gr];apply hK;clear hK K;refine gwp_sd mixed rfl (by decide) rfl rfl fun K hK => ?_;simp -dsimp [htc, wi, wd, f1, (by omega : (0 : Int) ≤ (i : Int) + 1), (by omega : i + 1 ≤ r.length)];refine callK_mutF [] [] [none, none, none, none, none, some 0] (m_ClI c hc (by omega)) (by decide) rfl (by simp) (by simp) rfl (by simp) (by simp) (by simp) ?_;simp -dsimp [htc, wi, wd, f1, (by omega : (0 : Int) ≤ (i : Int) + 1), (by omega : i + 1 ≤ r.length)];refine callK_mut [0, 1, 2, 3] [6] [some 0, some 1, some 2, some 3, none, none, none] (hcall) (by decide) rfl (by simp) (by simp) rfl (by simp) ?_;simp -dsimp [htc, wi, wd, f1, (by omega : (0 : Int) ≤ (i : Int) + 1), (by omega : i + 1 ≤ r.length)];refine hK _ _ _ (by decide +kernel) ?_; clear hK K;refine gwp_cond rfl (fun hc2 => ?_) (fun hc2 => ?_)
   ·refine gS fun K hK => ?_;simp -dsimp;apply hK;clear hK K;have hfin : (List.range r.length).foldl (chS rl d c r) (false, f) = q := by rw [fold_more _ _ (show i + 1 ≤ r.length by omega), hst]; exact chS_true _ _ _ _ _ hc2 _
    rw [hfin];exact gwp_ret ⟨[some 0, some 1, some 2, some 3], rfl, by simp, by simp, by simp, by simp [resP, tupOf, hc2]⟩
   ·refine gwp_skip ?_;simp only [zT, reduceIte, Nat.reduceEqDiff];refine hK4 _ _ ?_;refine gwp_prune [0, 1, 2, 3, 4, 5, 6, 20, 21, 22] (Or.inr (by simp)) ?_;simp only [zP, Nat.reduceEqDiff, reduceIte];refine gR fun K hK => ?_;simp -dsimp [wi];apply hK;clear hK K;simp only [zT, reduceIte, Nat.reduceEqDiff];exact ⟨(i + 1, q.2), ⟨by simp only; omega, by rw [hst]; exact Prod.ext hc2 rfl⟩, by simp only; omega, gsub (sub_rb [some 0, some 1, some 2, some 3, some 4] rfl (by simp) (by simp)) (by simp)⟩
  ·have hie : i = r.length := by have hn : ¬ i < r.length := (by simpa using hc1); omega
   subst hie;refine gwp_exit ?_;simp only [zT, reduceIte, Nat.reduceEqDiff];refine hK2 _ _ ?_;refine gwp_prune [3, 4, 5, 6] (Or.inr (by simp)) ?_;simp only [zP, Nat.reduceEqDiff, reduceIte];refine gS fun K hK => ?_;simp -dsimp;apply hK;clear hK K;rw [k2];exact gwp_ret ⟨[some 0, some 1, some 2, some 3], rfl, by simp, by simp, by simp, by simp [resP, tupOf]⟩
theorem c_Clone_nil : PureCall Try.prog 61 [.v (.slice none 0 0)] (.v (.slice none 0 0)) := by
 refine PureCall.of_body Try.func61 rfl (by decide) (by simp [Try.ntmps61]) ?_;simp only [Try.ntmps61, Try.results61];refine aS fun K hK => ?_;simp -dsimp;apply hK;clear hK K;refine awp_seq_k fun K1 hK1 => ?_;refine aS fun K hK => ?_;simp -dsimp;apply hK;clear hK K;refine awp_cond rfl (fun hc0 => ?_) (fun hc0 => ?_)
 ·refine aS fun K hK => ?_;simp -dsimp;apply hK;clear hK K;exact awp_ret (by simp)
 ·simp at hc0
theorem m_ch_succ0 (g : Gr) (s : Sta) (l : List Ld) (rl : List Int → Bool) (d : Nat) (r : List Int) (f : Option (List Int)) (hd : d ≤ 100) (hr : r.length ≤ 1000)
  (hb : ∀ (i : Nat) (f : Option (List Int)), i < r.length → MutCall Try.prog 59 [.row 4 0 [at0 r i].length, iL (r.drop (i + 1)), I d, .ptr 0 0 0, .ptr 1 0 0, .ptr 2 0 0, .ptr 3 0 0] (chR g s l f) [some (.els 1 ([at0 r i].map nCell))] (Bo (chF rl d [at0 r i] (r.drop (i + 1)) f).1) (chR g s l (chF rl d [at0 r i] (r.drop (i + 1)) f).2) []) :
  MutCall Try.prog 59 [.v (.slice none 0 0), iL r, I (d + 1 : Nat), .ptr 0 0 0, .ptr 1 0 0, .ptr 2 0 0, .ptr 3 0 0] (chR g s l f) [] (Bo (chF rl (d + 1) [] r f).1) (chR g s l (chF rl (d + 1) [] r f).2) [] := by
 have f1 : Fits 1 9 := fits_of (by omega) (by omega);rw [chF_succ];refine MutCall.of_bodyG [3, 4, 5, 6] Try.func59 rfl (by decide) (by simp [Try.ntmps59]) rfl rfl ?_;intro J hJ;simp only [Try.ntmps59, Try.results59];refine gS fun K hK => ?_;simp -dsimp;apply hK;clear hK K;refine gwp_seq_k fun K1 hK1 => ?_;refine gS fun K hK => ?_;simp -dsimp;apply hK;clear hK K;refine gwp_cond rfl (fun hc0 => ?_) (fun hc0 => ?_)
 ·exfalso; simp at hc0; omega
 ·refine gwp_skip ?_;simp only [zT, reduceIte, Nat.reduceEqDiff];refine hK1 _ _ ?_;refine gwp_prune [0, 1, 2, 3, 4, 5, 6] (Or.inr (by simp)) ?_;simp only [zP, Nat.reduceEqDiff, reduceIte];refine gwp_seq_k fun K2 hK2 => ?_;refine gS fun K hK => ?_;simp -dsimp;apply hK;clear hK K;refine gwp_block ?_;refine gwp_prune [0, 1, 2, 3, 4, 5, 6, 20, 21, 22] (Or.inr (by simp)) ?_;simp only [zP, Nat.reduceEqDiff, reduceIte];refine gwp_loop_l [0, 1, 2, 3, 4, 5, 6, 20, 21] (α := Nat × Option (List Int)) (fun x => [(22, I x.1)]) (fun x => chR g s l x.2) (fun x => x.1 ≤ r.length ∧ (List.range x.1).foldl (chS rl d [] r) (false, f) = (false, x.2)) (fun x => r.length - x.1) (0, f) ?_ ?_ ?_
  ·exact ⟨Nat.zero_le _, rfl⟩
  ·exact gsub (sub_rb [some 0, some 1, some 2, some 3] rfl (by simp) (by simp)) (by simp)
  rintro ⟨i, fi⟩ ⟨k1, k2⟩;simp only at k1 k2 ⊢;simp only [zP, Nat.reduceEqDiff, reduceIte];refine gS fun K hK => ?_;simp -dsimp;apply hK;clear hK K;refine gwp_seq_k fun K3 hK3 => ?_;refine gwp_cond rfl (fun hc1 => ?_) (fun hc1 => ?_)
  ·have hil : i < r.length := by simpa using hc1
   have wi := zW i (by omega);have wd : IntKind.i64.wrap (d : Int) = (d : Int) := wrap_in (by omega) (by omega);have gr := at0_nat hil;have hcall := hb i fi hil;have hst : (List.range (i + 1)).foldl (chS rl d [] r) (false, f) = chF rl d [at0 r i] (r.drop (i + 1)) fi := by rw [List.range_succ, List.foldl_append, k2]; rfl
   generalize chF rl d [at0 r i] (r.drop (i + 1)) fi = q at hcall hst;refine gwp_skip ?_;simp only [zT, reduceIte, Nat.reduceEqDiff];refine hK3 _ _ ?_;refine gwp_prune [0, 1, 2, 3, 4, 5, 6, 20, 21, 22] (Or.inr (by simp)) ?_;simp only [zP, Nat.reduceEqDiff, reduceIte];refine gwp_seq_k fun K4 hK4 => ?_;refine gwp_block ?_;refine gS fun K hK => ?_;simp -dsimp [gr];apply hK;clear hK K;refine gwp_sd mixed rfl (by decide) rfl rfl fun K hK => ?_;simp -dsimp [wi, wd, (by omega : (0 : Int) ≤ (i : Int) + 1), (by omega : i + 1 ≤ r.length), f1];refine callK_intro _ (c_Clone_nil) (by simp) ?_;simp -dsimp [wi, wd, (by omega : (0 : Int) ≤ (i : Int) + 1), (by omega : i + 1 ≤ r.length), f1];refine callK_mut [0, 1, 2, 3] [4] [some 0, some 1, some 2, some 3, none] (hcall) (by decide) rfl (by simp) (by simp) rfl (by simp) ?_;simp -dsimp [wi, wd, (by omega : (0 : Int) ≤ (i : Int) + 1), (by omega : i + 1 ≤ r.length), f1];refine hK _ _ _ (by decide +kernel) ?_; clear hK K;refine gwp_cond rfl (fun hc2 => ?_) (fun hc2 => ?_)
   ·refine gS fun K hK => ?_;simp -dsimp;apply hK;clear hK K;have hfin : (List.range r.length).foldl (chS rl d [] r) (false, f) = q := by rw [fold_more _ _ (show i + 1 ≤ r.length by omega), hst]; exact chS_true _ _ _ _ _ hc2 _
    rw [hfin];exact gwp_ret ⟨[some 0, some 1, some 2, some 3], rfl, by simp, by simp, by simp, by simp [resP, tupOf, hc2]⟩
   ·refine gwp_skip ?_;simp only [zT, reduceIte, Nat.reduceEqDiff];refine hK4 _ _ ?_;refine gwp_prune [0, 1, 2, 3, 4, 5, 6, 20, 21, 22] (Or.inr (by simp)) ?_;simp only [zP, Nat.reduceEqDiff, reduceIte];refine gR fun K hK => ?_;simp -dsimp [wi];apply hK;clear hK K;simp only [zT, reduceIte, Nat.reduceEqDiff];exact ⟨(i + 1, q.2), ⟨by simp only; omega, by rw [hst]; exact Prod.ext hc2 rfl⟩, by simp only; omega, gsub (sub_rb [some 0, some 1, some 2, some 3] rfl (by simp) (by simp)) (by simp)⟩
  ·have hie : i = r.length := by have hn : ¬ i < r.length := (by simpa using hc1); omega
   subst hie;refine gwp_exit ?_;simp only [zT, reduceIte, Nat.reduceEqDiff];refine hK2 _ _ ?_;refine gwp_prune [3, 4, 5, 6] (Or.inr (by simp)) ?_;simp only [zP, Nat.reduceEqDiff, reduceIte];refine gS fun K hK => ?_;simp -dsimp;apply hK;clear hK K;rw [k2];exact gwp_ret ⟨[some 0, some 1, some 2, some 3], rfl, by simp, by simp, by simp, by simp [resP, tupOf]⟩
theorem m_ch (g : Gr) (s : Sta) (l : List Ld) (rl : List Int → Bool) (off : List Int) (hol : off.length ≤ 6) (hrl : ∀ c : List Int, (∀ x ∈ c, x ∈ off) → c.length ≤ 900 → PureCall Try.prog 60 [net g s, iL c, lL l] (Bo (rl c))) :
  ∀ (d : Nat) (c r : List Int) (f : Option (List Int)), c ≠ [] → (∀ x ∈ c, x ∈ off) → (∀ x ∈ r, x ∈ off) → r.length ≤ 6 → c.length + d ≤ 100 →
   MutCall Try.prog 59 [.row 4 0 c.length, iL r, I d, .ptr 0 0 0, .ptr 1 0 0, .ptr 2 0 0, .ptr 3 0 0] (chR g s l f) [some (.els 1 (c.map nCell))] (Bo (chF rl d c r f).1) (chR g s l (chF rl d c r f).2) []
 | 0, c, r, f, hc, hco, hro, hr, hcd => by
  have e : chA c = some c := if_neg hc;show MutCall _ _ _ _ _ (Bo (rl c)) (chR g s l (chA c)) [];rw [e];exact m_ch_zero g s l rl c r f hc (hrl c hco (by omega))
 | d + 1, c, r, f, hc, hco, hro, hr, hcd => by
  refine m_ch_succ g s l rl d c r f (by omega) hc (by omega) (by omega) fun i f' hi => ?_;refine m_ch g s l rl off hol hrl d (c ++ [at0 r i]) (r.drop (i + 1)) f' (by simp) (fun x hx => ?_) (fun x hx => hro x (List.mem_of_mem_drop hx)) (by simp; omega) (by simp; omega)
  rcases List.mem_append.1 hx with h | h
  ·exact hco x h
  ·rw [List.mem_singleton.1 h];exact hro _ (List.mem_of_getElem? (at0_nat hi))
theorem m_ch0 (g : Gr) (s : Sta) (l : List Ld) (rl : List Int → Bool) (off : List Int) (hol : off.length ≤ 6) (hrl : ∀ c : List Int, (∀ x ∈ c, x ∈ off) → c.length ≤ 900 → PureCall Try.prog 60 [net g s, iL c, lL l] (Bo (rl c))) (d : Nat) (f : Option (List Int)) (hd : d ≤ 6) :
  MutCall Try.prog 59 [.v (.slice none 0 0), iL off, I d, .ptr 0 0 0, .ptr 1 0 0, .ptr 2 0 0, .ptr 3 0 0] (chR g s l f) [] (Bo (chF rl d [] off f).1) (chR g s l (chF rl d [] off f).2) [] := by
 cases d with
 | zero =>
  refine m_ch_zero0 g s l rl off f ?_;refine PureCall.argR (hrl [] (by simp) (by simp)) rfl fun i c c' h1 h2 w S y h => ?_
  match i, h1, h2 with
  | 0, h1, h2 =>
   simp only [List.getElem?_cons_zero, Option.some.injEq] at h1 h2;rw [← h2, h1]; exact h
  | 1, h1, h2 =>
   simp only [List.getElem?_cons_succ, List.getElem?_cons_zero, Option.some.injEq] at h1 h2;rw [← h2];rw [← h1] at h;exact nil_lst h
  | 2, h1, h2 =>
   simp only [List.getElem?_cons_succ, List.getElem?_cons_zero, Option.some.injEq] at h1 h2;rw [← h2, h1]; exact h
  | i + 3, h1, h2 => simp at h1
 | succ d =>
  refine m_ch_succ0 g s l rl d off f (by omega) (by omega) fun i f' hi => ?_;refine m_ch g s l rl off hol hrl d [at0 off i] (off.drop (i + 1)) f' (by simp) (fun x hx => ?_) (fun x hx => List.mem_of_mem_drop hx) (by simp; omega) (by simp; omega);rw [List.mem_singleton.1 hx];exact List.mem_of_getElem? (at0_nat hi)
def offS (wi : List Bool) (s : List Int) (i : Nat) : List Int := if bAt wi i = true then s else s ++ [(i : Int)]
def offL (wi : List Bool) (n : Nat) : List Int := (List.range n).foldl (offS wi) []
theorem offL_succ (wi : List Bool) (n : Nat) : offL wi (n + 1) = offS wi (offL wi n) n := by
 unfold offL;rw [List.range_succ, List.foldl_append]; rfl
theorem offL_len (wi : List Bool) : ∀ n, (offL wi n).length ≤ n
 | 0 => by simp [offL]
 | n + 1 => by
  have := offL_len wi n;rw [offL_succ];unfold offS
  split
  ·omega
  ·simp; omega
def relS (rl : List Int → Bool) (off : List Int) (q : Bool × Option (List Int)) (k : Nat) : Bool × Option (List Int) := if q.1 = true then q else chF rl k [] off q.2
def relF (rl : List Int → Bool) (off : List Int) : Bool × Option (List Int) := (List.range (off.length + 1)).foldl (relS rl off) (false, none)
theorem relS_true (rl : List Int → Bool) (off : List Int) (q : Bool × Option (List Int)) (hq : q.1 = true) : ∀ l : List Nat, l.foldl (relS rl off) q = q
 | [] => rfl
 | i :: l => by
  rw [List.foldl_cons, show relS rl off q i = q from if_pos hq];exact relS_true rl off q hq l
theorem c_Relief_t (g : Gr) (s : Sta) (l : List Ld) (hl : l.length ≤ 1000) (hf : fineB g s l = true) (off : List Int) (hoff : off = offL s.Wires s.Wires.length) (rl : List Int → Bool)
  (hrl : off.length ≤ 6 → ∀ c : List Int, (∀ x ∈ c, x ∈ off) → c.length ≤ 900 → PureCall Try.prog 60 [net g s, iL c, lL l] (Bo (rl c))) (res : AV)
  (h6 : 6 < off.length → res = .tup [.v (.slice none 0 0), I 2]) (ht : off.length ≤ 6 → (relF rl off).1 = true → res = .tup [fA (relF rl off).2, I 0]) (hn : off.length ≤ 6 → (relF rl off).1 = false → res = .tup [.v (.slice none 0 0), I 4]) :
  PureCall Try.prog 35 [g.av, s.av, lL l] res := by
 have hb := c_begin_t g s l hl hf;have hnt := fine_net hf;have hbd := grB_bd hnt.gr;have hsw := hnt.sw;have hlo : off.length ≤ s.Wires.length := by rw [hoff]; exact offL_len _ _
 refine PureCall.of_bodyG Try.func35 rfl (by decide) (by simp [Try.ntmps35]) ?_;intro J hJ;simp only [Try.ntmps35, Try.results35];refine gS fun K hK => ?_;simp -dsimp;apply hK;clear hK K;refine gS fun K hK => ?_;simp -dsimp;refine callK_intro _ (hb) (by simp) ?_;simp -dsimp;apply hK;clear hK K;refine gwp_seq_k fun K1 hK1 => ?_;refine gS fun K hK => ?_;simp -dsimp;apply hK;clear hK K;refine gwp_cond rfl (fun hc0 => ?_) (fun hc0 => ?_)
 ·simp at hc0
 ·refine gwp_skip ?_;simp only [zT, reduceIte, Nat.reduceEqDiff];refine hK1 _ _ ?_;refine gwp_prune [4, 5, 8] (Or.inr (by simp)) ?_;simp only [zP, Nat.reduceEqDiff, reduceIte];refine gS fun K hK => ?_;simp -dsimp;apply hK;clear hK K;refine gwp_seq_k fun K2 hK2 => ?_;refine gS fun K hK => ?_;simp -dsimp;apply hK;clear hK K;refine gwp_block ?_;refine gwp_prune [5, 8, 10, 26, 27, 28] (Or.inr (by simp)) ?_;simp only [zP, Nat.reduceEqDiff, reduceIte];refine gwp_loop_l [5, 8, 26, 27] (α := Nat) (fun k => [(10, .row 4 0 (offL s.Wires k).length), (28, I k)]) (fun k => [some (.els 4 [g.cells]), some (.els 2 [s.cells]), some (.els 1 [[lL l]]), some (.els 1 [[net g s]]), some (.els 1 ((offL s.Wires k).map nCell))]) (fun k => k ≤ s.Wires.length) (fun k => s.Wires.length - k) 0 ?_ ?_ ?_
  ·exact Nat.zero_le _
  ·exact gsub ((sub_nil 10 1 (by simp)).trans (sub_rb [some 0, some 1, some 2, some 3, some 4] rfl (by simp [offL]) (by simp [offL]))) (by simp)
  rintro k k1;simp only [zP, Nat.reduceEqDiff, reduceIte];refine gS fun K hK => ?_;simp -dsimp;apply hK;clear hK K;refine gwp_seq_k fun K3 hK3 => ?_;refine gwp_cond rfl (fun hc1 => ?_) (fun hc1 => ?_)
  ·have hkl : k < s.Wires.length := by simpa using hc1
   have wk := zW k (by omega);have gb := bAt_get (l := s.Wires) (k := k) hkl;have hos := offL_succ s.Wires k;unfold offS at hos;have hol := offL_len s.Wires k;have f1 : Fits ((offL s.Wires k).length + 1) 9 := fits_of (by omega) (by omega);refine gwp_skip ?_;simp only [zT, reduceIte, Nat.reduceEqDiff];refine hK3 _ _ ?_;refine gwp_prune [5, 8, 10, 26, 27, 28] (Or.inr (by simp)) ?_;simp only [zP, Nat.reduceEqDiff, reduceIte];refine gwp_seq_k fun K4 hK4 => ?_;refine gwp_block ?_;refine gS fun K hK => ?_;simp -dsimp [gb];apply hK;clear hK K;refine gS fun K hK => ?_;simp -dsimp;apply hK;clear hK K;refine gwp_cond rfl (fun hc2 => ?_) (fun hc2 => ?_)
   ·have hbf : bAt s.Wires k = false := by simpa using hc2
    refine gR fun K hK => ?_;simp -dsimp [f1];apply hK;clear hK K;simp only [zT, reduceIte, Nat.reduceEqDiff];refine hK4 _ _ ?_;refine gwp_prune [5, 8, 10, 26, 27, 28] (Or.inr (by simp)) ?_;simp only [zP, Nat.reduceEqDiff, reduceIte];refine gR fun K hK => ?_;simp -dsimp [wk];apply hK;clear hK K;simp only [zT, reduceIte, Nat.reduceEqDiff];rw [if_neg (by simp [hbf])] at hos;exact ⟨k + 1, by omega, by omega, gsub (sub_rb [some 0, some 1, some 2, some 3, some 5] rfl (by simp [hos]) (by simp [hos])) (by simp)⟩
   ·have hbt : bAt s.Wires k = true := by simpa using hc2
    refine gwp_skip ?_;simp only [zT, reduceIte, Nat.reduceEqDiff];refine hK4 _ _ ?_;refine gwp_prune [5, 8, 10, 26, 27, 28] (Or.inr (by simp)) ?_;simp only [zP, Nat.reduceEqDiff, reduceIte];refine gR fun K hK => ?_;simp -dsimp [wk];apply hK;clear hK K;simp only [zT, reduceIte, Nat.reduceEqDiff];rw [if_pos hbt] at hos;exact ⟨k + 1, by omega, by omega, gsub (sub_rb [some 0, some 1, some 2, some 3, some 4] rfl (by simp [hos]) (by simp [hos])) (by simp)⟩
  ·have hke : k = s.Wires.length := by have hn : ¬ k < s.Wires.length := (by simpa using hc1); omega
   subst hke;rw [← hoff];have hto : List.take off.length (off.map nCell) = off.map nCell := List.take_of_length_le (by simp);refine gwp_exit ?_;simp only [zT, reduceIte, Nat.reduceEqDiff];refine hK2 _ _ ?_;refine gwp_prune [5, 8, 10] (Or.inr (by simp)) ?_;simp only [zP, Nat.reduceEqDiff, reduceIte];refine gwp_seq_k fun K5 hK5 => ?_;refine gwp_weak (gsub (sub_rf (T' := [(5, .ptr 0 0 0), (8, .ptr 1 0 0), (10, iL off)]) (H' := [some (.els 1 [[lL l]]), some (.els 1 [[net g s]])]) [some 2, some 3] rfl ⟨.inr (by simp), .inr (by simp), .inr (by simp [hto]), trivial⟩ (by simp)) (by simp)) ?_
   ·refine gS fun K hK => ?_;simp -dsimp;apply hK;clear hK K;refine gwp_cond rfl (fun hc3 => ?_) (fun hc3 => ?_)
    ·refine gS fun K hK => ?_;simp -dsimp;apply hK;clear hK K;have h6' : 6 < off.length := by have := (by simpa using hc3 : (6 : Int) < off.length); omega
     exact gwp_ret (by simp [h6 h6', resP, tupOf])
    ·have hl6 : off.length ≤ 6 := by have := (by simpa using hc3 : (off.length : Int) ≤ 6); omega
     have hch := m_ch0 g s l rl off hl6 (hrl hl6);have wo : IntKind.i64.wrap ((off.length : Int) + 1) = (off.length : Int) + 1 := wrap_in (by omega) (by omega);refine gwp_skip ?_;simp only [zT, reduceIte, Nat.reduceEqDiff];refine hK5 _ _ ?_;refine gwp_prune [5, 8, 10] (Or.inr (by simp)) ?_;simp only [zP, Nat.reduceEqDiff, reduceIte];refine gS fun K hK => ?_;simp -dsimp;apply hK;clear hK K;refine gS fun K hK => ?_;simp -dsimp;apply hK;clear hK K;refine gS fun K hK => ?_;simp -dsimp;apply hK;clear hK K;refine gwp_seq_k fun K6 hK6 => ?_;refine gS fun K hK => ?_;simp -dsimp [wo];apply hK;clear hK K;refine gwp_block ?_;refine gwp_prune [10, 13, 14, 46, 47] (Or.inr (by simp)) ?_;simp only [zP, Nat.reduceEqDiff, reduceIte];refine gwp_loop_l [10, 13, 14, 46] (α := Nat × Option (List Int)) (fun x => [(47, I x.1)]) (fun x => [some (.els 1 [[lL l]]), some (.els 1 [[net g s]]), some (.els 1 [[fA x.2]]), some (.els 1 [[.clo 59 [.ptr 2 0 0, .ptr 1 0 0, .ptr 0 0 0, .ptr 3 0 0]]])]) (fun x => x.1 ≤ off.length + 1 ∧ (List.range x.1).foldl (relS rl off) (false, none) = (false, x.2)) (fun x => off.length + 1 - x.1) (0, none) ?_ ?_ ?_
     ·exact ⟨Nat.zero_le _, rfl⟩
     ·exact gsub (sub_rb [some 0, some 1, some 2, some 3] rfl (by simp) (by simp [fA_none])) (by simp)
     rintro ⟨k, f⟩ ⟨k1, k2⟩;simp only at k1 k2 ⊢;simp only [zP, Nat.reduceEqDiff, reduceIte];refine gS fun K hK => ?_;simp -dsimp;apply hK;clear hK K;refine gwp_seq_k fun K7 hK7 => ?_;refine gwp_cond rfl (fun hc4 => ?_) (fun hc4 => ?_)
     ·have hko : k ≤ off.length := by have := (by simpa using hc4 : (k : Int) < off.length + 1); omega
      have wk := zW k (by omega);have hcall := hch k f (by omega);have hst : (List.range (k + 1)).foldl (relS rl off) (false, none) = chF rl k [] off f := by rw [List.range_succ, List.foldl_append, k2]; rfl
      generalize chF rl k [] off f = q at hcall hst;refine gwp_skip ?_;simp only [zT, reduceIte, Nat.reduceEqDiff];refine hK7 _ _ ?_;refine gwp_prune [10, 13, 14, 46, 47] (Or.inr (by simp)) ?_;simp only [zP, Nat.reduceEqDiff, reduceIte];refine gwp_seq_k fun K8 hK8 => ?_;refine gwp_block ?_;refine gS fun K hK => ?_;simp -dsimp;apply hK;clear hK K;refine gS fun K hK => ?_;simp -dsimp;refine callK_mut [2, 1, 0, 3] [] [some 2, some 1, some 0, some 3] (hcall) (by decide) rfl (by simp) (by simp) rfl (by simp) ?_;simp -dsimp;apply hK;clear hK K;refine gwp_cond rfl (fun hc5 => ?_) (fun hc5 => ?_)
      ·obtain ⟨o, ho⟩ : ∃ o, q.2 = o := ⟨_, rfl⟩;rw [ho]
       rcases o with _ | cc
       ·refine gS fun K hK => ?_;simp -dsimp [fA];apply hK;clear hK K;have hfin : relF rl off = q := by unfold relF; rw [fold_more _ _ (show k + 1 ≤ off.length + 1 by omega), hst]; exact relS_true _ _ _ hc5 _
        have hr := ht hl6 (by rw [hfin]; exact hc5);rw [hfin] at hr;exact gwp_ret (by simp [hr, ho, fA, resP, tupOf])
       ·refine gS fun K hK => ?_;simp -dsimp [fA];apply hK;clear hK K;have hfin : relF rl off = q := by unfold relF; rw [fold_more _ _ (show k + 1 ≤ off.length + 1 by omega), hst]; exact relS_true _ _ _ hc5 _
        have hr := ht hl6 (by rw [hfin]; exact hc5);rw [hfin] at hr;exact gwp_ret (by simp [hr, ho, fA, resP, tupOf])
      ·refine gwp_skip ?_;simp only [zT, reduceIte, Nat.reduceEqDiff];refine hK8 _ _ ?_;refine gwp_prune [10, 13, 14, 46, 47] (Or.inr (by simp)) ?_;simp only [zP, Nat.reduceEqDiff, reduceIte];refine gR fun K hK => ?_;simp -dsimp [wk];apply hK;clear hK K;simp only [zT, reduceIte, Nat.reduceEqDiff];exact ⟨(k + 1, q.2), ⟨by simp only; omega, by rw [hst]; exact Prod.ext hc5 rfl⟩, by simp only; omega, gsub (sub_rb [some 0, some 1, some 2, some 3] rfl (by simp) (by simp)) (by simp)⟩
     ·have hko : k = off.length + 1 := by have := (by simpa using hc4 : (off.length : Int) + 1 ≤ k); omega
      subst hko;refine gwp_exit ?_;simp only [zT, reduceIte, Nat.reduceEqDiff];refine hK6 _ _ ?_;refine gwp_prune [] (Or.inr (by simp)) ?_;simp only [zP, Nat.reduceEqDiff, reduceIte];refine gS fun K hK => ?_;simp -dsimp;apply hK;clear hK K;have hr := hn hl6 (by unfold relF; rw [k2]);exact gwp_ret (by simp [hr, resP, tupOf])
end Go.Cur
end
section
namespace Go.Cur
open Go.AM Go.Proofs
def exG (lim : Int) : Gr := ⟨3, [⟨0, 1, 2, false⟩, ⟨1, 2, 1, true⟩], [⟨0, 600, 2, lim⟩, ⟨2, 600, 1, 30⟩], 500⟩
def exS (b : Bool) : Sta := ⟨[true, true], [true, b]⟩
def exL : List Ld := [⟨1, 40, 0⟩]
theorem ex_fine : fineB (exG 100) (exS false) exL = true ∧ fineB (exG 100) (exS true) exL = true ∧ fineB (exG 39) (exS false) exL = true ∧ fineB (exG 39) (exS true) exL = true := by decide +kernel
theorem ex_long (lim : Int) (b : Bool) : longB (exG lim) (exS b) = false := by
 show longB (exG 0) (exS b) = false
 cases b <;> decide +kernel
theorem ex_len (lim : Int) (b : Bool) (fe : List Bool) : ∀ p ∈ partL (exG lim) ⟨fe, [true, b]⟩, p.length ≤ 5 := by
 show ∀ p ∈ partL (exG 0) ⟨[], [true, b]⟩, p.length ≤ 5
 cases b <;> decide +kernel
theorem ex_v1 : okS (exG 100) (exS false) (tkK exL (allS exL)) = true ∧ vlA 3 (vfS (exG 100) (exS false) (tkK exL (allS exL))) = [⟨580, 1⟩, ⟨560, 1⟩, ⟨600, 1⟩] ∧ flA (exG 100) (exS false) (vfS (exG 100) (exS false) (tkK exL (allS exL))) = [⟨40, 1⟩, ⟨0, 1⟩] := by decide +kernel
theorem ex_v2 : okS (exG 100) (exS true) (tkK exL (allS exL)) = true ∧ vlA 3 (vfS (exG 100) (exS true) (tkK exL (allS exL))) = [⟨1760, 3⟩, ⟨1720, 3⟩, ⟨1760, 3⟩] := by decide +kernel
theorem ex_z1 : settleS (exG 39) [true, false] exL [true, true] = ⟨[false], [false, true], [⟨4, 0, ⟨40, 1⟩⟩, ⟨1, 0, ⟨0, 1⟩⟩]⟩ := by decide +kernel
theorem ex_off : offL [true, false] 2 = [1] := by decide +kernel
def exR (c : List Int) : Bool := rlB (exG 39) (exS false) c exL
theorem ex_rel : relF exR [1] = (true, some [1]) := by decide +kernel
end Go.Cur
end
section
namespace Go.Cur
open Go.AM Go.Proofs
theorem c_rin (x lo hi : Int) : PureCall Try.prog 67 [I x, I lo, I hi] (Bo (inr x lo hi)) := by
 refine PureCall.of_body Try.func67 rfl (by decide) (by simp [Try.ntmps67]) ?_;simp only [Try.ntmps67, Try.results67];refine aS fun K hK => ?_;simp -dsimp;apply hK;clear hK K;refine aS fun K hK => ?_;simp -dsimp;apply hK;clear hK K;exact awp_ret (by simp [inr])
theorem fr_eq {x y : Fr} (h : x.Num = y.Num ∧ ik x.Den = ik y.Den) : x = y := by
 obtain ⟨a, b⟩ := x;obtain ⟨c, d⟩ := y;have h1 : a = c := h.1;have h2 : b = d := ik_inj.1 h.2;rw [h1, h2]
theorem c_rEqual (a b : List Int) (hb : b.length ≤ 100000) : PureCall Try.prog 37 [iL a, iL b] (Bo (decide (a = b))) := by
 refine PureCall.of_body Try.func37 rfl (by decide) (by simp [Try.ntmps37]) ?_;simp only [Try.ntmps37, Try.results37];refine aS fun K hK => ?_;simp -dsimp;apply hK;clear hK K;refine awp_seq_k fun K1 hK1 => ?_;refine aS fun K hK => ?_;simp -dsimp;apply hK;clear hK K;refine awp_cond rfl (fun hc0 => ?_) (fun hc0 => ?_)
 ·refine aS fun K hK => ?_;simp -dsimp;apply hK;clear hK K;have hne : a ≠ b := by rintro rfl; simp at hc0
  exact awp_ret (by simp [hne])
 ·have hle : a.length = b.length := by have := (by simpa using hc0 : (a.length : Int) = b.length); omega
  refine awp_skip ?_;simp only [zT, reduceIte, Nat.reduceEqDiff];refine hK1 _ _ ?_;refine awp_prune [0, 1] ?_;simp only [zP, Nat.reduceEqDiff, reduceIte];refine awp_seq_k fun K2 hK2 => ?_;refine aS fun K hK => ?_;simp -dsimp;apply hK;clear hK K;refine awp_block ?_;refine awp_prune [0, 1, 5] ?_;simp only [zP, Nat.reduceEqDiff, reduceIte];refine awp_loop_l [0, 1] (α := Nat) (fun k => [(5, I k)]) (fun k => []) (fun k => k ≤ a.length ∧ a.take k = b.take k) (fun k => a.length - k) 0 ?_ ?_ ?_
  ·exact ⟨Nat.zero_le _, rfl⟩
  ·exact sub_same (by simp)
  rintro k ⟨k1, k2⟩;simp only [zP, Nat.reduceEqDiff, reduceIte];refine awp_seq_k fun K3 hK3 => ?_;refine aS fun K hK => ?_;simp -dsimp;apply hK;clear hK K;refine awp_cond rfl (fun hc1 => ?_) (fun hc1 => ?_)
  ·have hka : k < a.length := by simpa using hc1
   have wk := zW k (by omega);obtain ⟨x, hx⟩ : ∃ x, a[k]? = some x := ⟨_, List.getElem?_eq_getElem hka⟩;obtain ⟨y, hy⟩ : ∃ y, b[k]? = some y := ⟨_, List.getElem?_eq_getElem (by omega)⟩;refine awp_skip ?_;simp only [zT, reduceIte, Nat.reduceEqDiff];refine hK3 _ _ ?_;refine awp_prune [0, 1, 5] ?_;simp only [zP, Nat.reduceEqDiff, reduceIte];refine awp_seq_k fun K4 hK4 => ?_;refine awp_block ?_;refine awp_sd mixed rfl fun K hK => ?_;simp -dsimp [hx, hy];refine hK _ _ _ (by decide +kernel) ?_; clear hK K;refine awp_cond rfl (fun hc2 => ?_) (fun hc2 => ?_)
   ·refine aS fun K hK => ?_;simp -dsimp;apply hK;clear hK K;have hne : a ≠ b := by
     rintro rfl;rw [hx] at hy;have := Option.some.inj hy;subst this;simp at hc2
    exact awp_ret (by simp [hne])
   ·refine awp_skip ?_;simp only [zT, reduceIte, Nat.reduceEqDiff];refine hK4 _ _ ?_;refine awp_prune [0, 1, 5] ?_;simp only [zP, Nat.reduceEqDiff, reduceIte];refine aR fun K hK => ?_;simp -dsimp [wk];apply hK;clear hK K;simp only [zT, reduceIte, Nat.reduceEqDiff];have hxy : x = y := by simpa using hc2
    exact ⟨k + 1, ⟨by omega, by rw [List.take_add_one, List.take_add_one, hx, hy, k2, hxy]⟩, by omega, sub_rb [] rfl (by simp) (by simp)⟩
  ·have hka : ¬ k < a.length := by simpa using hc1
   have e : a = b := by have h1 := k2; rw [List.take_of_length_le (by omega), List.take_of_length_le (by omega)] at h1; exact h1
   refine awp_exit ?_;simp only [zT, reduceIte, Nat.reduceEqDiff];refine hK2 _ _ ?_;refine awp_prune [] ?_;simp only [zP, Nat.reduceEqDiff, reduceIte];refine aS fun K hK => ?_;simp -dsimp;apply hK;clear hK K;exact awp_ret (by simp [e])
theorem c_rSame (a b : List Fr) (hb : b.length ≤ 100000) : PureCall Try.prog 21 [fL a, fL b] (Bo (decide (a = b))) := by
 refine PureCall.of_body Try.func21 rfl (by decide) (by simp [Try.ntmps21]) ?_;simp only [Try.ntmps21, Try.results21];refine aS fun K hK => ?_;simp -dsimp;apply hK;clear hK K;refine awp_seq_k fun K1 hK1 => ?_;refine aS fun K hK => ?_;simp -dsimp;apply hK;clear hK K;refine awp_cond rfl (fun hc0 => ?_) (fun hc0 => ?_)
 ·refine aS fun K hK => ?_;simp -dsimp;apply hK;clear hK K;have hne : a ≠ b := by rintro rfl; simp at hc0
  exact awp_ret (by simp [hne])
 ·have hle : a.length = b.length := by have := (by simpa using hc0 : (a.length : Int) = b.length); omega
  refine awp_skip ?_;simp only [zT, reduceIte, Nat.reduceEqDiff];refine hK1 _ _ ?_;refine awp_prune [0, 1] ?_;simp only [zP, Nat.reduceEqDiff, reduceIte];refine awp_seq_k fun K2 hK2 => ?_;refine aS fun K hK => ?_;simp -dsimp;apply hK;clear hK K;refine awp_block ?_;refine awp_prune [0, 1, 5] ?_;simp only [zP, Nat.reduceEqDiff, reduceIte];refine awp_loop_l [0, 1] (α := Nat) (fun k => [(5, I k)]) (fun k => []) (fun k => k ≤ a.length ∧ a.take k = b.take k) (fun k => a.length - k) 0 ?_ ?_ ?_
  ·exact ⟨Nat.zero_le _, rfl⟩
  ·exact sub_same (by simp)
  rintro k ⟨k1, k2⟩;simp only [zP, Nat.reduceEqDiff, reduceIte];refine awp_seq_k fun K3 hK3 => ?_;refine aS fun K hK => ?_;simp -dsimp;apply hK;clear hK K;refine awp_cond rfl (fun hc1 => ?_) (fun hc1 => ?_)
  ·have hka : k < a.length := by simpa using hc1
   have wk := zW k (by omega);obtain ⟨x, hx⟩ : ∃ x, a[k]? = some x := ⟨_, List.getElem?_eq_getElem hka⟩;obtain ⟨y, hy⟩ : ∃ y, b[k]? = some y := ⟨_, List.getElem?_eq_getElem (by omega)⟩;refine awp_skip ?_;simp only [zT, reduceIte, Nat.reduceEqDiff];refine hK3 _ _ ?_;refine awp_prune [0, 1, 5] ?_;simp only [zP, Nat.reduceEqDiff, reduceIte];refine awp_seq_k fun K4 hK4 => ?_;refine awp_block ?_;refine awp_sd mixed rfl fun K hK => ?_;simp -dsimp [hx, hy];refine hK _ _ _ (by decide +kernel) ?_; clear hK K;refine awp_cond rfl (fun hc2 => ?_) (fun hc2 => ?_)
   ·refine aS fun K hK => ?_;simp -dsimp;apply hK;clear hK K;have hne : a ≠ b := by
     rintro rfl;rw [hx] at hy;have := Option.some.inj hy;subst this;simp at hc2
    exact awp_ret (by simp [hne])
   ·refine awp_skip ?_;simp only [zT, reduceIte, Nat.reduceEqDiff];refine hK4 _ _ ?_;refine awp_prune [0, 1, 5] ?_;simp only [zP, Nat.reduceEqDiff, reduceIte];refine aR fun K hK => ?_;simp -dsimp [wk];apply hK;clear hK K;simp only [zT, reduceIte, Nat.reduceEqDiff];have hxy : x = y := fr_eq (by simpa using hc2);exact ⟨k + 1, ⟨by omega, by rw [List.take_add_one, List.take_add_one, hx, hy, k2, hxy]⟩, by omega, sub_rb [] rfl (by simp) (by simp)⟩
  ·have hka : ¬ k < a.length := by simpa using hc1
   have e : a = b := by have h1 := k2; rw [List.take_of_length_le (by omega), List.take_of_length_le (by omega)] at h1; exact h1
   refine awp_exit ?_;simp only [zT, reduceIte, Nat.reduceEqDiff];refine hK2 _ _ ?_;refine awp_prune [] ?_;simp only [zP, Nat.reduceEqDiff, reduceIte];refine aS fun K hK => ?_;simp -dsimp;apply hK;clear hK K;exact awp_ret (by simp [e])
end Go.Cur
end
section
namespace Go.Cur
open Go.AM Go.Proofs
theorem kt_bool1 : ktOf Try.prog 4 = some .b := by kernel_rfl
theorem und_bool1 : (Try.prog).underlying 4 = some .bool := by kernel_rfl
theorem ne_guard1 (t : TypeId) (x y : Operand) (a b : Bool) (w : World) (ht : (Try.prog).underlying t = some .bool) : (eqGuard .neq t x y (.bool a) (.bool b)).run Try.prog w = .ok () w := by
 simp [eqGuard, run_underlying ht]
theorem ne_bool1 (t : TypeId) (a b : Bool) (w : World) (hk : ktOf Try.prog t = some .b) : (binOp .neq t (.bool a) (.bool b)).run Try.prog w = .ok (.bool (a != b)) w := by
 have h := run_equalIn_kc (P := Try.prog) (w := w) hk (Op.maxDepth - 1) (a := .b a) (b := .b b) rfl rfl;rw [show Op.maxDepth - 1 + 1 = Op.maxDepth from rfl] at h;simp only [KC.val] at h;simp [binOp, Op.equal, h]
 cases a <;> cases b <;> rfl
theorem c_rAlike (a b : List Bool) (hb : b.length ≤ 100000) : PureCall Try.prog 30 [bL a, bL b] (Bo (decide (a = b))) := by
 refine PureCall.of_body Try.func30 rfl (by decide) (by simp [Try.ntmps30]) ?_;simp only [Try.ntmps30, Try.results30];refine aS fun K hK => ?_;simp -dsimp;apply hK;clear hK K;refine awp_seq_k fun K1 hK1 => ?_;refine aS fun K hK => ?_;simp -dsimp;apply hK;clear hK K;refine awp_cond rfl (fun hc0 => ?_) (fun hc0 => ?_)
 ·refine aS fun K hK => ?_;simp -dsimp;apply hK;clear hK K;have hne : a ≠ b := by rintro rfl; simp at hc0
  exact awp_ret (by simp [hne])
 ·have hle : a.length = b.length := by have := (by simpa using hc0 : (a.length : Int) = b.length); omega
  refine awp_skip ?_;simp only [zT, reduceIte, Nat.reduceEqDiff];refine hK1 _ _ ?_;refine awp_prune [0, 1] ?_;simp only [zP, Nat.reduceEqDiff, reduceIte];refine awp_seq_k fun K2 hK2 => ?_;refine aS fun K hK => ?_;simp -dsimp;apply hK;clear hK K;refine awp_block ?_;refine awp_prune [0, 1, 5] ?_;simp only [zP, Nat.reduceEqDiff, reduceIte];refine awp_loop_l [0, 1] (α := Nat) (fun k => [(5, I k)]) (fun k => []) (fun k => k ≤ a.length ∧ a.take k = b.take k) (fun k => a.length - k) 0 ?_ ?_ ?_
  ·exact ⟨Nat.zero_le _, rfl⟩
  ·exact sub_same (by simp)
  rintro k ⟨k1, k2⟩;simp only [zP, Nat.reduceEqDiff, reduceIte];refine awp_seq_k fun K3 hK3 => ?_;refine aS fun K hK => ?_;simp -dsimp;apply hK;clear hK K;refine awp_cond rfl (fun hc1 => ?_) (fun hc1 => ?_)
  ·have hka : k < a.length := by simpa using hc1
   have wk := zW k (by omega);obtain ⟨x, hx⟩ : ∃ x, a[k]? = some x := ⟨_, List.getElem?_eq_getElem hka⟩;obtain ⟨y, hy⟩ : ∃ y, b[k]? = some y := ⟨_, List.getElem?_eq_getElem (by omega)⟩;refine awp_skip ?_;simp only [zT, reduceIte, Nat.reduceEqDiff];refine hK3 _ _ ?_;refine awp_prune [0, 1, 5] ?_;simp only [zP, Nat.reduceEqDiff, reduceIte];refine awp_seq_k fun K4 hK4 => ?_;refine awp_block ?_;refine awp_sd mixed rfl fun K hK => ?_;simp -dsimp [hx, hy];refine ⟨fun w => ne_guard1 _ _ _ _ _ w und_bool1, .bool (x != y), fun w => ne_bool1 _ _ _ w kt_bool1, ?_⟩;refine hK _ _ _ (by decide +kernel) ?_; clear hK K;refine awp_cond rfl (fun hc2 => ?_) (fun hc2 => ?_)
   ·refine aS fun K hK => ?_;simp -dsimp;apply hK;clear hK K;have hne : a ≠ b := by
     rintro rfl;rw [hx] at hy;have := Option.some.inj hy;subst this;simp at hc2
    exact awp_ret (by simp [hne])
   ·refine awp_skip ?_;simp only [zT, reduceIte, Nat.reduceEqDiff];refine hK4 _ _ ?_;refine awp_prune [0, 1, 5] ?_;simp only [zP, Nat.reduceEqDiff, reduceIte];refine aR fun K hK => ?_;simp -dsimp [wk];apply hK;clear hK K;simp only [zT, reduceIte, Nat.reduceEqDiff];have hxy : x = y := by simpa using hc2
    exact ⟨k + 1, ⟨by omega, by rw [List.take_add_one, List.take_add_one, hx, hy, k2, hxy]⟩, by omega, sub_rb [] rfl (by simp) (by simp)⟩
  ·have hka : ¬ k < a.length := by simpa using hc1
   have e : a = b := by have h1 := k2; rw [List.take_of_length_le (by omega), List.take_of_length_le (by omega)] at h1; exact h1
   refine awp_exit ?_;simp only [zT, reduceIte, Nat.reduceEqDiff];refine hK2 _ _ ?_;refine awp_prune [] ?_;simp only [zP, Nat.reduceEqDiff, reduceIte];refine aS fun K hK => ?_;simp -dsimp;apply hK;clear hK K;exact awp_ret (by simp [e])
theorem c_rIndex (l : List Int) (x : Int) (hn : l.length ≤ 100000) : PureCall Try.prog 53 [iL l, I x] (I (firstI l fun y => decide (x = y))) := by
 refine PureCall.of_body Try.func53 rfl (by decide) (by simp [Try.ntmps53]) ?_;simp only [Try.ntmps53, Try.results53];refine aS fun K hK => ?_;simp -dsimp;apply hK;clear hK K;refine awp_seq_k fun K1 hK1 => ?_;refine aS fun K hK => ?_;simp -dsimp;apply hK;clear hK K;refine awp_block ?_;refine awp_prune [0, 1, 5] ?_;simp only [zP, Nat.reduceEqDiff, reduceIte];refine awp_loop_l [0, 1] (α := Nat) (fun k => [(5, I k)]) (fun k => []) (fun k => k ≤ l.length ∧ ((l.take k).any fun y => decide (x = y)) = false) (fun k => l.length - k) 0 ?_ ?_ ?_
 ·exact ⟨Nat.zero_le _, rfl⟩
 ·exact sub_same (by simp)
 rintro k ⟨k1, k2⟩;simp only [zP, Nat.reduceEqDiff, reduceIte];refine awp_seq_k fun K2 hK2 => ?_;refine aS fun K hK => ?_;simp -dsimp;apply hK;clear hK K;refine awp_cond rfl (fun hc0 => ?_) (fun hc0 => ?_)
 ·have hkl : k < l.length := by simpa using hc0
  have wk := zW k (by omega);obtain ⟨y, hy⟩ : ∃ y, l[k]? = some y := ⟨_, List.getElem?_eq_getElem hkl⟩;refine awp_skip ?_;simp only [zT, reduceIte, Nat.reduceEqDiff];refine hK2 _ _ ?_;refine awp_prune [0, 1, 5] ?_;simp only [zP, Nat.reduceEqDiff, reduceIte];refine awp_seq_k fun K3 hK3 => ?_;refine awp_block ?_;refine aS fun K hK => ?_;simp -dsimp [hy];apply hK;clear hK K;refine awp_cond rfl (fun hc1 => ?_) (fun hc1 => ?_)
  ·refine aS fun K hK => ?_;simp -dsimp;apply hK;clear hK K;have hxy : x = y := by have : y = x := (by simpa using hc1); exact this.symm
   exact awp_ret (by simp [firstI_hit hy (by simp [hxy]) k2])
  ·refine awp_skip ?_;simp only [zT, reduceIte, Nat.reduceEqDiff];refine hK3 _ _ ?_;refine awp_prune [0, 1, 5] ?_;simp only [zP, Nat.reduceEqDiff, reduceIte];refine aR fun K hK => ?_;simp -dsimp [wk];apply hK;clear hK K;simp only [zT, reduceIte, Nat.reduceEqDiff];have hxy : ¬ x = y := by intro h; simp [h] at hc1
   exact ⟨k + 1, ⟨by omega, by rw [List.take_add_one, hy, List.any_append, k2]; simp [hxy]⟩, by omega, sub_rb [] rfl (by simp) (by simp)⟩
 ·have hkl : ¬ k < l.length := by simpa using hc0
  rw [List.take_of_length_le (by omega)] at k2;refine awp_exit ?_;simp only [zT, reduceIte, Nat.reduceEqDiff];refine hK1 _ _ ?_;refine awp_prune [] ?_;simp only [zP, Nat.reduceEqDiff, reduceIte];refine aS fun K hK => ?_;simp -dsimp;apply hK;clear hK K;exact awp_ret (by simp [firstI_none k2])
theorem first_ge (l : List Int) (x : Int) : decide (0 ≤ firstI l fun y => decide (x = y)) = decide (x ∈ l) := by rw [firstI_nn, any_eq]
theorem c_rFeeders (g : Gr) (s : Sta) (part : List Int) (hs : s.Feeds.length = g.Feeds.length) (hp : part.length ≤ 1000) (hn : g.Feeds.length ≤ 1000) : PureCall Try.prog 25 [g.av, s.av, iL part] (iL (feedL g s part)) := by
 unfold feedL;refine PureCall.of_body Try.func25 rfl (by decide) (by simp [Try.ntmps25]) ?_;simp only [Try.ntmps25, Try.results25];refine aS fun K hK => ?_;simp -dsimp;apply hK;clear hK K;refine aS fun K hK => ?_;simp -dsimp;apply hK;clear hK K;refine awp_seq_k fun K1 hK1 => ?_;refine aS fun K hK => ?_;simp -dsimp;apply hK;clear hK K;refine awp_block ?_;refine awp_prune [2, 3, 4, 7, 8] ?_;simp only [zP, Nat.reduceEqDiff, reduceIte];refine awp_loop_l [2, 3, 4] (α := Nat) (fun k => [(7, .row 2 0 ((upI k).filter (fdOn g s part)).length), (8, I k)]) (fun k => [some (.els 4 [g.cells]), some (.els 2 [s.cells]), some (.els 1 (((upI k).filter (fdOn g s part)).map nCell))]) (fun k => k ≤ g.Feeds.length) (fun k => g.Feeds.length - k) 0 ?_ ?_ ?_
 ·exact Nat.zero_le _
 ·exact (sub_nil 7 1 (by simp)).trans (sub_same (by simp [upI]))
 rintro k k1;simp only [zP, Nat.reduceEqDiff, reduceIte];refine awp_seq_k fun K2 hK2 => ?_;refine aS fun K hK => ?_;simp -dsimp;apply hK;clear hK K;refine awp_cond rfl (fun hc0 => ?_) (fun hc0 => ?_)
 ·have hkl : k < g.Feeds.length := by simpa using hc0
  have wk := zW k (by omega);have hfl : ((upI k).filter (fdOn g s part)).length ≤ k := by have := List.length_filter_le (fdOn g s part) (upI k); rw [upI_len] at this; omega
  have hfs : (upI (k + 1)).filter (fdOn g s part) = (upI k).filter (fdOn g s part) ++ if fdOn g s part k then [(k : Int)] else [] := by rw [upI_snoc, List.filter_append]; cases hq : fdOn g s part k <;> simp [hq]
  have f1 : Fits (((upI k).filter (fdOn g s part)).length + 1) 9 := fits_of (by omega) (by omega);have gb := bAt_get (l := s.Feeds) (k := k) (by omega);have gf : g.Feeds[k]? = some (fdI g k) := by have := fdI_get (g := g) (i := (k : Int)) (by omega) (by omega); rwa [Int.toNat_natCast] at this
  have hon : fdOn g s part k = (bAt s.Feeds k && decide (0 ≤ firstI part fun y => decide ((fdI g k).At = y))) := by rw [first_ge]; unfold fdOn; rw [Int.toNat_natCast]
  have hix := c_rIndex part (fdI g k).At (by omega);generalize (upI k).filter (fdOn g s part) = L at hfs hfl f1 ⊢;generalize (firstI part fun y => decide ((fdI g k).At = y)) = ix at hon hix;refine awp_skip ?_;simp only [zT, reduceIte, Nat.reduceEqDiff];refine hK2 _ _ ?_;refine awp_prune [2, 3, 4, 7, 8] ?_;simp only [zP, Nat.reduceEqDiff, reduceIte];refine awp_seq_k fun K3 hK3 => ?_;refine awp_block ?_;refine aS fun K hK => ?_;simp -dsimp [gb, gf, hs];refine idxK_intro (fdI g k).cells (fun _ => by simp [gf]) ?_;simp -dsimp [gb, gf, hs];refine callK_may _ (fun hm => hix) (by simp) ?_;simp -dsimp [gb, gf, hs];apply hK;clear hK K;refine awp_cond rfl (fun hc1 => ?_) (fun hc1 => ?_)
  ·refine aR fun K hK => ?_;simp -dsimp [f1];apply hK;clear hK K;simp only [zT, reduceIte, Nat.reduceEqDiff];refine hK3 _ _ ?_;refine awp_prune [2, 3, 4, 7, 8] ?_;simp only [zP, Nat.reduceEqDiff, reduceIte];refine aR fun K hK => ?_;simp -dsimp [wk];apply hK;clear hK K;simp only [zT, reduceIte, Nat.reduceEqDiff];have hb : fdOn g s part k = true := by rw [hon]; simpa using hc1
   exact ⟨k + 1, by omega, by omega, sub_rb [some 0, some 1, some 3] rfl (by simp [hfs, hb]) (by simp [hfs, hb])⟩
  ·refine awp_skip ?_;simp only [zT, reduceIte, Nat.reduceEqDiff];refine hK3 _ _ ?_;refine awp_prune [2, 3, 4, 7, 8] ?_;simp only [zP, Nat.reduceEqDiff, reduceIte];refine aR fun K hK => ?_;simp -dsimp [wk];apply hK;clear hK K;simp only [zT, reduceIte, Nat.reduceEqDiff];have hb : fdOn g s part k = false := by rw [hon]; simpa using hc1
   exact ⟨k + 1, by omega, by omega, sub_rb [some 0, some 1, some 2] rfl (by simp [hfs, hb]) (by simp [hfs, hb])⟩
 ·have hke : k = g.Feeds.length := by have hn : ¬ k < g.Feeds.length := (by simpa using hc0); omega
  subst hke;refine awp_exit ?_;simp only [zT, reduceIte, Nat.reduceEqDiff];refine hK1 _ _ ?_;refine awp_prune [7] ?_;simp only [zP, Nat.reduceEqDiff, reduceIte];refine aS fun K hK => ?_;simp -dsimp;apply hK;clear hK K;exact awp_ret (by simp)
theorem rowz (n : Nat) (f : Nat → Int) (h : ∀ k, f k = 0) : List.replicate n [AV.v (Value.int .i64 0)] = ((List.range n).map f).map nCell := by
 refine List.ext_getElem? fun i => ?_
 by_cases hi : i < n
 ·rw [List.getElem?_replicate, if_pos hi, List.getElem?_map, List.getElem?_map, List.getElem?_range hi];simp [h]
 ·rw [List.getElem?_eq_none (by simp; omega), List.getElem?_eq_none (by simp; omega)]
def smallB (ps : List (List Nat)) : Bool := ps.all fun p => decide (p.length ≤ 10)
theorem c_rSmall (ps : List (List Nat)) (hn : ps.length ≤ 100000) : PureCall Try.prog 34 [.lst 1 (ps.map pAV)] (Bo (smallB ps)) := by
 unfold smallB;refine PureCall.of_body Try.func34 rfl (by decide) (by simp [Try.ntmps34]) ?_;simp only [Try.ntmps34, Try.results34];refine aS fun K hK => ?_;simp -dsimp;apply hK;clear hK K;refine awp_seq_k fun K1 hK1 => ?_;refine aS fun K hK => ?_;simp -dsimp;apply hK;clear hK K;refine awp_block ?_;refine awp_prune [0, 3] ?_;simp only [zP, Nat.reduceEqDiff, reduceIte];refine awp_loop_l [0] (α := Nat) (fun k => [(3, I k)]) (fun k => []) (fun k => k ≤ ps.length ∧ ((ps.take k).all fun p => decide (p.length ≤ 10)) = true) (fun k => ps.length - k) 0 ?_ ?_ ?_
 ·exact ⟨Nat.zero_le _, rfl⟩
 ·exact sub_same (by simp)
 rintro k ⟨k1, k2⟩;simp only [zP, Nat.reduceEqDiff, reduceIte];refine awp_seq_k fun K2 hK2 => ?_;refine aS fun K hK => ?_;simp -dsimp;apply hK;clear hK K;refine awp_cond rfl (fun hc0 => ?_) (fun hc0 => ?_)
 ·have hkl : k < ps.length := by simpa using hc0
  have wk := zW k (by omega);obtain ⟨p, hp⟩ : ∃ p, ps[k]? = some p := ⟨_, List.getElem?_eq_getElem hkl⟩;have hul := upN_len p;refine awp_skip ?_;simp only [zT, reduceIte, Nat.reduceEqDiff];refine hK2 _ _ ?_;refine awp_prune [0, 3] ?_;simp only [zP, Nat.reduceEqDiff, reduceIte];refine awp_seq_k fun K3 hK3 => ?_;refine awp_block ?_;refine aS fun K hK => ?_;simp -dsimp [hp, pAV];apply hK;clear hK K;refine awp_cond rfl (fun hc1 => ?_) (fun hc1 => ?_)
  ·refine aS fun K hK => ?_;simp -dsimp;apply hK;clear hK K;have hf : (ps.all fun p => decide (p.length ≤ 10)) = false := by
    rw [List.all_eq_false];exact ⟨p, List.mem_of_getElem? hp, by have := (by simpa using hc1 : (10 : Int) < (upN p).length); simp; omega⟩
   exact awp_ret (by simp [hf])
  ·refine awp_skip ?_;simp only [zT, reduceIte, Nat.reduceEqDiff];refine hK3 _ _ ?_;refine awp_prune [0, 3] ?_;simp only [zP, Nat.reduceEqDiff, reduceIte];refine aR fun K hK => ?_;simp -dsimp [wk];apply hK;clear hK K;simp only [zT, reduceIte, Nat.reduceEqDiff];exact ⟨k + 1, ⟨by omega, by rw [List.take_add_one, hp, List.all_append, k2]; have := (by simpa using hc1 : ((upN p).length : Int) ≤ 10); simp; omega⟩, by omega, sub_rb [] rfl (by simp) (by simp)⟩
 ·have hkl : ¬ k < ps.length := by simpa using hc0
  rw [List.take_of_length_le (by omega)] at k2;refine awp_exit ?_;simp only [zT, reduceIte, Nat.reduceEqDiff];refine hK1 _ _ ?_;refine awp_prune [] ?_;simp only [zP, Nat.reduceEqDiff, reduceIte];refine aS fun K hK => ?_;simp -dsimp;apply hK;clear hK K;exact awp_ret (by simp [k2])
end Go.Cur
end
section
namespace Go.Cur
open Go.AM Go.Proofs
def cntA : List Int → Int → Int
 | [], _ => 0
 | a :: l, x => (if a = x then 1 else 0) + cntA l x
theorem cntA_nn (x : Int) : ∀ l, 0 ≤ cntA l x ∧ cntA l x ≤ l.length
 | [] => by simp [cntA]
 | a :: l => by
  have := cntA_nn x l;simp only [cntA, List.length_cons]
  split <;> omega
theorem cntA_append (x : Int) : ∀ (a b : List Int), cntA (a ++ b) x = cntA a x + cntA b x
 | [], b => by simp [cntA]
 | w :: a, b => by simp only [List.cons_append, cntA, cntA_append x a b]; omega
theorem cntA_zero {x : Int} : ∀ {l : List Int}, cntA l x = 0 ↔ x ∉ l
 | [] => by simp [cntA]
 | a :: l => by
  have h1 := cntA_zero (x := x) (l := l);have h2 := cntA_nn x l;simp only [cntA, List.mem_cons, not_or]
  by_cases h : a = x
  ·simp [h]; omega
  ·rw [if_neg h, ← h1];exact ⟨fun e => ⟨fun k => h k.symm, by omega⟩, fun e => by omega⟩
theorem cntA_take {x : Int} {l : List Int} (k : Nat) : cntA (l.take k) x ≤ cntA l x := by
 have h := cntA_append x (l.take k) (l.drop k);rw [List.take_append_drop] at h;have := cntA_nn x (l.drop k);omega
theorem deg_take_le (x : Int) (l : List Wr) (k : Nat) : deg (l.take k) x ≤ deg l x := by
 have h := deg_append x (l.take k) (l.drop k);rw [List.take_append_drop] at h;have := deg_nn x (l.drop k);omega
def fdR (g : Gr) (f : Fd) : Bool := inr f.At 0 (g.Nodes - 1) && inr f.Volts 1 1000 && inr f.Siem 1 4 && inr f.Limit 0 2000
def fAt (l : List Fd) : List Int := l.map fun f => f.At
theorem any_at {l : List Fd} {x : Int} : (l.any fun f => decide (f.At = x)) = decide (x ∈ fAt l) := by
 unfold fAt;rw [Bool.eq_iff_iff]; simp
@[simp] theorem fAt_nil : fAt [] = [] := rfl
theorem fAt_snoc {l : List Fd} {k : Nat} {f : Fd} (h : l[k]? = some f) : fAt (l.take (k + 1)) = fAt (l.take k) ++ [f.At] := by
 unfold fAt;rw [List.take_add_one, h]; simp
theorem fAt_take (l : List Fd) (k : Nat) : fAt (l.take k) = (fAt l).take k := by unfold fAt; rw [List.map_take]
theorem fd_cnt {g : Gr} : ∀ {k : Nat}, k ≤ g.Feeds.length → fdTo g k = true → ∀ x, cntA (fAt (g.Feeds.take k)) x ≤ 1
 | 0, _, _, x => by simp [cntA]
 | k + 1, hk, h, x => by
  simp only [fdTo, Bool.and_eq_true] at h;have ih := fd_cnt (k := k) (by omega) h.1 x;obtain ⟨f, hf⟩ : ∃ f, g.Feeds[k]? = some f := ⟨_, List.getElem?_eq_getElem (by omega)⟩;have h2 := h.2;rw [hf] at h2;simp only [fdB, Bool.and_eq_true, any_at, Bool.not_eq_true', decide_eq_false_iff_not] at h2;have e := fAt_snoc hf;rw [e, cntA_append];simp only [cntA]
  by_cases hx : f.At = x
  ·have := cntA_zero.2 h2.2;rw [hx] at this;rw [this, if_pos hx]; omega
  ·rw [if_neg hx]; omega
theorem grB_cnt {g : Gr} (h : grB g = true) (x : Int) : cntA (fAt g.Feeds) x ≤ 1 := by
 simp only [grB, Bool.and_eq_true] at h;have := fd_cnt (Nat.le_refl _) h.2 x
 rwa [List.take_length] at this
theorem grB_of {g : Gr} (h1 : grH g = true) (h2 : ∀ (k : Nat) w, g.Wires[k]? = some w → wrB g w = true) (h3 : ∀ (k : Nat) f, g.Feeds[k]? = some f → fdR g f = true) (h4 : ∀ k : Nat, (k : Int) < g.Nodes → deg g.Wires k ≤ 3 ∧ cntA (fAt g.Feeds) k ≤ 1) : grB g = true := by
 have a : ∀ k, k ≤ g.Wires.length → wrTo g k = true := by
  intro k
  induction k with
  | zero => intro _; rfl
  | succ k ih =>
   intro hk;obtain ⟨w, hw⟩ : ∃ w, g.Wires[k]? = some w := ⟨_, List.getElem?_eq_getElem (by omega)⟩;have hwb := h2 k w hw;have hwb2 := hwb;simp only [wrB, Bool.and_eq_true, inr_iff] at hwb2;simp only [wrTo, ih (by omega), hw, hwb, wrD, Bool.true_and, Bool.and_eq_true, decide_eq_true_eq];have e1 := h4 w.A.toNat (by omega);have e2 := h4 w.B.toNat (by omega);rw [Int.toNat_of_nonneg (by omega)] at e1 e2;exact ⟨Int.le_trans (deg_take_le _ _ _) e1.1, Int.le_trans (deg_take_le _ _ _) e2.1⟩
 have b : ∀ k, k ≤ g.Feeds.length → fdTo g k = true := by
  intro k
  induction k with
  | zero => intro _; rfl
  | succ k ih =>
   intro hk;obtain ⟨f, hf⟩ : ∃ f, g.Feeds[k]? = some f := ⟨_, List.getElem?_eq_getElem (by omega)⟩;have hfb := h3 k f hf;have hfb2 := hfb;simp only [fdR, Bool.and_eq_true, inr_iff] at hfb2;have hany : ((g.Feeds.take k).any fun x => decide (x.At = f.At)) = false := by
    rw [any_at, decide_eq_false_iff_not, ← cntA_zero];have e1 := (h4 f.At.toNat (by omega)).2;rw [Int.toNat_of_nonneg (by omega)] at e1;have e2 := fAt_snoc hf;have e3 := cntA_take (x := f.At) (l := fAt g.Feeds) (k + 1);rw [← fAt_take, e2, cntA_append] at e3;simp only [cntA, if_true] at e3;have := cntA_nn f.At (fAt (g.Feeds.take k));omega
   simp only [fdTo, ih (by omega), hf, fdB, hany, Bool.true_and, Bool.not_false, Bool.and_true];exact hfb
 simp only [grB, h1, a _ (Nat.le_refl _), b _ (Nat.le_refl _), Bool.and_self]
def degR (n : Nat) (l : List Wr) : List Int := (List.range n).map fun (k : Nat) => deg l k
theorem degR_get {n : Nat} {l : List Wr} {k : Nat} (h : k < n) : (degR n l)[k]? = some (deg l k) := by
 unfold degR;rw [List.getElem?_map, List.getElem?_range h]; rfl
theorem degR_len (n : Nat) (l : List Wr) : (degR n l).length = n := by simp [degR]
theorem degR_set {n : Nat} {l : List Wr} {k a b : Nat} {w : Wr} (hw : l[k]? = some w) (ha : w.A = a) (hb : w.B = b) (hab : a ≠ b) : ((degR n (l.take k)).set a (deg (l.take k) a + 1)).set b (deg (l.take k) b + 1) = degR n (l.take (k + 1)) := by
 have e : l.take (k + 1) = l.take k ++ [w] := by rw [List.take_add_one, hw]; rfl
 refine List.ext_getElem? fun i => ?_
 by_cases hi : i < n
 ·rw [degR_get hi, e, deg_append];simp only [deg, ha, hb]
  by_cases h1 : i = b
  ·subst h1;rw [List.getElem?_set_self (by simp [degR]; omega), if_neg (by omega), if_pos rfl]
   all_goals exact congrArg some (by omega)
  ·rw [List.getElem?_set_ne (fun e => h1 e.symm)]
   by_cases h2 : i = a
   ·subst h2;rw [List.getElem?_set_self (by simp [degR]; omega), if_pos rfl, if_neg (by omega)]
    all_goals exact congrArg some (by omega)
   ·rw [List.getElem?_set_ne (fun e => h2 e.symm), degR_get hi, if_neg (by omega), if_neg (by omega)]
    all_goals exact congrArg some (by omega)
 ·rw [List.getElem?_eq_none (by simp [degR]; omega), List.getElem?_eq_none (by simp [degR]; omega)]
def cntR (n : Nat) (l : List Int) : List Int := (List.range n).map fun (k : Nat) => cntA l k
theorem cntR_get {n : Nat} {l : List Int} {k : Nat} (h : k < n) : (cntR n l)[k]? = some (cntA l k) := by
 unfold cntR;rw [List.getElem?_map, List.getElem?_range h]; rfl
theorem cntR_len (n : Nat) (l : List Int) : (cntR n l).length = n := by simp [cntR]
theorem cntR_set {n : Nat} {l : List Int} {a : Nat} : (cntR n l).set a (cntA l a + 1) = cntR n (l ++ [(a : Int)]) := by
 refine List.ext_getElem? fun i => ?_
 by_cases hi : i < n
 ·rw [cntR_get hi, cntA_append];simp only [cntA]
  by_cases h2 : i = a
  ·subst h2;rw [List.getElem?_set_self (by simp [cntR]; omega), if_pos rfl]
   all_goals exact congrArg some (by omega)
  ·rw [List.getElem?_set_ne (fun e => h2 e.symm), cntR_get hi, if_neg (by omega)]
   all_goals exact congrArg some (by omega)
 ·rw [List.getElem?_eq_none (by simp [cntR]; omega), List.getElem?_eq_none (by simp [cntR]; omega)]
theorem c_rGrid (g : Gr) (hw0 : g.Wires.length ≤ 100000) (hf0 : g.Feeds.length ≤ 100000) : PureCall Try.prog 41 [g.av] (Bo (grB g)) := by
 refine PureCall.of_body Try.func41 rfl (by decide) (by simp [Try.ntmps41]) ?_;simp only [Try.ntmps41, Try.results41];refine aS fun K hK => ?_;simp -dsimp;apply hK;clear hK K;refine awp_seq_k fun K1 hK1 => ?_;refine aS fun K hK => ?_;simp -dsimp;refine callK_intro _ (c_rin g.Nodes 1 40) (by simp) ?_;simp -dsimp;refine callK_may _ (fun hm => c_rin g.Least 0 1000) (by simp) ?_;simp -dsimp;apply hK;clear hK K;refine awp_cond rfl (fun hc0 => ?_) (fun hc0 => ?_)
 ·refine aS fun K hK => ?_;simp -dsimp;apply hK;clear hK K;have hf : grH g = false := by
   cases hh : grH g with
   | false => rfl
   | true =>
    simp only [grH, Bool.and_eq_true, decide_eq_true_eq] at hh;have h1 : (g.Wires.length : Int) ≤ 80 := by omega
    have h2 : (g.Feeds.length : Int) ≤ 12 := by omega
    simp [hh.1.1.1, hh.2] at hc0; omega
  exact awp_ret (by simp [grB, hf])
 ·have hH : grH g = true := by
   simp at hc0;simp only [grH, hc0.1.1.1, hc0.2, Bool.and_eq_true, decide_eq_true_eq, and_true, true_and];omega
  have hN := hH;simp only [grH, Bool.and_eq_true, decide_eq_true_eq, inr_iff] at hN;obtain ⟨n, hn⟩ : ∃ n : Nat, g.Nodes = n := ⟨g.Nodes.toNat, by omega⟩;have f0 : Fits n 9 := fits_of (by omega) (by omega);have wn : IntKind.i64.wrap ((n : Int) - 1) = (n : Int) - 1 := wrap_in (by omega) (by omega);have hz1 : List.replicate n [AV.v (Value.int .i64 0)] = (degR n []).map nCell := rowz n _ fun k => rfl;have hz2 : (cntR n []).map nCell = (degR n []).map nCell := rfl;refine awp_skip ?_;simp only [zT, reduceIte, Nat.reduceEqDiff];refine hK1 _ _ ?_;refine awp_prune [1] ?_;simp only [zP, Nat.reduceEqDiff, reduceIte];refine awp_sd mixed rfl fun K hK => ?_;simp -dsimp [hn, f0];refine hK _ _ _ (by decide +kernel) ?_; clear hK K;refine awp_seq_k fun K2 hK2 => ?_;refine aS fun K hK => ?_;simp -dsimp;apply hK;clear hK K;refine awp_block ?_;refine awp_prune [1, 3, 4, 5] ?_;simp only [zP, Nat.reduceEqDiff, reduceIte];refine awp_loop_l [1, 3, 4] (α := Nat) (fun k => [(5, I k)]) (fun k => [some (.els 4 [g.cells]), some (.els 1 ((degR n (g.Wires.take k)).map nCell)), some (.els 1 ((cntR n []).map nCell))]) (fun k => k ≤ g.Wires.length ∧ ∀ i w, i < k → g.Wires[i]? = some w → wrB g w = true) (fun k => g.Wires.length - k) 0 ?_ ?_ ?_
  ·exact ⟨Nat.zero_le _, fun i w h => by omega⟩
  ·exact sub_rb [some 0, some 1, some 2] rfl (by simp) (by simp [hn, hz1, hz2])
  rintro k ⟨k1, k2⟩;simp only [zP, Nat.reduceEqDiff, reduceIte];refine awp_seq_k fun K3 hK3 => ?_;refine aS fun K hK => ?_;simp -dsimp;apply hK;clear hK K;refine awp_cond rfl (fun hc1 => ?_) (fun hc1 => ?_)
  ·have hkl : k < g.Wires.length := by simpa using hc1
   obtain ⟨w, hw⟩ : ∃ w, g.Wires[k]? = some w := ⟨_, List.getElem?_eq_getElem hkl⟩;have wk := zW k (by omega);refine awp_skip ?_;simp only [zT, reduceIte, Nat.reduceEqDiff];refine hK3 _ _ ?_;refine awp_prune [1, 3, 4, 5] ?_;simp only [zP, Nat.reduceEqDiff, reduceIte];refine awp_seq_k fun K4 hK4 => ?_;refine awp_block ?_;refine aS fun K hK => ?_;simp -dsimp [hw];apply hK;clear hK K;refine awp_seq_k fun K5 hK5 => ?_;refine aS fun K hK => ?_;simp -dsimp [hn, wn];refine callK_intro _ (c_rin _ _ _) (by simp) ?_;simp -dsimp [hn, wn];refine callK_may _ (fun hm => c_rin w.B 0 ((n : Int) - 1)) (by simp) ?_;simp -dsimp [hn, wn];refine callK_may _ (fun hm => c_rin w.Siem 1 4) (by simp) ?_;simp -dsimp [hn, wn];apply hK;clear hK K;refine awp_cond rfl (fun hc2 => ?_) (fun hc2 => ?_)
   ·have hwr : wrB g w = !(!inr w.A 0 ((n : Int) - 1) || !inr w.B 0 ((n : Int) - 1) || w.A == w.B || !inr w.Siem 1 4) := by
     simp only [wrB, beq_d, hn]
     cases inr w.A 0 ((n : Int) - 1) <;> cases inr w.B 0 ((n : Int) - 1) <;> cases decide (w.A = w.B) <;> cases inr w.Siem 1 4 <;> rfl
    refine aS fun K hK => ?_;simp -dsimp;apply hK;clear hK K;have hwf : wrB g w = false := by rw [hwr, hc2]; rfl
    exact awp_ret (by simp [grB_w hw (by rw [hwf]; rfl)])
   ·have hwr : wrB g w = !(!inr w.A 0 ((n : Int) - 1) || !inr w.B 0 ((n : Int) - 1) || w.A == w.B || !inr w.Siem 1 4) := by
     simp only [wrB, beq_d, hn]
     cases inr w.A 0 ((n : Int) - 1) <;> cases inr w.B 0 ((n : Int) - 1) <;> cases decide (w.A = w.B) <;> cases inr w.Siem 1 4 <;> rfl
    have hwo : wrB g w = true := by rw [hwr, hc2]; rfl
    have hwb := hwo;simp only [wrB, Bool.and_eq_true, inr_iff, Bool.not_eq_true', decide_eq_false_iff_not, hn] at hwb;obtain ⟨a, ha⟩ : ∃ a : Nat, w.A = a := ⟨w.A.toNat, by omega⟩;obtain ⟨b, hb⟩ : ∃ b : Nat, w.B = b := ⟨w.B.toNat, by omega⟩;have han : a < n := by omega
    have hbn : b < n := by omega
    have hab : a ≠ b := by omega
    have hst := degR_set (n := n) hw ha hb hab;have ga := degR_get (l := g.Wires.take k) han;have gb := degR_get (l := g.Wires.take k) hbn;have hd := fun x => deg_nn x (g.Wires.take k);have hlt : (g.Wires.take k).length ≤ k := by rw [List.length_take]; omega
    have hdl := degR_len n (g.Wires.take k);have wa : IntKind.i64.wrap (deg (g.Wires.take k) a + 1) = deg (g.Wires.take k) a + 1 := by have := hd a; exact wrap_in (by omega) (by omega)
    have wb : IntKind.i64.wrap (deg (g.Wires.take k) b + 1) = deg (g.Wires.take k) b + 1 := by have := hd b; exact wrap_in (by omega) (by omega)
    generalize degR n (g.Wires.take k) = dr at hst ga gb hdl ⊢;have hal : a < dr.length := by omega
    have hbl : b < dr.length := by omega
    have hga : dr[a] = deg (g.Wires.take k) a := Option.some.inj (by rw [← List.getElem?_eq_getElem hal]; exact ga);have hgb : dr[b] = deg (g.Wires.take k) b := Option.some.inj (by rw [← List.getElem?_eq_getElem hbl]; exact gb);refine awp_skip ?_;simp only [zT, reduceIte, Nat.reduceEqDiff];refine hK5 _ _ ?_;refine awp_prune [1, 3, 4, 5, 6] ?_;simp only [zP, Nat.reduceEqDiff, reduceIte];refine aS fun K hK => ?_;simp -dsimp [ha, hal, han, hga, wa];apply hK;clear hK K;refine aR fun K hK => ?_;simp -dsimp [hb, hbl, hbn, hgb, wb, hab];apply hK;clear hK K;simp only [zT, reduceIte, Nat.reduceEqDiff];refine hK4 _ _ ?_;refine awp_prune [1, 3, 4, 5] ?_;simp only [zP, Nat.reduceEqDiff, reduceIte];refine aR fun K hK => ?_;simp -dsimp [wk];apply hK;clear hK K;simp only [zT, reduceIte, Nat.reduceEqDiff];refine ⟨k + 1, ⟨by omega, fun i w' hi hw' => ?_⟩, by omega, sub_rb [some 0, some 1, some 2] rfl (by simp) (by simp [← hst, List.map_set, nCell, hn])⟩
    rcases Nat.lt_succ_iff_lt_or_eq.1 hi with h | h
    ·exact k2 i w' h hw'
    ·subst h;rw [hw] at hw';rw [← Option.some.inj hw']; exact hwo
  ·have hke : k = g.Wires.length := by have hx : ¬ k < g.Wires.length := (by simpa using hc1); omega
   subst hke;rw [List.take_of_length_le (Nat.le_refl _)];refine awp_exit ?_;simp only [zT, reduceIte, Nat.reduceEqDiff];refine hK2 _ _ ?_;refine awp_prune [1, 3, 4] ?_;simp only [zP, Nat.reduceEqDiff, reduceIte];refine awp_seq_k fun K6 hK6 => ?_;refine aS fun K hK => ?_;simp -dsimp;apply hK;clear hK K;refine awp_block ?_;refine awp_prune [1, 3, 4, 7] ?_;simp only [zP, Nat.reduceEqDiff, reduceIte];refine awp_loop_l [1, 3, 4] (α := Nat) (fun k => [(7, I k)]) (fun k => [some (.els 4 [g.cells]), some (.els 1 ((degR n g.Wires).map nCell)), some (.els 1 ((cntR n (fAt (g.Feeds.take k))).map nCell))]) (fun k => k ≤ g.Feeds.length ∧ ∀ i f, i < k → g.Feeds[i]? = some f → fdR g f = true) (fun k => g.Feeds.length - k) 0 ?_ ?_ ?_
   ·exact ⟨Nat.zero_le _, fun i w h => by omega⟩
   ·exact sub_rb [some 0, some 1, some 2] rfl (by simp) (by simp)
   rintro i ⟨i1, i2⟩;simp only [zP, Nat.reduceEqDiff, reduceIte];refine awp_seq_k fun K7 hK7 => ?_;refine aS fun K hK => ?_;simp -dsimp;apply hK;clear hK K;refine awp_cond rfl (fun hc3 => ?_) (fun hc3 => ?_)
   ·have hil : i < g.Feeds.length := by simpa using hc3
    obtain ⟨f, hf⟩ : ∃ f, g.Feeds[i]? = some f := ⟨_, List.getElem?_eq_getElem hil⟩;have wi := zW i (by omega);refine awp_skip ?_;simp only [zT, reduceIte, Nat.reduceEqDiff];refine hK7 _ _ ?_;refine awp_prune [1, 3, 4, 7] ?_;simp only [zP, Nat.reduceEqDiff, reduceIte];refine awp_seq_k fun K8 hK8 => ?_;refine awp_block ?_;refine aS fun K hK => ?_;simp -dsimp [hf];apply hK;clear hK K;refine awp_seq_k fun K9 hK9 => ?_;refine aS fun K hK => ?_;simp -dsimp [hn, wn];refine callK_intro _ (c_rin _ _ _) (by simp) ?_;simp -dsimp [hn, wn];refine callK_may _ (fun hm => c_rin f.Volts 1 1000) (by simp) ?_;simp -dsimp [hn, wn];refine callK_may _ (fun hm => c_rin f.Siem 1 4) (by simp) ?_;simp -dsimp [hn, wn];refine callK_may _ (fun hm => c_rin f.Limit 0 2000) (by simp) ?_;simp -dsimp [hn, wn];apply hK;clear hK K;refine awp_cond rfl (fun hc4 => ?_) (fun hc4 => ?_)
    ·have hfd : fdR g f = !(!inr f.At 0 ((n : Int) - 1) || !inr f.Volts 1 1000 || !inr f.Siem 1 4 || !inr f.Limit 0 2000) := by
      simp only [fdR, hn]
      cases inr f.At 0 ((n : Int) - 1) <;> cases inr f.Volts 1 1000 <;> cases inr f.Siem 1 4 <;> cases inr f.Limit 0 2000 <;> rfl
     refine aS fun K hK => ?_;simp -dsimp;apply hK;clear hK K;have hff : fdR g f = false := by rw [hfd, hc4]; rfl
     have hfb : fdB g (g.Feeds.take i) f = false := by
      have : fdB g (g.Feeds.take i) f = (fdR g f && !((g.Feeds.take i).any fun x => decide (x.At = f.At))) := rfl;rw [this, hff]; rfl
     exact awp_ret (by simp [grB_f hf hfb])
    ·have hfd : fdR g f = !(!inr f.At 0 ((n : Int) - 1) || !inr f.Volts 1 1000 || !inr f.Siem 1 4 || !inr f.Limit 0 2000) := by
      simp only [fdR, hn]
      cases inr f.At 0 ((n : Int) - 1) <;> cases inr f.Volts 1 1000 <;> cases inr f.Siem 1 4 <;> cases inr f.Limit 0 2000 <;> rfl
     have hfo : fdR g f = true := by rw [hfd, hc4]; rfl
     have hfb := hfo;simp only [fdR, Bool.and_eq_true, inr_iff, hn] at hfb;obtain ⟨a, ha⟩ : ∃ a : Nat, f.At = a := ⟨f.At.toNat, by omega⟩;have han : a < n := by omega
     have hst := cntR_set (n := n) (l := fAt (g.Feeds.take i)) (a := a);have e2 : fAt (g.Feeds.take (i + 1)) = fAt (g.Feeds.take i) ++ [(a : Int)] := by rw [fAt_snoc hf, ha]
     rw [← e2] at hst;have ga := cntR_get (l := fAt (g.Feeds.take i)) han;have hd := cntA_nn (a : Int) (fAt (g.Feeds.take i));have hlt : (fAt (g.Feeds.take i)).length ≤ i := by unfold fAt; rw [List.length_map, List.length_take]; omega
     have hdl := cntR_len n (fAt (g.Feeds.take i));have wa : IntKind.i64.wrap (cntA (fAt (g.Feeds.take i)) a + 1) = cntA (fAt (g.Feeds.take i)) a + 1 := wrap_in (by omega) (by omega);generalize cntA (fAt (g.Feeds.take i)) a = ca at hst ga wa;generalize cntR n (fAt (g.Feeds.take i)) = cr at hst ga hdl ⊢;have hal : a < cr.length := by omega
     have hga : cr[a] = ca := Option.some.inj (by rw [← List.getElem?_eq_getElem hal]; exact ga);refine awp_skip ?_;simp only [zT, reduceIte, Nat.reduceEqDiff];refine hK9 _ _ ?_;refine awp_prune [1, 3, 4, 7, 8] ?_;simp only [zP, Nat.reduceEqDiff, reduceIte];refine aR fun K hK => ?_;simp -dsimp [ha, hal, han, hga, wa];apply hK;clear hK K;simp only [zT, reduceIte, Nat.reduceEqDiff];refine hK8 _ _ ?_;refine awp_prune [1, 3, 4, 7] ?_;simp only [zP, Nat.reduceEqDiff, reduceIte];refine aR fun K hK => ?_;simp -dsimp [wi];apply hK;clear hK K;simp only [zT, reduceIte, Nat.reduceEqDiff];refine ⟨i + 1, ⟨by omega, fun j w' hj hw' => ?_⟩, by omega, sub_rb [some 0, some 1, some 2] rfl (by simp) (by simp [← hst, List.map_set, nCell, hn])⟩
     rcases Nat.lt_succ_iff_lt_or_eq.1 hj with h | h
     ·exact i2 j w' h hw'
     ·subst h;rw [hf] at hw';rw [← Option.some.inj hw']; exact hfo
   ·have hie : i = g.Feeds.length := by have hx : ¬ i < g.Feeds.length := (by simpa using hc3); omega
    subst hie;rw [List.take_of_length_le (Nat.le_refl _)];refine awp_exit ?_;simp only [zT, reduceIte, Nat.reduceEqDiff];refine hK6 _ _ ?_;refine awp_prune [1, 3, 4] ?_;simp only [zP, Nat.reduceEqDiff, reduceIte];refine awp_seq_k fun K10 hK10 => ?_;refine aS fun K hK => ?_;simp -dsimp;apply hK;clear hK K;refine awp_block ?_;refine awp_prune [1, 3, 4, 9] ?_;simp only [zP, Nat.reduceEqDiff, reduceIte];refine awp_loop_l [1, 3, 4] (α := Nat) (fun k => [(9, I k)]) (fun k => [some (.els 4 [g.cells]), some (.els 1 ((degR n g.Wires).map nCell)), some (.els 1 ((cntR n (fAt g.Feeds)).map nCell))]) (fun k => k ≤ n ∧ ∀ j : Nat, j < k → deg g.Wires j ≤ 3 ∧ cntA (fAt g.Feeds) j ≤ 1) (fun k => n - k) 0 ?_ ?_ ?_
    ·exact ⟨Nat.zero_le _, fun i h => by omega⟩
    ·exact sub_rb [some 0, some 1, some 2] rfl (by simp) (by simp)
    rintro j ⟨j1, j2⟩;simp only [zP, Nat.reduceEqDiff, reduceIte];refine awp_seq_k fun K11 hK11 => ?_;refine aS fun K hK => ?_;simp -dsimp [hn];apply hK;clear hK K;refine awp_cond rfl (fun hc5 => ?_) (fun hc5 => ?_)
    ·have hjn : j < n := by simpa using hc5
     have wj := zW j (by omega);have ga := degR_get (l := g.Wires) hjn;have gb := cntR_get (l := fAt g.Feeds) hjn;have hdl := degR_len n g.Wires;have hcl := cntR_len n (fAt g.Feeds);have hal : j < (degR n g.Wires).length := by omega
     have hbl : j < (cntR n (fAt g.Feeds)).length := by omega
     have hga : (degR n g.Wires)[j] = deg g.Wires j := Option.some.inj (by rw [← List.getElem?_eq_getElem hal]; exact ga);have hgb : (cntR n (fAt g.Feeds))[j] = cntA (fAt g.Feeds) j := Option.some.inj (by rw [← List.getElem?_eq_getElem hbl]; exact gb);refine awp_skip ?_;simp only [zT, reduceIte, Nat.reduceEqDiff];refine hK11 _ _ ?_;refine awp_prune [1, 3, 4, 9] ?_;simp only [zP, Nat.reduceEqDiff, reduceIte];refine awp_seq_k fun K12 hK12 => ?_;refine awp_block ?_;refine aS fun K hK => ?_;simp -dsimp [hal, hbl, hjn, hga, hgb];apply hK;clear hK K;refine awp_cond rfl (fun hc6 => ?_) (fun hc6 => ?_)
     ·refine aS fun K hK => ?_;simp -dsimp;apply hK;clear hK K;have hf : grB g = false := by
       cases h : grB g with
       | false => rfl
       | true =>
        have h1 := deg_le h (j : Int);have h2 := grB_cnt h (j : Int);simp at hc6;omega
      exact awp_ret (by simp [hf])
     ·refine awp_skip ?_;simp only [zT, reduceIte, Nat.reduceEqDiff];refine hK12 _ _ ?_;refine awp_prune [1, 3, 4, 9] ?_;simp only [zP, Nat.reduceEqDiff, reduceIte];refine aR fun K hK => ?_;simp -dsimp [wj];apply hK;clear hK K;simp only [zT, reduceIte, Nat.reduceEqDiff];refine ⟨j + 1, ⟨by omega, fun q hq => ?_⟩, by omega, sub_rb [some 0, some 1, some 2] rfl (by simp) (by simp [hn])⟩
      rcases Nat.lt_succ_iff_lt_or_eq.1 hq with h | h
      ·exact j2 q h
      ·subst h;simp at hc6;omega
    ·have hje : ¬ j < n := by simpa using hc5
     refine awp_exit ?_;simp only [zT, reduceIte, Nat.reduceEqDiff];refine hK10 _ _ ?_;refine awp_prune [] ?_;simp only [zP, Nat.reduceEqDiff, reduceIte];refine aS fun K hK => ?_;simp -dsimp;apply hK;clear hK K;have ht : grB g = true := grB_of hH (fun k w hw => k2 k w (List.getElem?_eq_some_iff.1 hw).1 hw) (fun k f hf => i2 k f (List.getElem?_eq_some_iff.1 hf).1 hf) (fun k hk => j2 k (by omega));exact awp_ret (by simp [ht])
theorem c_rState (g : Gr) (s : Sta) (hw0 : g.Wires.length ≤ 100000) : PureCall Try.prog 43 [g.av, s.av] (Bo (stB g s)) := by
 refine PureCall.of_body Try.func43 rfl (by decide) (by simp [Try.ntmps43]) ?_;simp only [Try.ntmps43, Try.results43];refine aS fun K hK => ?_;simp -dsimp;apply hK;clear hK K;refine awp_seq_k fun K1 hK1 => ?_;refine aS fun K hK => ?_;simp -dsimp;apply hK;clear hK K;refine awp_cond rfl (fun hc0 => ?_) (fun hc0 => ?_)
 ·refine aS fun K hK => ?_;simp -dsimp;apply hK;clear hK K;have hf : stB g s = false := by
   cases hh : stB g s with
   | false => rfl
   | true =>
    simp only [stB, Bool.and_eq_true, decide_eq_true_eq] at hh;simp [hh.1.1, hh.1.2] at hc0
  exact awp_ret (by simp [hf])
 ·have hl : s.Feeds.length = g.Feeds.length ∧ s.Wires.length = g.Wires.length := by simp at hc0; omega
  refine awp_skip ?_;simp only [zT, reduceIte, Nat.reduceEqDiff];refine hK1 _ _ ?_;refine awp_prune [2, 3] ?_;simp only [zP, Nat.reduceEqDiff, reduceIte];refine awp_seq_k fun K2 hK2 => ?_;refine aS fun K hK => ?_;simp -dsimp;apply hK;clear hK K;refine awp_block ?_;refine awp_prune [2, 3, 5] ?_;simp only [zP, Nat.reduceEqDiff, reduceIte];refine awp_loop_l [2, 3] (α := Nat) (fun k => [(5, I k)]) (fun k => [some (.els 4 [g.cells]), some (.els 2 [s.cells])]) (fun k => k ≤ g.Wires.length ∧ swTo g s k = true) (fun k => g.Wires.length - k) 0 ?_ ?_ ?_
  ·exact ⟨Nat.zero_le _, rfl⟩
  ·exact sub_rb [some 0, some 1] rfl (by simp) (by simp)
  rintro k ⟨k1, k2⟩;simp only [zP, Nat.reduceEqDiff, reduceIte];refine awp_seq_k fun K3 hK3 => ?_;refine aS fun K hK => ?_;simp -dsimp;apply hK;clear hK K;refine awp_cond rfl (fun hc1 => ?_) (fun hc1 => ?_)
  ·have hkl : k < g.Wires.length := by simpa using hc1
   obtain ⟨w, hw⟩ : ∃ w, g.Wires[k]? = some w := ⟨_, List.getElem?_eq_getElem hkl⟩;have wk := zW k (by omega);have gb := bAt_get (l := s.Wires) (k := k) (by omega);refine awp_skip ?_;simp only [zT, reduceIte, Nat.reduceEqDiff];refine hK3 _ _ ?_;refine awp_prune [2, 3, 5] ?_;simp only [zP, Nat.reduceEqDiff, reduceIte];refine awp_seq_k fun K4 hK4 => ?_;refine awp_block ?_;refine aS fun K hK => ?_;simp -dsimp [hw, gb, hl.2];refine idxK_intro (bCell (bAt s.Wires k)) (fun _ => by simp [gb]) ?_;simp -dsimp [hw, gb, hl.2];apply hK;clear hK K;refine awp_cond rfl (fun hc2 => ?_) (fun hc2 => ?_)
   ·refine aS fun K hK => ?_;simp -dsimp;apply hK;clear hK K;have hfl : (w.Sw || bAt s.Wires k) = false := by cases hw1 : w.Sw <;> cases hb1 : bAt s.Wires k <;> simp [hw1, hb1] at hc2 ⊢
    have h1 : swTo g s (k + 1) = false := by simp only [swTo, hw, hfl, Bool.and_false]
    have h2 := swTo_ff h1 (g.Wires.length - (k + 1));rw [show k + 1 + (g.Wires.length - (k + 1)) = g.Wires.length by omega] at h2;exact awp_ret (by simp [stB, h2])
   ·refine awp_skip ?_;simp only [zT, reduceIte, Nat.reduceEqDiff];refine hK4 _ _ ?_;refine awp_prune [2, 3, 5] ?_;simp only [zP, Nat.reduceEqDiff, reduceIte];refine aR fun K hK => ?_;simp -dsimp [wk];apply hK;clear hK K;simp only [zT, reduceIte, Nat.reduceEqDiff];refine ⟨k + 1, ⟨by omega, ?_⟩, by omega, sub_rb [some 0, some 1] rfl (by simp) (by simp)⟩;simp only [swTo, k2, hw, Bool.true_and]
    cases hw1 : w.Sw <;> cases hb1 : bAt s.Wires k <;> simp [hw1, hb1] at hc2 ⊢
  ·have hke : k = g.Wires.length := by have hx : ¬ k < g.Wires.length := (by simpa using hc1); omega
   subst hke;refine awp_exit ?_;simp only [zT, reduceIte, Nat.reduceEqDiff];refine hK2 _ _ ?_;refine awp_prune [] ?_;simp only [zP, Nat.reduceEqDiff, reduceIte];refine aS fun K hK => ?_;simp -dsimp;apply hK;clear hK K;exact awp_ret (by simp [stB, hl.1, hl.2, k2])
def lAt (l : List Ld) : List Int := l.map fun f => f.At
@[simp] theorem lAt_nil : lAt [] = [] := rfl
theorem any_lat {l : List Ld} {x : Int} : (l.any fun f => decide (f.At = x)) = decide (x ∈ lAt l) := by
 unfold lAt;rw [Bool.eq_iff_iff]; simp
theorem c_rLoads (g : Gr) (l : List Ld) (n : Nat) (hn : g.Nodes = n) (hn1 : 0 < n) (hn0 : n ≤ 1000) (hl0 : l.length ≤ 100000) : PureCall Try.prog 58 [g.av, lL l] (Bo (ldTo g l l.length)) := by
 have f0 : Fits n 9 := fits_of (by omega) (by omega);have wn : IntKind.i64.wrap ((n : Int) - 1) = (n : Int) - 1 := wrap_in (by omega) (by omega);have hz : List.replicate n [AV.v (Value.int .i64 0)] = (cntR n []).map nCell := rowz n _ fun k => rfl;refine PureCall.of_body Try.func58 rfl (by decide) (by simp [Try.ntmps58]) ?_;simp only [Try.ntmps58, Try.results58];refine aS fun K hK => ?_;simp -dsimp;apply hK;clear hK K;refine aS fun K hK => ?_;simp -dsimp [hn, f0];apply hK;clear hK K;refine awp_seq_k fun K1 hK1 => ?_;refine aS fun K hK => ?_;simp -dsimp;apply hK;clear hK K;refine awp_block ?_;refine awp_prune [1, 2, 5, 6] ?_;simp only [zP, Nat.reduceEqDiff, reduceIte];refine awp_loop_l [1, 2, 5] (α := Nat) (fun k => [(6, I k)]) (fun k => [some (.els 4 [g.cells]), some (.els 1 ((cntR n (lAt (l.take k))).map nCell))]) (fun k => k ≤ l.length ∧ ldTo g l k = true) (fun k => l.length - k) 0 ?_ ?_ ?_
 ·exact ⟨Nat.zero_le _, rfl⟩
 ·exact sub_rb [some 0, some 1] rfl (by simp) (by simp [hn, hz])
 rintro k ⟨k1, k2⟩;simp only [zP, Nat.reduceEqDiff, reduceIte];refine awp_seq_k fun K2 hK2 => ?_;refine aS fun K hK => ?_;simp -dsimp;apply hK;clear hK K;refine awp_cond rfl (fun hc0 => ?_) (fun hc0 => ?_)
 ·have hkl : k < l.length := by simpa using hc0
  have wk := zW k (by omega);obtain ⟨f, hf⟩ : ∃ f, l[k]? = some f := ⟨_, List.getElem?_eq_getElem hkl⟩;have hfd : ldB g (l.take k) f = !(!inr f.At 0 ((n : Int) - 1) || !inr f.Units (-40) 40 || !inr f.Rank 0 100 || !decide (cntA (lAt (l.take k)) f.At = 0)) := by
   have e : ((l.take k).any fun x => decide (x.At = f.At)) = !decide (cntA (lAt (l.take k)) f.At = 0) := by
    rw [any_lat, ← decide_not];exact decide_eq_decide.2 (by rw [cntA_zero, Decidable.not_not])
   simp only [ldB, hn, e]
   cases inr f.At 0 ((n : Int) - 1) <;> cases inr f.Units (-40) 40 <;> cases inr f.Rank 0 100 <;> cases decide (cntA (lAt (l.take k)) f.At = 0) <;> rfl
  have hcn := cntA_nn f.At (lAt (l.take k));have hlt : (lAt (l.take k)).length ≤ k := by unfold lAt; rw [List.length_map, List.length_take]; omega
  have hcl := cntR_len n (lAt (l.take k));have hn0l : 0 < (cntR n (lAt (l.take k))).length := by omega
  have hend : ldB g (l.take k) f = false → ldTo g l l.length = false := fun h => by
   have h1 : ldTo g l (k + 1) = false := by simp only [ldTo, hf, h, Bool.and_false]
   have h2 := ldTo_ff h1 (l.length - (k + 1))
   rwa [show k + 1 + (l.length - (k + 1)) = l.length by omega] at h2
  refine awp_skip ?_;simp only [zT, reduceIte, Nat.reduceEqDiff];refine hK2 _ _ ?_;refine awp_prune [1, 2, 5, 6] ?_;simp only [zP, Nat.reduceEqDiff, reduceIte];refine awp_seq_k fun K3 hK3 => ?_;refine awp_block ?_;refine awp_seq_k fun K4 hK4 => ?_;have hcase : inr f.At 0 ((n : Int) - 1) = true → 0 ≤ f.At ∧ f.At.toNat < n := fun h => by rw [inr_iff] at h; omega
  obtain ⟨iA, hiA⟩ : ∃ iA, iA = inr f.At 0 ((n : Int) - 1) := ⟨_, rfl⟩
  cases iA
  all_goals have hin := hiA.symm
  rotate_left
  obtain ⟨hA0, hat⟩ := hcase hin;have hal : f.At.toNat < (cntR n (lAt (l.take k))).length := by omega
  have hga : (cntR n (lAt (l.take k)))[f.At.toNat] = cntA (lAt (l.take k)) f.At := Option.some.inj (by rw [← List.getElem?_eq_getElem hal, cntR_get hat, Int.toNat_of_nonneg hA0])
  rotate_left
  ·refine awp_sd mixed rfl fun K hK => ?_;simp -dsimp [hf, hn, wn, hin, hn0l, hn1];refine callK_intro _ (c_rin _ _ _) (by simp) ?_;simp -dsimp [hf, hn, wn, hin, hn0l, hn1];refine idxK_intro ((⟨0, 0, 0⟩ : Ld).cells) (fun hm => by simp [hin] at hm) ?_;simp -dsimp [hf, hn, wn, hin, hn0l, hn1];refine callK_may _ (fun hm => c_rin 0 (-40) 40) (by simp) ?_;simp -dsimp [hf, hn, wn, hin, hn0l, hn1];refine idxK_intro ((⟨0, 0, 0⟩ : Ld).cells) (fun hm => by simp [hin] at hm) ?_;simp -dsimp [hf, hn, wn, hin, hn0l, hn1];refine callK_may _ (fun hm => c_rin 0 0 100) (by simp) ?_;simp -dsimp [hf, hn, wn, hin, hn0l, hn1];refine idxK_intro ((⟨0, 0, 0⟩ : Ld).cells) (fun hm => by simp [hin] at hm) ?_;simp -dsimp [hf, hn, wn, hin, hn0l, hn1];refine hK _ _ _ (by decide +kernel) ?_; clear hK K;refine awp_cond rfl (fun hc1 => ?_) (fun hc1 => ?_)
   ·refine aS fun K hK => ?_;simp -dsimp;apply hK;clear hK K;exact awp_ret (by simp [hend (by rw [hfd, hin]; rfl)])
   ·simp [hin] at hc1
  ·refine awp_sd mixed rfl fun K hK => ?_;simp -dsimp [hf, hn, wn, hin, hA0, hat, hal, hga];refine callK_intro _ (c_rin _ _ _) (by simp) ?_;simp -dsimp [hf, hn, wn, hin, hA0, hat, hal, hga];refine idxK_intro f.cells (fun _ => by simp [hf]) ?_;simp -dsimp [hf, hn, wn, hin, hA0, hat, hal, hga];refine callK_may _ (fun hm => c_rin f.Units (-40) 40) (by simp) ?_;simp -dsimp [hf, hn, wn, hin, hA0, hat, hal, hga];refine idxK_intro f.cells (fun _ => by simp [hf]) ?_;simp -dsimp [hf, hn, wn, hin, hA0, hat, hal, hga];refine callK_may _ (fun hm => c_rin f.Rank 0 100) (by simp) ?_;simp -dsimp [hf, hn, wn, hin, hA0, hat, hal, hga];refine idxK_intro f.cells (fun _ => by simp [hf]) ?_;simp -dsimp [hf, hn, wn, hin, hA0, hat, hal, hga];refine hK _ _ _ (by decide +kernel) ?_; clear hK K;refine awp_cond rfl (fun hc1 => ?_) (fun hc1 => ?_)
   ·refine aS fun K hK => ?_;simp -dsimp;apply hK;clear hK K;have hlf : ldB g (l.take k) f = false := by
     rw [hfd, hin]
     cases h1 : inr f.Units (-40) 40 <;> cases h2 : inr f.Rank 0 100 <;> simp [h1, h2] at hc1 ⊢
     omega
    exact awp_ret (by simp [hend hlf])
   ·have hlt2 : ldB g (l.take k) f = true := by
     rw [hfd, hin]
     cases h1 : inr f.Units (-40) 40 <;> cases h2 : inr f.Rank 0 100 <;> simp [h1, h2] at hc1 ⊢
     omega
    have hst := cntR_set (n := n) (l := lAt (l.take k)) (a := f.At.toNat);rw [Int.toNat_of_nonneg hA0] at hst;have hsn : lAt (l.take (k + 1)) = lAt (l.take k) ++ [f.At] := by unfold lAt; rw [List.take_add_one, hf]; simp
    rw [← hsn] at hst;have wa : IntKind.i64.wrap (cntA (lAt (l.take k)) f.At + 1) = cntA (lAt (l.take k)) f.At + 1 := wrap_in (by omega) (by omega);refine awp_skip ?_;simp only [zT, reduceIte, Nat.reduceEqDiff];refine hK4 _ _ ?_;refine awp_prune [1, 2, 5, 6] ?_;simp only [zP, Nat.reduceEqDiff, reduceIte];refine aR fun K hK => ?_;simp -dsimp [hf, hA0, hat, hal, hga, wa];apply hK;clear hK K;simp only [zT, reduceIte, Nat.reduceEqDiff];refine hK3 _ _ ?_;refine awp_prune [1, 2, 5, 6] ?_;simp only [zP, Nat.reduceEqDiff, reduceIte];refine aR fun K hK => ?_;simp -dsimp [wk];apply hK;clear hK K;simp only [zT, reduceIte, Nat.reduceEqDiff];refine ⟨k + 1, ⟨by omega, ?_⟩, by omega, sub_rb [some 0, some 1] rfl (by simp) (by simp [← hst, List.map_set, nCell, hn])⟩;simp only [ldTo, k2, hf, hlt2, Bool.and_self]
 ·have hke : k = l.length := by have hx : ¬ k < l.length := (by simpa using hc0); omega
  subst hke;refine awp_exit ?_;simp only [zT, reduceIte, Nat.reduceEqDiff];refine hK1 _ _ ?_;refine awp_prune [] ?_;simp only [zP, Nat.reduceEqDiff, reduceIte];refine aS fun K hK => ?_;simp -dsimp;apply hK;clear hK K;exact awp_ret (by simp [k2])
theorem c_rFine (g : Gr) (s : Sta) (l : List Ld) (hw0 : g.Wires.length ≤ 100000) (hf0 : g.Feeds.length ≤ 100000) (hl0 : l.length ≤ 100000) : PureCall Try.prog 32 [g.av, s.av, lL l] (Bo (fineB g s l)) := by
 have hg := c_rGrid g hw0 hf0;have hs := c_rState g s hw0;have hl : grB g = true → PureCall Try.prog 58 [g.av, lL l] (Bo (ldTo g l l.length)) := fun h => by
  have hbd := grB_bd h;exact c_rLoads g l g.Nodes.toNat (by omega) (by omega) (by omega) hl0
 refine PureCall.of_body Try.func32 rfl (by decide) (by simp [Try.ntmps32]) ?_;simp only [Try.ntmps32, Try.results32];refine aS fun K hK => ?_;simp -dsimp;apply hK;clear hK K;refine aS fun K hK => ?_;simp -dsimp;refine callK_intro _ (hg) (by simp) ?_;simp -dsimp;refine callK_may _ (fun hm => hs) (by simp) ?_;simp -dsimp;refine callK_may _ (fun hm => hl (by simp at hm; exact hm.1)) (by simp) ?_;simp -dsimp;apply hK;clear hK K;exact awp_ret (by simp [fineB])
end Go.Cur
end
section
namespace Go.Cur
open Go.AM Go.Proofs
def nmS (n : Nat) (f : Nat → Nat) : List Int := (List.range n).map fun (k : Nat) => ((f k : Nat) : Int)
theorem nmS_get {n : Nat} {f : Nat → Nat} {k : Nat} (h : k < n) : (nmS n f)[k]? = some ((f k : Nat) : Int) := by
 unfold nmS;rw [List.getElem?_map, List.getElem?_range h]; rfl
theorem nmS_len (n : Nat) (f : Nat → Nat) : (nmS n f).length = n := by simp [nmS]
theorem nmS_set {n : Nat} {f : Nat → Nat} {a v : Nat} : (nmS n f).set a (v : Int) = nmS n fun k => if k = a then v else f k := by
 refine List.ext_getElem? fun i => ?_
 by_cases hi : i < n
 ·rw [nmS_get hi]
  by_cases h2 : i = a
  ·subst h2;rw [List.getElem?_set_self (by simp [nmS]; omega), if_pos rfl]
  ·rw [List.getElem?_set_ne (fun e => h2 e.symm), nmS_get hi, if_neg h2]
 ·rw [List.getElem?_eq_none (by simp [nmS]; omega), List.getElem?_eq_none (by simp [nmS]; omega)]
theorem nmS_congr {n : Nat} {f h : Nat → Nat} (e : ∀ k, k < n → f k = h k) : nmS n f = nmS n h := by
 unfold nmS;exact List.map_congr_left fun k hk => by rw [e k (List.mem_range.1 hk)]
theorem onW_sn {l : List Wr} {b : List Bool} {k : Nat} {w : Wr} {c : Bool} (hl : l[k]? = some w) (hb : b[k]? = some c) : onW (l.take (k + 1)) (b.take (k + 1)) = onW (l.take k) (b.take k) ++ if c = true then [⟨w.A.toNat, w.B.toNat, w.Siem⟩] else [] := by
 have hk := (List.getElem?_eq_some_iff.1 hl).1;have hk2 := (List.getElem?_eq_some_iff.1 hb).1;unfold onW;rw [List.take_add_one, List.take_add_one, hl, hb, List.zip_append (by simp; omega), List.filterMap_append]
 cases c <;> simp
theorem nmR_snoc (E : List (Nat × Nat)) (e : Nat × Nat) (f : Nat → Nat) : nmR (E ++ [e]) f = nmE (nmR E f) e := by
 unfold nmR;rw [List.foldl_append]; rfl
def hdL (E : List (Nat × Nat)) (n i : Nat) : List (List Nat) := ((List.range i).filter fun j => decide (nm E n j = j)).map (cp E n)
theorem hdL_succ (E : List (Nat × Nat)) (n i : Nat) : hdL E n (i + 1) = hdL E n i ++ if nm E n i = i then [cp E n i] else [] := by
 unfold hdL;rw [List.range_succ, List.filter_append, List.map_append]
 by_cases h : nm E n i = i <;> simp [h]
theorem hdL_len (E : List (Nat × Nat)) (n i : Nat) : (hdL E n i).length ≤ i := by
 unfold hdL;rw [List.length_map];have := List.length_filter_le (fun j => decide (nm E n j = j)) (List.range i);simpa using this
def ptL (E : List (Nat × Nat)) (n i k : Nat) : List Nat := (List.range k).filter fun q => decide (nm E n q = i)
theorem ptL_zero (E : List (Nat × Nat)) (n i : Nat) : ptL E n i i = [] := by
 unfold ptL;rw [List.filter_eq_nil_iff];intro q hq;have := nm_le (E := E) (n := n) (k := q);rw [List.mem_range] at hq;simp; omega
theorem ptL_succ (E : List (Nat × Nat)) (n i k : Nat) : ptL E n i (k + 1) = ptL E n i k ++ if nm E n k = i then [k] else [] := by
 unfold ptL;rw [List.range_succ, List.filter_append]
 by_cases h : nm E n k = i <;> simp [h]
theorem ptL_len (E : List (Nat × Nat)) (n i k : Nat) : (ptL E n i k).length ≤ k := by
 unfold ptL;have := List.length_filter_le (fun q => decide (nm E n q = i)) (List.range k);simpa using this
theorem c_rParts (g : Gr) (s : Sta) (hnt : NetOk g s) : PureCall Try.prog 23 [g.av, s.av] (.lst 1 ((partL g s).map pAV)) := by
 have hbd := grB_bd hnt.gr;have hsw := hnt.sw;have hwr := hnt.wires;have hwo : ∀ (k : Nat) w, g.Wires[k]? = some w → w.A.toNat < g.Nodes.toNat ∧ w.B.toNat < g.Nodes.toNat ∧ 0 ≤ w.A ∧ 0 ≤ w.B := fun k w hw => by
  have := hwr w (List.mem_of_getElem? hw);simp only [wrB, Bool.and_eq_true, inr_iff] at this;omega
 have hpl : partL g s = hdL (netE g s) g.Nodes.toNat g.Nodes.toNat := rfl;rw [hpl];have hEe : netE g s = edges (onW g.Wires s.Wires) := rfl;obtain ⟨n, hn⟩ : ∃ n : Nat, g.Nodes = n := ⟨g.Nodes.toNat, by omega⟩;have hnn : g.Nodes.toNat = n := by omega
 rw [hnn] at hwo ⊢;generalize netE g s = E at hEe ⊢;have f0 : Fits n 9 := fits_of (by omega) (by omega);have hz : List.replicate n [AV.v (Value.int .i64 0)] = (nmS n fun _ => 0).map nCell := rowz n _ fun k => rfl;refine PureCall.of_body Try.func23 rfl (by decide) (by simp [Try.ntmps23]) ?_;simp only [Try.ntmps23, Try.results23];refine aS fun K hK => ?_;simp -dsimp;apply hK;clear hK K;refine aS fun K hK => ?_;simp -dsimp [hn, f0];apply hK;clear hK K;refine awp_seq_k fun K1 hK1 => ?_;refine aS fun K hK => ?_;simp -dsimp;apply hK;clear hK K;refine awp_block ?_;refine awp_prune [2, 3, 5, 6] ?_;simp only [zP, Nat.reduceEqDiff, reduceIte];refine awp_loop_l [2, 3, 5] (α := Nat) (fun k => [(6, I k)]) (fun k => [some (.els 4 [g.cells]), some (.els 2 [s.cells]), some (.els 1 ((nmS n fun j => if j < k then j else 0).map nCell))]) (fun k => k ≤ n) (fun k => n - k) 0 ?_ ?_ ?_
 ·exact Nat.zero_le _
 ·exact sub_rb [some 0, some 1, some 2] rfl (by simp) (by simp [hn, hz])
 rintro k k1;simp only [zP, Nat.reduceEqDiff, reduceIte];refine awp_seq_k fun K2 hK2 => ?_;refine aS fun K hK => ?_;simp -dsimp [hn];apply hK;clear hK K;refine awp_cond rfl (fun hc0 => ?_) (fun hc0 => ?_)
 ·have hkl : k < n := by simpa using hc0
  have wk := zW k (by omega);have hnl := nmS_len n fun j => if j < k then j else 0;have hst := nmS_set (n := n) (f := fun j => if j < k then j else 0) (a := k) (v := k);have hst2 : nmS n (fun j => if j = k then k else if j < k then j else 0) = nmS n fun j => if j < k + 1 then j else 0 := nmS_congr fun j hj => by
   by_cases h1 : j = k
   ·rw [if_pos h1, if_pos (by omega), h1]
   ·rw [if_neg h1]
    by_cases h2 : j < k
    ·rw [if_pos h2, if_pos (by omega)]
    ·rw [if_neg h2, if_neg (by omega)]
  rw [hst2] at hst;generalize (nmS n fun j => if j < k then j else 0) = R at hnl hst ⊢;refine awp_skip ?_;simp only [zT, reduceIte, Nat.reduceEqDiff];refine hK2 _ _ ?_;refine awp_prune [2, 3, 5, 6] ?_;simp only [zP, Nat.reduceEqDiff, reduceIte];refine awp_seq_k fun K3 hK3 => ?_;refine awp_block ?_;refine aR fun K hK => ?_;simp -dsimp [hnl, hkl];apply hK;clear hK K;simp only [zT, reduceIte, Nat.reduceEqDiff];refine hK3 _ _ ?_;refine awp_prune [2, 3, 5, 6] ?_;simp only [zP, Nat.reduceEqDiff, reduceIte];refine aR fun K hK => ?_;simp -dsimp [wk];apply hK;clear hK K;simp only [zT, reduceIte, Nat.reduceEqDiff];exact ⟨k + 1, by omega, by omega, sub_rb [some 0, some 1, some 2] rfl (by simp) (by simp [← hst, List.map_set, nCell, hn])⟩
 ·have hke : k = n := by have hx : ¬ k < n := (by simpa using hc0); omega
  have e0 : nmS n (fun j => if j < k then j else 0) = nmS n (nmT E 0) := nmS_congr fun j hj => by rw [if_pos (by omega)]; rfl
  rw [e0];refine awp_exit ?_;simp only [zT, reduceIte, Nat.reduceEqDiff];refine hK1 _ _ ?_;refine awp_prune [2, 3, 5] ?_;simp only [zP, Nat.reduceEqDiff, reduceIte];refine awp_seq_k fun K4 hK4 => ?_;refine aS fun K hK => ?_;simp -dsimp;apply hK;clear hK K;refine awp_block ?_;refine awp_prune [2, 3, 5, 7] ?_;simp only [zP, Nat.reduceEqDiff, reduceIte];refine awp_loop_l [2, 3, 5] (α := Nat) (fun t => [(7, I t)]) (fun t => [some (.els 4 [g.cells]), some (.els 2 [s.cells]), some (.els 1 ((nmS n (nmT E t)).map nCell))]) (fun t => t ≤ n) (fun t => n - t) 0 ?_ ?_ ?_
  ·exact Nat.zero_le _
  ·exact sub_rb [some 0, some 1, some 2] rfl (by simp) (by simp [hn])
  rintro t t1;simp only [zP, Nat.reduceEqDiff, reduceIte];refine awp_seq_k fun K5 hK5 => ?_;refine aS fun K hK => ?_;simp -dsimp [hn];apply hK;clear hK K;refine awp_cond rfl (fun hc1 => ?_) (fun hc1 => ?_)
  ·have htl : t < n := by simpa using hc1
   have wt := zW t (by omega);refine awp_skip ?_;simp only [zT, reduceIte, Nat.reduceEqDiff];refine hK5 _ _ ?_;refine awp_prune [2, 3, 5, 7] ?_;simp only [zP, Nat.reduceEqDiff, reduceIte];refine awp_seq_k fun K6 hK6 => ?_;refine awp_block ?_;refine aS fun K hK => ?_;simp -dsimp;apply hK;clear hK K;refine awp_block ?_;refine awp_prune [2, 3, 5, 7, 8] ?_;simp only [zP, Nat.reduceEqDiff, reduceIte];refine awp_loop_l [2, 3, 5, 7] (α := Nat) (fun i => [(8, I i)]) (fun i => [some (.els 4 [g.cells]), some (.els 2 [s.cells]), some (.els 1 ((nmS n (nmR (edges (onW (g.Wires.take i) (s.Wires.take i))) (nmT E t))).map nCell))]) (fun i => i ≤ g.Wires.length) (fun i => g.Wires.length - i) 0 ?_ ?_ ?_
   ·exact Nat.zero_le _
   ·exact sub_rb [some 0, some 1, some 2] rfl (by simp) (by simp [onW, edges, nmR, hn])
   rintro i i1;simp only [zP, Nat.reduceEqDiff, reduceIte];refine awp_seq_k fun K7 hK7 => ?_;refine aS fun K hK => ?_;simp -dsimp;apply hK;clear hK K;refine awp_cond rfl (fun hc2 => ?_) (fun hc2 => ?_)
   ·have hil : i < g.Wires.length := by simpa using hc2
    have wi := zW i (by omega);obtain ⟨w, hw⟩ : ∃ w, g.Wires[i]? = some w := ⟨_, List.getElem?_eq_getElem hil⟩;have gb := bAt_get (l := s.Wires) (k := i) (by omega);have hos := onW_sn hw gb;obtain ⟨ha, hb, ha0, hb0⟩ := hwo i w hw;obtain ⟨a, hae⟩ : ∃ a : Nat, w.A = a := ⟨w.A.toNat, by omega⟩;obtain ⟨b, hbe⟩ : ∃ b : Nat, w.B = b := ⟨w.B.toNat, by omega⟩;have han : a < n := by omega
    have hbn : b < n := by omega
    obtain ⟨f, hf⟩ : ∃ f, f = nmR (edges (onW (g.Wires.take i) (s.Wires.take i))) (nmT E t) := ⟨_, rfl⟩;rw [← hf];have hnl := nmS_len n f;have ga := nmS_get (f := f) han;have gbb := nmS_get (f := f) hbn;have hst : ((nmS n f).set a ((min (f a) (f b) : Nat) : Int)).set b ((min (f a) (f b) : Nat) : Int) = nmS n (nmE f (a, b)) := by
     rw [nmS_set, nmS_set];refine nmS_congr fun j hj => ?_;unfold nmE;simp only
     by_cases h1 : j = b
     ·rw [if_pos h1, if_pos (Or.inr h1)]
     ·rw [if_neg h1]
      by_cases h2 : j = a
      ·rw [if_pos h2, if_pos (Or.inl h2)]
      ·rw [if_neg h2, if_neg (by omega)]
    have hmn : (if f b < f a then ((f b : Nat) : Int) else ((f a : Nat) : Int)) = ((min (f a) (f b) : Nat) : Int) := by split <;> omega
    have hab : a ≠ b := by have := hwr w (List.mem_of_getElem? hw); simp only [wrB, Bool.and_eq_true, Bool.not_eq_true', decide_eq_false_iff_not] at this; omega
    have his : i < s.Wires.length := by omega
    have hgs : s.Wires[i] = bAt s.Wires i := Option.some.inj (by rw [← List.getElem?_eq_getElem his]; exact gb);obtain ⟨R, hR⟩ : ∃ R, R = nmS n f := ⟨_, rfl⟩;rw [← hR] at hnl ga gbb hst ⊢;have hal : a < R.length := by omega
    have hbl : b < R.length := by omega
    have hga : R[a] = ((f a : Nat) : Int) := Option.some.inj (by rw [← List.getElem?_eq_getElem hal]; exact ga);have hgb : R[b] = ((f b : Nat) : Int) := Option.some.inj (by rw [← List.getElem?_eq_getElem hbl]; exact gbb);refine awp_skip ?_;simp only [zT, reduceIte, Nat.reduceEqDiff];refine hK7 _ _ ?_;refine awp_prune [2, 3, 5, 7, 8] ?_;simp only [zP, Nat.reduceEqDiff, reduceIte];refine awp_seq_k fun K8 hK8 => ?_;refine awp_block ?_;refine aS fun K hK => ?_;simp -dsimp [hw];apply hK;clear hK K;refine aS fun K hK => ?_;simp -dsimp [hgs, his];apply hK;clear hK K;refine awp_cond rfl (fun hc3 => ?_) (fun hc3 => ?_)
    ·refine awp_sd mixed rfl fun K hK => ?_;simp -dsimp [hae, hbe, hal, hbl, han, hbn, hga, hgb, hmn];refine hK _ _ _ (by decide +kernel) ?_; clear hK K;refine awp_draw mixed rfl fun K hK => ?_;simp -dsimp [hae, hbe, hal, hbl, han, hbn, hab, hgb];refine hK _ _ _ (by decide +kernel) ?_; clear hK K;simp only [zT, reduceIte, Nat.reduceEqDiff];refine hK8 _ _ ?_;refine awp_prune [2, 3, 5, 7, 8] ?_;simp only [zP, Nat.reduceEqDiff, reduceIte];refine aR fun K hK => ?_;simp -dsimp [wi];apply hK;clear hK K;simp only [zT, reduceIte, Nat.reduceEqDiff];have hon : edges (onW (g.Wires.take (i + 1)) (s.Wires.take (i + 1))) = edges (onW (g.Wires.take i) (s.Wires.take i)) ++ [(a, b)] := by rw [hos, if_pos hc3]; unfold edges; rw [List.map_append]; simp [Wn.e, hae, hbe]
     refine ⟨i + 1, by omega, by omega, sub_rb [some 0, some 1, some 2] rfl (by simp) ?_⟩;rw [hon, nmR_snoc, ← hf, ← hst];simp [List.map_set, nCell, hn]
    ·refine awp_skip ?_;simp only [zT, reduceIte, Nat.reduceEqDiff];refine hK8 _ _ ?_;refine awp_prune [2, 3, 5, 7, 8] ?_;simp only [zP, Nat.reduceEqDiff, reduceIte];refine aR fun K hK => ?_;simp -dsimp [wi];apply hK;clear hK K;simp only [zT, reduceIte, Nat.reduceEqDiff];have hon : edges (onW (g.Wires.take (i + 1)) (s.Wires.take (i + 1))) = edges (onW (g.Wires.take i) (s.Wires.take i)) := by rw [hos, if_neg (by simp [hc3]), List.append_nil]
     refine ⟨i + 1, by omega, by omega, sub_rb [some 0, some 1, some 2] rfl (by simp) ?_⟩;rw [hon, ← hf];simp [hn, hR]
   ·have hie : i = g.Wires.length := by have hx : ¬ i < g.Wires.length := (by simpa using hc2); omega
    have e1 : nmR (edges (onW (g.Wires.take i) (s.Wires.take i))) (nmT E t) = nmT E (t + 1) := by rw [hie, List.take_of_length_le (Nat.le_refl _), List.take_of_length_le (by omega), ← hEe]; rfl
    rw [e1];refine awp_exit ?_;simp only [zT, reduceIte, Nat.reduceEqDiff];refine hK6 _ _ ?_;refine awp_prune [2, 3, 5, 7] ?_;simp only [zP, Nat.reduceEqDiff, reduceIte];refine aR fun K hK => ?_;simp -dsimp [wt];apply hK;clear hK K;simp only [zT, reduceIte, Nat.reduceEqDiff];exact ⟨t + 1, by omega, by omega, sub_rb [some 0, some 1, some 2] rfl (by simp) (by simp [hn])⟩
  ·have hte : t = n := by have hx : ¬ t < n := (by simpa using hc1); omega
   rw [hte, show nmT E n = nm E n from rfl];refine awp_exit ?_;simp only [zT, reduceIte, Nat.reduceEqDiff];refine hK4 _ _ ?_;refine awp_prune [2, 5] ?_;simp only [zP, Nat.reduceEqDiff, reduceIte];refine aS fun K hK => ?_;simp -dsimp;apply hK;clear hK K;refine awp_seq_k fun K9 hK9 => ?_;refine aS fun K hK => ?_;simp -dsimp;apply hK;clear hK K;refine awp_block ?_;refine awp_prune [2, 5, 11, 12] ?_;simp only [zP, Nat.reduceEqDiff, reduceIte];refine awp_loop_l [2, 5] (α := Nat) (fun i => [(11, .row 3 0 (hdL E n i).length), (12, I i)]) (fun i => [some (.els 4 [g.cells]), some (.els 2 [s.cells]), some (.els 1 ((nmS n (nm E n)).map nCell)), some (.els 1 ((hdL E n i).map pAV))]) (fun i => i ≤ n) (fun i => n - i) 0 ?_ ?_ ?_
   ·exact Nat.zero_le _
   ·exact (sub_nil 11 1 (by simp)).trans (sub_rb [some 0, some 1, some 2, some 3] rfl (by simp [hdL]) (by simp [hdL, hn]))
   rintro i i1;simp only [zP, Nat.reduceEqDiff, reduceIte];refine awp_seq_k fun K10 hK10 => ?_;refine aS fun K hK => ?_;simp -dsimp [hn];apply hK;clear hK K;refine awp_cond rfl (fun hc4 => ?_) (fun hc4 => ?_)
   ·have hil : i < n := by simpa using hc4
    have wi := zW i (by omega);have gi := nmS_get (f := nm E n) hil;have hnl := nmS_len n (nm E n);have hhs := hdL_succ E n i;have hhl := hdL_len E n i;have f1 : Fits ((hdL E n i).length + 1) 25 := fits_of (by omega) (by omega);have hil2 : i < (nmS n (nm E n)).length := by omega
    have hgi : (nmS n (nm E n))[i] = ((nm E n i : Nat) : Int) := Option.some.inj (by rw [← List.getElem?_eq_getElem hil2]; exact gi);refine awp_skip ?_;simp only [zT, reduceIte, Nat.reduceEqDiff];refine hK10 _ _ ?_;refine awp_prune [2, 5, 11, 12] ?_;simp only [zP, Nat.reduceEqDiff, reduceIte];refine awp_seq_k fun K11 hK11 => ?_;refine awp_block ?_;refine awp_seq_k fun K12 hK12 => ?_;refine aS fun K hK => ?_;simp -dsimp [hil2, hil, hgi];apply hK;clear hK K;refine awp_cond rfl (fun hc5 => ?_) (fun hc5 => ?_)
    ·have hne : ¬ nm E n i = i := by intro h; simp [h] at hc5
     rw [if_neg hne, List.append_nil] at hhs;refine awp_exit ?_;simp only [zT, reduceIte, Nat.reduceEqDiff];refine hK11 _ _ ?_;refine awp_prune [2, 5, 11, 12] ?_;simp only [zP, Nat.reduceEqDiff, reduceIte];refine aR fun K hK => ?_;simp -dsimp [wi];apply hK;clear hK K;simp only [zT, reduceIte, Nat.reduceEqDiff];exact ⟨i + 1, by omega, by omega, sub_rb [some 0, some 1, some 2, some 3] rfl (by simp [hhs]) (by simp [hhs, hn])⟩
    ·have heq : nm E n i = i := by have h := hc5; simp at h; omega
     rw [if_pos heq] at hhs;refine awp_skip ?_;simp only [zT, reduceIte, Nat.reduceEqDiff];refine hK12 _ _ ?_;refine awp_prune [2, 5, 11, 12] ?_;simp only [zP, Nat.reduceEqDiff, reduceIte];refine aS fun K hK => ?_;simp -dsimp;apply hK;clear hK K;refine awp_seq_k fun K13 hK13 => ?_;refine aS fun K hK => ?_;simp -dsimp;apply hK;clear hK K;refine awp_block ?_;refine awp_prune [2, 5, 11, 12, 13, 14] ?_;simp only [zP, Nat.reduceEqDiff, reduceIte];refine awp_loop_l [2, 5, 11, 12] (α := Nat) (fun k => [(13, .row 4 0 (ptL E n i k).length), (14, I k)]) (fun k => [some (.els 4 [g.cells]), some (.els 2 [s.cells]), some (.els 1 ((nmS n (nm E n)).map nCell)), some (.els 1 ((hdL E n i).map pAV)), some (.els 1 ((upN (ptL E n i k)).map nCell))]) (fun k => k ≤ n) (fun k => n - k) i ?_ ?_ ?_
     ·exact i1
     ·exact (sub_nil 13 1 (by simp)).trans (sub_rb [some 0, some 1, some 2, some 3, some 4] rfl (by simp [ptL_zero]) (by simp [ptL_zero, upN, hn]))
     rintro k k1;simp only [zP, Nat.reduceEqDiff, reduceIte];refine awp_seq_k fun K14 hK14 => ?_;refine aS fun K hK => ?_;simp -dsimp [hn];apply hK;clear hK K;refine awp_cond rfl (fun hc6 => ?_) (fun hc6 => ?_)
     ·have hkl : k < n := by simpa using hc6
      have wk := zW k (by omega);have gk := nmS_get (f := nm E n) hkl;have hps := ptL_succ E n i k;have hpl2 := ptL_len E n i k;have hul := upN_len (ptL E n i k);have f2 : Fits ((ptL E n i k).length + 1) 9 := fits_of (by omega) (by omega);have hkl2 : k < (nmS n (nm E n)).length := by omega
      have hgk : (nmS n (nm E n))[k] = ((nm E n k : Nat) : Int) := Option.some.inj (by rw [← List.getElem?_eq_getElem hkl2]; exact gk);refine awp_skip ?_;simp only [zT, reduceIte, Nat.reduceEqDiff];refine hK14 _ _ ?_;refine awp_prune [2, 5, 11, 12, 13, 14] ?_;simp only [zP, Nat.reduceEqDiff, reduceIte];refine awp_seq_k fun K15 hK15 => ?_;refine awp_block ?_;refine aS fun K hK => ?_;simp -dsimp [hkl2, hkl, hgk];apply hK;clear hK K;refine awp_cond rfl (fun hc7 => ?_) (fun hc7 => ?_)
      ·have hnk : nm E n k = i := by have h := hc7; simp at h; omega
       rw [if_pos hnk] at hps;refine aR fun K hK => ?_;simp -dsimp [f2, hul];apply hK;clear hK K;simp only [zT, reduceIte, Nat.reduceEqDiff];refine hK15 _ _ ?_;refine awp_prune [2, 5, 11, 12, 13, 14] ?_;simp only [zP, Nat.reduceEqDiff, reduceIte];refine aR fun K hK => ?_;simp -dsimp [wk];apply hK;clear hK K;simp only [zT, reduceIte, Nat.reduceEqDiff];exact ⟨k + 1, by omega, by omega, sub_rb [some 0, some 1, some 2, some 3, some 5] rfl (by simp [hps]) (by simp [hps, upN, hn])⟩
      ·have hnk : ¬ nm E n k = i := by intro h; simp [h] at hc7
       rw [if_neg hnk, List.append_nil] at hps;refine awp_skip ?_;simp only [zT, reduceIte, Nat.reduceEqDiff];refine hK15 _ _ ?_;refine awp_prune [2, 5, 11, 12, 13, 14] ?_;simp only [zP, Nat.reduceEqDiff, reduceIte];refine aR fun K hK => ?_;simp -dsimp [wk];apply hK;clear hK K;simp only [zT, reduceIte, Nat.reduceEqDiff];exact ⟨k + 1, by omega, by omega, sub_rb [some 0, some 1, some 2, some 3, some 4] rfl (by simp [hps]) (by simp [hps, hn])⟩
     ·have hke : k = n := by have hx : ¬ k < n := (by simpa using hc6); omega
      have hcp : ptL E n i k = cp E n i := by rw [hke]; rfl
      rw [hcp];have hul := upN_len (cp E n i);have htk : List.take (cp E n i).length ((upN (cp E n i)).map nCell) = (upN (cp E n i)).map nCell := List.take_of_length_le (by rw [List.length_map]; omega);refine awp_weak (sub_rf (T' := [(2, .ptr 0 0 0), (5, .row 2 0 n), (11, .row 3 0 (hdL E n i).length), (12, I i), (13, iL (upN (cp E n i)))]) (H' := [some (.els 4 [g.cells]), some (.els 2 [s.cells]), some (.els 1 ((nmS n (nm E n)).map nCell)), some (.els 1 ((hdL E n i).map pAV))]) [some 0, some 1, some 2, some 3] rfl ⟨.inr (by simp), .inr (by simp), .inr (by simp), .inr (by simp), .inr (by simp [htk, hul]), trivial⟩ (by simp [pAV, hn])) ?_;refine awp_exit ?_;simp only [zT, reduceIte, Nat.reduceEqDiff];refine hK13 _ _ ?_;refine awp_prune [2, 5, 11, 12, 13] ?_;simp only [zP, Nat.reduceEqDiff, reduceIte];refine aR fun K hK => ?_;simp -dsimp [f1];apply hK;clear hK K;simp only [zT, reduceIte, Nat.reduceEqDiff];refine hK11 _ _ ?_;refine awp_prune [2, 5, 11, 12] ?_;simp only [zP, Nat.reduceEqDiff, reduceIte];refine aR fun K hK => ?_;simp -dsimp [wi];apply hK;clear hK K;simp only [zT, reduceIte, Nat.reduceEqDiff];exact ⟨i + 1, by omega, by omega, sub_rb [some 0, some 1, some 2, some 4] rfl (by simp [hhs]) (by simp [hhs, pAV, hn])⟩
   ·have hie : i = n := by have hx : ¬ i < n := (by simpa using hc4); omega
    rw [hie];refine awp_exit ?_;simp only [zT, reduceIte, Nat.reduceEqDiff];refine hK9 _ _ ?_;refine awp_prune [11] ?_;simp only [zP, Nat.reduceEqDiff, reduceIte];refine aS fun K hK => ?_;simp -dsimp;apply hK;clear hK K;exact awp_ret (by simp [pAV])
end Go.Cur
end
section
namespace Go.Cur
open Go.AM Go.Proofs
theorem small_long (g : Gr) (s : Sta) : smallB (partL g s) = !longB g s := by
 unfold smallB longB;rw [List.not_any_eq_all_not]
 congr 1
 funext p
 by_cases h : p.length ≤ 10
 ·simp [h]
 ·simp [h]; omega
def refE (g : Gr) (s : Sta) (l : List Ld) : Int := if fineB g s l = true then (if longB g s = true then 3 else 0) else 2
theorem c_refused (g : Gr) (s : Sta) (l : List Ld) (hw0 : g.Wires.length ≤ 100000) (hf0 : g.Feeds.length ≤ 100000) (hl0 : l.length ≤ 100000) : PureCall Try.prog 16 [g.av, s.av, lL l] (I (refE g s l)) := by
 have hfn := c_rFine g s l hw0 hf0 hl0;unfold refE;refine PureCall.of_body Try.func16 rfl (by decide) (by simp [Try.ntmps16]) ?_;simp only [Try.ntmps16, Try.results16];refine aS fun K hK => ?_;simp -dsimp;apply hK;clear hK K;refine awp_seq_k fun K1 hK1 => ?_;refine aS fun K hK => ?_;simp -dsimp;refine callK_intro _ (hfn) (by simp) ?_;simp -dsimp;apply hK;clear hK K;refine awp_cond rfl (fun hc0 => ?_) (fun hc0 => ?_)
 ·refine aS fun K hK => ?_;simp -dsimp;apply hK;clear hK K;have hf : fineB g s l = false := by simpa using hc0
  exact awp_ret (by simp [hf])
 ·have hf : fineB g s l = true := by simpa using hc0
  have hnt := fine_net hf;have hbd := grB_bd hnt.gr;have hpl := partL_len g s;have hsm := c_rSmall (partL g s) (by omega);rw [small_long] at hsm;refine awp_skip ?_;simp only [zT, reduceIte, Nat.reduceEqDiff];refine hK1 _ _ ?_;refine awp_prune [3, 4] ?_;simp only [zP, Nat.reduceEqDiff, reduceIte];refine awp_seq_k fun K2 hK2 => ?_;refine aS fun K hK => ?_;simp -dsimp;refine callK_intro _ (c_rParts g s hnt) (by simp) ?_;simp -dsimp;refine callK_intro _ (hsm) (by simp) ?_;simp -dsimp;apply hK;clear hK K;refine awp_cond rfl (fun hc1 => ?_) (fun hc1 => ?_)
  ·refine aS fun K hK => ?_;simp -dsimp;apply hK;clear hK K;have h : longB g s = true := by simpa using hc1
   exact awp_ret (by simp [hf, h])
  ·refine awp_skip ?_;simp only [zT, reduceIte, Nat.reduceEqDiff];refine hK2 _ _ ?_;refine awp_prune [] ?_;simp only [zP, Nat.reduceEqDiff, reduceIte];refine aS fun K hK => ?_;simp -dsimp;apply hK;clear hK K;have h : longB g s = false := by simpa using hc1
   exact awp_ret (by simp [hf, h])
def litP (g : Gr) (s : Sta) (p : List Nat) : Bool := !((decide (5 < p.length) && decide (p.length ≤ 10)) || decide (5 < (feedL g s (upN p)).length))
def litB (g : Gr) (s : Sta) : Bool := (partL g s).all (litP g s)
theorem c_little (g : Gr) (s : Sta) (hnt : NetOk g s) : PureCall Try.prog 17 [g.av, s.av] (Bo (litB g s)) := by
 have hbd := grB_bd hnt.gr;have hpl := partL_len g s;have hlen : ∀ p ∈ partL g s, p.length ≤ 40 := fun p hp => by
  obtain ⟨i, hi, rfl⟩ := partL_head hp;unfold cp;have := List.length_filter_le (fun k => decide (nm (netE g s) g.Nodes.toNat k = i)) (List.range g.Nodes.toNat);rw [List.length_range] at this;omega
 unfold litB;have hps := c_rParts g s hnt;generalize partL g s = ps at hpl hlen hps ⊢;refine PureCall.of_body Try.func17 rfl (by decide) (by simp [Try.ntmps17]) ?_;simp only [Try.ntmps17, Try.results17];refine aS fun K hK => ?_;simp -dsimp;apply hK;clear hK K;refine aS fun K hK => ?_;simp -dsimp;refine callK_intro _ (hps) (by simp) ?_;simp -dsimp;apply hK;clear hK K;refine awp_seq_k fun K1 hK1 => ?_;refine aS fun K hK => ?_;simp -dsimp;apply hK;clear hK K;refine awp_block ?_;refine awp_prune [2, 3, 5, 6] ?_;simp only [zP, Nat.reduceEqDiff, reduceIte];refine awp_loop_l [2, 3, 5] (α := Nat) (fun k => [(6, I k)]) (fun k => [some (.els 4 [g.cells]), some (.els 2 [s.cells])]) (fun k => k ≤ ps.length ∧ (ps.take k).all (litP g s) = true) (fun k => ps.length - k) 0 ?_ ?_ ?_
 ·exact ⟨Nat.zero_le _, rfl⟩
 ·exact sub_rb [some 0, some 1] rfl (by simp) (by simp)
 rintro k ⟨k1, k2⟩;simp only [zP, Nat.reduceEqDiff, reduceIte];refine awp_seq_k fun K2 hK2 => ?_;refine aS fun K hK => ?_;simp -dsimp;apply hK;clear hK K;refine awp_cond rfl (fun hc0 => ?_) (fun hc0 => ?_)
 ·have hkl : k < ps.length := by simpa using hc0
  have wk := zW k (by omega);obtain ⟨p, hp⟩ : ∃ p, ps[k]? = some p := ⟨_, List.getElem?_eq_getElem hkl⟩;have hul := upN_len p;have hp40 := hlen p (List.mem_of_getElem? hp);have hfd := c_rFeeders g s (upN p) hnt.sf (by omega) (by omega);have hlt : litP g s p = !((decide (5 < ((upN p).length : Int)) && decide (((upN p).length : Int) ≤ 10)) || decide (5 < ((feedL g s (upN p)).length : Int))) := by
   unfold litP;rw [hul];have e1 : decide (5 < p.length) = decide ((5 : Int) < (p.length : Int)) := decide_eq_decide.2 (by omega);have e2 : decide (p.length ≤ 10) = decide ((p.length : Int) ≤ 10) := decide_eq_decide.2 (by omega);have e3 : decide (5 < (feedL g s (upN p)).length) = decide ((5 : Int) < ((feedL g s (upN p)).length : Int)) := decide_eq_decide.2 (by omega);rw [e1, e2, e3]
  refine awp_skip ?_;simp only [zT, reduceIte, Nat.reduceEqDiff];refine hK2 _ _ ?_;refine awp_prune [2, 3, 5, 6] ?_;simp only [zP, Nat.reduceEqDiff, reduceIte];refine awp_seq_k fun K3 hK3 => ?_;refine awp_block ?_;refine awp_sd mixed rfl fun K hK => ?_;simp -dsimp [hp, pAV];refine idxK_intro ([iL (upN p)]) (fun _ => by simp [hp, pAV]) ?_;simp -dsimp [hp, pAV];refine idxK_intro ([iL (upN p)]) (fun _ => by simp [hp, pAV]) ?_;simp -dsimp [hp, pAV];refine callK_may _ (fun hm => hfd) (by simp) ?_;simp -dsimp [hp, pAV];refine hK _ _ _ (by decide +kernel) ?_; clear hK K;refine awp_cond rfl (fun hc1 => ?_) (fun hc1 => ?_)
  ·refine aS fun K hK => ?_;simp -dsimp;apply hK;clear hK K;have hf : litP g s p = false := by rw [hlt, hc1]; rfl
   have hall : ps.all (litP g s) = false := by rw [List.all_eq_false]; exact ⟨p, List.mem_of_getElem? hp, by simp [hf]⟩
   exact awp_ret (by simp [hall])
  ·refine awp_skip ?_;simp only [zT, reduceIte, Nat.reduceEqDiff];refine hK3 _ _ ?_;refine awp_prune [2, 3, 5, 6] ?_;simp only [zP, Nat.reduceEqDiff, reduceIte];refine aR fun K hK => ?_;simp -dsimp [wk];apply hK;clear hK K;simp only [zT, reduceIte, Nat.reduceEqDiff];have ht : litP g s p = true := by rw [hlt, hc1]; rfl
   exact ⟨k + 1, ⟨by omega, by rw [List.take_add_one, hp, List.all_append, k2]; simp [ht]⟩, by omega, sub_rb [some 0, some 1] rfl (by simp) (by simp)⟩
 ·have hke : ¬ k < ps.length := by simpa using hc0
  rw [List.take_of_length_le (by omega)] at k2;refine awp_exit ?_;simp only [zT, reduceIte, Nat.reduceEqDiff];refine hK1 _ _ ?_;refine awp_prune [] ?_;simp only [zP, Nat.reduceEqDiff, reduceIte];refine aS fun K hK => ?_;simp -dsimp;apply hK;clear hK K;exact awp_ret (by simp [k2])
theorem ex_set (c : List Int) (hc : ∀ x ∈ c, x ∈ [(1 : Int)]) : SetOk (exG 39) (onAll [true, false] c) exL := by
 have e : onAll [true, false] c = [true, false] ∨ onAll [true, false] c = [true, true] := by
  have gen : ∀ (c : List Int) (b : Bool), (∀ x ∈ c, x ∈ [(1 : Int)]) → onAll [true, b] c = [true, false] ∨ onAll [true, b] c = [true, true] := by
   intro c
   induction c with
   | nil => intro b _; cases b <;> simp [onAll]
   | cons x c ih =>
    intro b h;have hx : x = 1 := by simpa using h x (by simp)
    have := ih true fun y hy => h y (by simp [hy]);unfold onAll at this ⊢;rw [List.foldl_cons, hx];exact this
  exact gen c false hc
 have ld := fine_ld ex_fine.2.2.1;have h1 : ∀ b, SetOk (exG 39) [true, b] exL := fun b => ⟨by decide +kernel, rfl, ld, by decide, ex_len 39 b []⟩
 rcases e with e | e <;> rw [e] <;> exact h1 _
theorem c_ex3 : ∃ vs fs, PureCall Try.prog 27 [(exG 39).av, (exS false).av, lL exL] (.tup [.agg [fL vs, fL fs, bL [false, true], bL [true, false], bL [false], cL [⟨4, 0, ⟨40, 1⟩⟩, ⟨1, 0, ⟨0, 1⟩⟩]], I 0]) :=
 ⟨_, _, c_Settle_ta (exG 39) (exS false) exL ex_fine.2.2.1 (ex_long 39 false) (ex_set [] (by simp)) (by simp [exS]) _ ex_z1⟩
theorem c_ex4 : PureCall Try.prog 35 [(exG 39).av, (exS false).av, lL exL] (.tup [iL [1], I 0]) := by
 refine c_Relief_t (exG 39) (exS false) exL (by decide) ex_fine.2.2.1 [1] ex_off.symm exR (fun _ c hc hcl => ?_) _ (fun h => by simp at h) (fun _ _ => by rw [ex_rel]; rfl) (fun _ h => by rw [ex_rel] at h; cases h);exact c_rel (exG 39) (exS false) c exL (fine_net ex_fine.2.2.1) (fun w hw => by have := hc w hw; simp at this; subst this; decide) (ex_set c hc) (by omega)
abbrev exW : AV := .lst 4 [[I 0, I 1, I 2, Bo false], [I 1, I 2, I 1, Bo true]]
abbrev exSA : List AV := [.lst 1 [[Bo true], [Bo true]], .lst 1 [[Bo true], [Bo false]]]
abbrev exF (lim : Int) : Option ARow := some (.els 4 [[I 0, I 600, I 2, I lim], [I 2, I 600, I 1, I 30]])
abbrev exLA : AV := .lst 3 [[I 1, I 40, I 0]]
theorem m_Example : MutCall Try.prog 46 [] [] [] (.tup [.agg [I 3, exW, .row 0 0 2, I 500], .agg exSA, exLA]) [] [exF 100, some (.els 4 [[I 3, exW, .row 0 0 2, I 500]]), some (.els 2 [exSA])] := by
 refine MutCall.of_bodyG [] Try.func46 rfl (by decide) (by simp [Try.ntmps46]) rfl rfl ?_;intro J hJ;simp only [Try.ntmps46, Try.results46];refine gS fun K hK => ?_;simp -dsimp;apply hK;clear hK K;refine gwp_flag (by decide) ?_;refine gS fun K hK => ?_;simp -dsimp;apply hK;clear hK K;refine gS fun K hK => ?_;simp -dsimp;apply hK;clear hK K;refine gwp_weak (gsub (sub_rf (T' := [(0, .ptr 0 0 0), (1, .ptr 1 0 0), (2, exLA)]) (H' := [some (.els 4 [[I 3, exW, .row 2 0 2, I 500]]), some (.els 2 [exSA]), exF 100]) [some 0, some 1, some 3] rfl ⟨.inr (by simp), .inr (by simp), .inr (by simp), trivial⟩ (by simp)) (by simp)) ?_;exact gwp_ret ⟨[some 2, some 0, some 1], rfl, by simp, by simp, by simp, by simp [resP, tupOf]⟩
theorem m_Solve (g : Gr) (s : Sta) (l : List Ld) (hl : l.length ≤ 1000) (hf : fineB g s l = true) (hlo : longB g s = false) (hz : ∀ p ∈ partL g s, p.length ≤ 5) (ho : okS g s (tkK l (allS l)) = true) (vs fs : List Fr) (hvs : vlA g.Nodes.toNat (vfS g s (tkK l (allS l))) = vs) (hfs : flA g s (vfS g s (tkK l (allS l))) = fs) :
  MutCall Try.prog 18 [g.av, s.av, lL l] [] [] (.tup [.row 0 0 g.Nodes.toNat, .row 1 0 g.Feeds.length, I 0]) [] [some (.els 2 (vs.map Fr.cells)), some (.els 2 (fs.map Fr.cells))] := by
 have h := m_SolveV g s l hl hf hlo (fun p hp => by have := hz p hp; omega) (vfS g s (tkK l (allS l))) fun p hp => by
  unfold okS at ho;rw [List.all_eq_true] at ho;exact ⟨_, _, vpart (fine_net hf) hp (Or.inl (hz p hp)) (tkK_int _ _) (tk_bd (fine_ld hf) _) (ho p hp)⟩
 rw [hvs, hfs] at h;exact h
theorem c_known : PureCall Try.prog 15 [] (Bo true) := by
 have h1 := m_Solve (exG 100) (exS false) exL (by decide) ex_fine.1 (ex_long _ _) (ex_len 100 false _) ex_v1.1 _ _ ex_v1.2.1 ex_v1.2.2;obtain ⟨fs2, hfs2⟩ : ∃ fs2, flA (exG 100) (exS true) (vfS (exG 100) (exS true) (tkK exL (allS exL))) = fs2 := ⟨_, rfl⟩;have h2 := m_Solve (exG 100) (exS true) exL (by decide) ex_fine.2.1 (ex_long _ _) (ex_len 100 true _) ex_v2.1 _ _ ex_v2.2 hfs2;obtain ⟨vs3, fs3, h3⟩ := c_ex3;have h4 := c_ex4;have g1 := (c_rSame [⟨580, 1⟩, ⟨560, 1⟩, ⟨600, 1⟩] [⟨580, 1⟩, ⟨560, 1⟩, ⟨600, 1⟩] (by simp)).wk (args := [fL [⟨580, 1⟩, ⟨560, 1⟩, ⟨600, 1⟩], .full 2 [[I 580, I 1], [I 560, I 1], [I 600, I 1]]]) (by rfl);have g2 := (c_rSame [⟨40, 1⟩, ⟨0, 1⟩] [⟨40, 1⟩, ⟨0, 1⟩] (by simp)).wk (args := [fL [⟨40, 1⟩, ⟨0, 1⟩], .full 2 [[I 40, I 1], [I 0, I 1]]]) (by rfl);have g3 := (c_rSame [⟨1760, 3⟩, ⟨1720, 3⟩, ⟨1760, 3⟩] [⟨1760, 3⟩, ⟨1720, 3⟩, ⟨1760, 3⟩] (by simp)).wk (args := [fL [⟨1760, 3⟩, ⟨1720, 3⟩, ⟨1760, 3⟩], .full 2 [[I 1760, I 3], [I 1720, I 3], [I 1760, I 3]]]) (by rfl);have g4 := (c_rEqual [1] [1] (by simp)).wk (args := [iL [1], .full 1 [[I 1]]]) (by rfl);have hm := m_Example;simp only [exG, exS, exL, Gr.av, Sta.av, Gr.cells, Sta.cells, List.map_cons, List.map_nil, Wr.cells, Fd.cells, Ld.cells, Fr.cells, bCell, Cu.cells, nCell] at h1 h2 h3 h4 g1 g2 g3 g4;refine PureCall.of_bodyG Try.func15 rfl (by decide) (by simp [Try.ntmps15]) ?_;intro J hJ;simp only [Try.ntmps15, Try.results15];refine gS fun K hK => ?_;simp -dsimp;apply hK;clear hK K;refine gS fun K hK => ?_;simp -dsimp;refine callK_mut [] [] [some 0, some 1, some 2] (hm) (by decide) rfl (by simp) (by simp) rfl (by simp) ?_;simp -dsimp;apply hK;clear hK K;refine gwp_peekN [4, 5, 6] [1, 2, 3] [(1, .iptr [I 3, exW, .lst 4 [[I 0, I 600, I 2, I 100], [I 2, I 600, I 1, I 30]], I 500]), (2, .iptr exSA), (3, exLA)] (⟨.inr (by simp), .inr (by simp), .inr (by simp), trivial⟩) (by decide) (fun T' H' => Go.AM.look T' 4 = .row 0 0 3 ∧ Go.AM.look T' 5 = .row 1 0 2 ∧ Go.AM.look T' 6 = I 0 ∧ H' = [some (.els 2 [[I 580, I 1], [I 560, I 1], [I 600, I 1]]), some (.els 2 [[I 40, I 1], [I 0, I 1]])]) ?_ ?_
 ·intro J1 hJ1;refine gR fun K hK => ?_;simp -dsimp;refine callK_mut [] [] [some 0, some 1] (h1) (by decide) rfl (by simp) (by simp) rfl (by simp) ?_;simp -dsimp;apply hK;clear hK K;exact ⟨rfl, rfl, by simp⟩
 ·intro T' H' hR;obtain ⟨hR, hR5, hR6, rfl⟩ := hR;refine ⟨by simp, ?_⟩;simp only [List.map_cons, List.map_nil, List.cons_append, List.nil_append, List.length_cons, List.length_nil, Nat.reduceAdd, Nat.zero_add, Option.map_some, upAV, upRow, Go.AM.look, Nat.reduceEqDiff, reduceIte, hR, hR5, hR6];refine gwp_flag (by decide) ?_;refine gS fun K hK => ?_;simp -dsimp;apply hK;clear hK K;refine gwp_peekN [8, 10] [1, 2, 3, 4, 5, 6] [(1, .iptr [I 3, exW, .lst 4 [[I 0, I 600, I 2, I 100], [I 2, I 600, I 1, I 30]], I 500]), (7, .iptr [.lst 1 [[Bo true], [Bo true]], .lst 1 [[Bo true], [Bo true]]]), (3, exLA)] (⟨.inr (by simp), .inr (by simp), .inr (by simp), trivial⟩) (by decide) (fun T' H' => Go.AM.look T' 8 = .row 0 0 3 ∧ Go.AM.look T' 10 = I 0 ∧ H' = [some (.els 2 [[I 1760, I 3], [I 1720, I 3], [I 1760, I 3]]), some (.els 2 (fs2.map Fr.cells))]) ?_ ?_
  ·intro J1 hJ1;refine gR fun K hK => ?_;simp -dsimp;refine callK_mut [] [] [some 0, some 1] (h2) (by decide) rfl (by simp) (by simp) rfl (by simp) ?_;simp -dsimp;apply hK;clear hK K;exact ⟨rfl, rfl, by simp⟩
  ·intro T' H' hR;obtain ⟨hR, hR5, rfl⟩ := hR;refine ⟨by simp, ?_⟩;simp only [List.map_cons, List.map_nil, List.cons_append, List.nil_append, List.length_cons, List.length_nil, Nat.reduceAdd, Nat.zero_add, Option.map_some, upAV, upRow, Go.AM.look, Nat.reduceEqDiff, reduceIte, hR, hR5];refine gS fun K hK => ?_;simp -dsimp;apply hK;clear hK K;refine gwp_weak (gsub (sub_rf (T' := [(1, .ptr 0 0 0), (2, .ptr 1 0 0), (3, exLA), (4, fL [⟨580, 1⟩, ⟨560, 1⟩, ⟨600, 1⟩]), (5, fL [⟨40, 1⟩, ⟨0, 1⟩]), (6, I 0), (8, fL [⟨1760, 3⟩, ⟨1720, 3⟩, ⟨1760, 3⟩]), (10, I 0)]) (H' := [some (.els 4 [[I 3, exW, .lst 4 [[I 0, I 600, I 2, I 39], [I 2, I 600, I 1, I 30]], I 500]]), some (.els 2 [exSA])]) [some 3, some 4] rfl ⟨.inr (by simp), .inr (by simp), .inr (by simp), .inr (by simp), .inr (by simp), .inr (by simp), .inr (by simp), .inr (by simp), trivial⟩ (by simp)) (by simp)) ?_
   ·refine gS fun K hK => ?_;simp -dsimp;refine callK_intro _ (h3) (by simp) ?_;simp -dsimp;apply hK;clear hK K;refine gS fun K hK => ?_;simp -dsimp;refine callK_intro _ (h4) (by simp) ?_;simp -dsimp;apply hK;clear hK K;refine gwp_seq_k fun K1 hK1 => ?_;refine gS fun K hK => ?_;simp -dsimp;apply hK;clear hK K;refine gwp_cond rfl (fun hc0 => ?_) (fun hc0 => ?_)
    ·simp at hc0
    ·refine gwp_skip ?_;simp only [zT, reduceIte, Nat.reduceEqDiff];refine hK1 _ _ ?_;refine gwp_prune [4, 5, 8, 11, 13] (Or.inr (by simp)) ?_;simp only [zP, Nat.reduceEqDiff, reduceIte];refine gS fun K hK => ?_;simp -dsimp;refine callK_intro _ (g1) (by simp) ?_;simp -dsimp;refine callK_may _ (fun hm => g2) (by simp) ?_;simp -dsimp;refine callK_may _ (fun hm => g3) (by simp) ?_;simp -dsimp;refine idxK_intro ([I 4, I 0, I 40, I 1]) (fun _ => rfl) ?_;simp -dsimp;refine idxK_intro ([I 1, I 0, I 0, I 1]) (fun _ => rfl) ?_;simp -dsimp;refine callK_may _ (fun hm => g4) (by simp) ?_;simp -dsimp;apply hK;clear hK K;exact gwp_ret (by simp [resP, tupOf])
end Go.Cur
end
section
namespace Go.Cur
open Go.AM Go.Proofs
theorem trL_none {g : Gr} {fs : List Fr} : ∀ {n : Nat}, (trL g fs n).1 < 0 → ∀ i, i < n → (ovr g fs i).Num ≤ 0
 | 0, _, i, hi => by omega
 | n + 1, h, i, hi => by
  rw [trL_succ] at h;unfold trS at h
  split at h
  ·simp only at h; omega
  ·rename_i hc
   rcases Nat.lt_succ_iff_lt_or_eq.1 hi with h1 | rfl
   ·exact trL_none h i h1
   ·refine Int.not_lt.1 fun hp => hc ⟨hp, Or.inl h⟩
theorem leL_neg {l : List Ld} {sv : List Bool} {q : Ld → Bool} {n : Nat} (h : ∀ i, i < n → bAt sv i = true → q (ldA l i) = false) : leL l sv q n < 0 := by
 refine Int.not_le.1 fun h0 => ?_;obtain ⟨h1, h2⟩ := leL_some h0;have h3 := leL_bd l sv q n;rw [h _ (by omega) h1] at h2
 cases h2
def srv (l : List Ld) (sv : List Bool) : List Ld := (l.zip sv).filterMap fun p => if p.2 = true then some p.1 else none
theorem srv_mem {l : List Ld} {sv : List Bool} {y : Ld} : y ∈ srv l sv ↔ ∃ i : Nat, l[i]? = some y ∧ sv[i]? = some true := by
 unfold srv;rw [List.mem_filterMap];constructor
 ·rintro ⟨q, hq, h⟩
  split at h
  ·rename_i hs;obtain ⟨i, hi⟩ := List.getElem?_of_mem hq;rw [List.getElem?_zip_eq_some] at hi;simp only [Option.some.injEq] at h;exact ⟨i, by rw [hi.1, h], by rw [hi.2, hs]⟩
  ·cases h
 ·rintro ⟨i, h1, h2⟩;exact ⟨(y, true), List.mem_of_getElem? (List.getElem?_zip_eq_some.2 ⟨h1, h2⟩), rfl⟩
theorem srv_len (l : List Ld) (sv : List Bool) : (srv l sv).length ≤ l.length := by
 unfold srv;refine Nat.le_trans (List.length_filterMap_le _ _) ?_;rw [List.length_zip]; exact Nat.min_le_left _ _
theorem srv_snoc {l : List Ld} {sv : List Bool} {k : Nat} {f : Ld} {b : Bool} (hl : l[k]? = some f) (hs : sv[k]? = some b) : srv (l.take (k + 1)) (sv.take (k + 1)) = srv (l.take k) (sv.take k) ++ if b = true then [f] else [] := by
 have hk := (List.getElem?_eq_some_iff.1 hl).1;have hk2 := (List.getElem?_eq_some_iff.1 hs).1;unfold srv;rw [List.take_add_one, List.take_add_one, hl, hs, List.zip_append (by simp; omega), List.filterMap_append]
 cases b <;> simp
theorem srv_cur (x : Int) : ∀ (l : List Ld) (sv : List Bool) (c : Int), (l.zip sv).foldl (curS x) c = ((srv l sv).zip (List.replicate (srv l sv).length true)).foldl (curS x) c
 | [], _, c => by simp [srv]
 | y :: l, [], c => by simp [srv]
 | y :: l, b :: sv, c => by
  have ih := srv_cur x l sv
  cases b with
  | false =>
   have e : srv (y :: l) (false :: sv) = srv l sv := by simp [srv]
   rw [e, ← ih, List.zip_cons_cons, List.foldl_cons]
   congr 1
  | true =>
   have e : srv (y :: l) (true :: sv) = y :: srv l sv := by simp [srv]
   rw [e, List.length_cons, List.replicate_succ, List.zip_cons_cons, List.zip_cons_cons, List.foldl_cons, List.foldl_cons, ih]
theorem srv_igt (l : List Ld) (sv : List Bool) (x : Int) : igt (tkK (srv l sv) (allS (srv l sv))) x = igt (tkK l sv) x := by
 rw [tkK_get, tkK_get];exact (srv_cur x l sv 0).symm
theorem srv_ok {g : Gr} {l : List Ld} (h : LdOk g l) (sv : List Bool) : LdOk g (srv l sv) := by
 have hm : ∀ y ∈ srv l sv, y ∈ l := fun y hy => by
  obtain ⟨i, h1, _⟩ := srv_mem.1 hy;exact List.mem_of_getElem? h1
 refine ⟨fun y hy => h.at_ y (hm y hy), fun y hy => h.un y (hm y hy), fun y hy => h.rk y (hm y hy), ?_⟩;have key : ∀ (l : List Ld) (sv : List Bool), (l.map fun y => y.At).Nodup → ((srv l sv).map fun y => y.At).Nodup := by
  intro l
  induction l with
  | nil => intro sv _; simp [srv]
  | cons y l ih =>
   intro sv hn;rw [List.map_cons, List.nodup_cons] at hn
   cases sv with
   | nil => simp [srv]
   | cons b sv =>
    cases b with
    | false =>
     have e : srv (y :: l) (false :: sv) = srv l sv := by simp [srv]
     rw [e]; exact ih sv hn.2
    | true =>
     have e : srv (y :: l) (true :: sv) = y :: srv l sv := by simp [srv]
     rw [e, List.map_cons, List.nodup_cons];refine ⟨fun hy => hn.1 ?_, ih sv hn.2⟩;obtain ⟨z, hz, e⟩ := List.mem_map.1 hy;obtain ⟨i, h1, _⟩ := srv_mem.1 hz;exact List.mem_map.2 ⟨z, List.mem_of_getElem? h1, e⟩
 have hn : (l.map fun y => y.At).Nodup := by
  rw [List.nodup_iff_pairwise_ne, List.pairwise_iff_getElem];intro i j hi hj hij e;rw [List.length_map] at hi hj;rw [List.getElem_map, List.getElem_map] at e;have := h.one i j _ _ (List.getElem?_eq_getElem hi) (List.getElem?_eq_getElem hj) e;omega
 have hk := key l sv hn;intro i j y z hi hj e;have hil := (List.getElem?_eq_some_iff.1 hi).1;exact (List.getElem?_inj (by rw [List.length_map]; exact hil) hk).1 (by rw [List.getElem?_map, List.getElem?_map, hi, hj]; simp [e])
theorem ld_to {g : Gr} {l : List Ld} (h : LdOk g l) : ∀ k, k ≤ l.length → ldTo g l k = true
 | 0, _ => rfl
 | k + 1, hk => by
  obtain ⟨f, hf⟩ : ∃ f, l[k]? = some f := ⟨_, List.getElem?_eq_getElem (by omega)⟩;have hm := List.mem_of_getElem? hf;have h1 := h.at_ f hm;have h2 := h.un f hm;have h3 := h.rk f hm;have hany : ((l.take k).any fun x => decide (x.At = f.At)) = false := by
   rw [List.any_eq_false];intro x hx e;rw [decide_eq_true_eq] at e;obtain ⟨i, hi⟩ := List.getElem?_of_mem hx;have hik := (List.getElem?_eq_some_iff.1 hi).1;rw [List.length_take] at hik;rw [List.getElem?_take, if_pos (by omega)] at hi;have := h.one i k x f hi hf e;omega
  simp only [ldTo, ld_to h k (by omega), hf, ldB, hany, Bool.true_and, Bool.not_false, Bool.and_true, Bool.and_eq_true, inr_iff];omega
section
variable {g : Gr} {s : Sta} {p : List Nat} {us us' : Kvs}
theorem pvol_congr (h : ∀ x, igt us x = igt us' x) : pvol g s us p = pvol g s us' p := by
 have e1 : sumU us p = sumU us' p := by
  unfold sumU;have : (fun x : Nat => igt us x) = fun x : Nat => igt us' x := funext fun x => h x;exact congrArg (fun f => sm f p) this
 have e2 : noneU us p = noneU us' p := by
  unfold noneU;have : (fun x : Nat => igt us x == 0) = fun x : Nat => igt us' x == 0 := funext fun x => by rw [h]
  rw [this]
 have e3 : ptO g s us p = ptO g s us' p := by
  unfold ptO Pt;have : (fun x : Nat => igt us x) = fun x : Nat => igt us' x := funext fun x => h x;rw [this]
 unfold pvol;rw [e1, e2, e3]
theorem vfS_congr (h : ∀ x, igt us x = igt us' x) : vfS g s us = vfS g s us' := by
 funext k
 unfold vfS;rw [pvol_congr h]
theorem okS_congr (h : ∀ x, igt us x = igt us' x) : okS g s us = okS g s us' := by
 unfold okS
 congr 1
 funext p
 rw [pvol_congr h]
theorem pvol_tight (hnt : NetOk g s) (hp : p ∈ partL g s) (h5 : p.length ≤ 5) (hus : ∀ x, -40 ≤ igt us x ∧ igt us x ≤ 40) (hok : (pvol g s us p).2.2 = true) :
  0 < (pvol g s us p).2.1 ∧ (pvol g s us p).2.1 ≤ 2000000000 ∧ ∀ x ∈ (pvol g s us p).1, x.natAbs ≤ 7000000000000 := by
 unfold pvol at hok ⊢
 by_cases h : feedL g s (upN p) = []
 ·rw [if_pos h];refine ⟨show (0 : Int) < 1 by decide, show (1 : Int) ≤ 2000000000 by decide, fun x hx => ?_⟩;have : x = 0 := (List.mem_replicate.1 hx).2;omega
 ·rw [if_neg h] at hok ⊢
  by_cases h1 : sumU us p < 0
  ·rw [if_pos h1] at hok; cases hok
  ·rw [if_neg h1] at hok ⊢
   by_cases h2 : sumU us p = 0
   ·rw [if_pos h2];obtain ⟨z1, z2, z3⟩ := Pt_small0T (us := us) hnt hp h5 rfl hus (p.getD 0 0) rfl;change ∀ k, ((ptO g s us p).num0 (p.getD 0 0) k).natAbs ≤ _ at z1;change 0 < (ptO g s us p).den0 (p.getD 0 0) at z2;change (ptO g s us p).den0 (p.getD 0 0) ≤ _ at z3;refine ⟨z2, by simp only; omega, fun x hx => ?_⟩;obtain ⟨k, _, rfl⟩ := List.mem_map.1 hx;have key : ∀ b, b < (feedL g s (upN p)).length → -20000000000 ≤ (ptO g s us p).V b * (ptO g s us p).den0 (p.getD 0 0) - (ptO g s us p).num0 (p.getD 0 0) ((ptO g s us p).p b) ∧ (ptO g s us p).V b * (ptO g s us p).den0 (p.getD 0 0) - (ptO g s us p).num0 (p.getD 0 0) ((ptO g s us p).p b) ≤ 20000000000 := by
     intro b hb;have hf := feed_at hnt rfl hb;have h3 := z1 ((ptO g s us p).p b);have h4 : 0 ≤ (ptO g s us p).V b ∧ (ptO g s us p).V b ≤ 1000 := by
      show 0 ≤ (fdI g _).Volts ∧ (fdI g _).Volts ≤ 1000;omega
     have h5 := Int.mul_nonneg h4.1 (Int.le_of_lt z2);have h6 := Int.mul_le_mul h4.2 z3 (Int.le_of_lt z2) (by omega);omega
    have hpos : 0 < (feedL g s (upN p)).length := List.length_pos_iff.2 h;have h3 := shiftL_bd (B := 20000000000) ((List.range (feedL g s (upN p)).length).map fun b => (ptO g s us p).V b * (ptO g s us p).den0 (p.getD 0 0) - (ptO g s us p).num0 (p.getD 0 0) ((ptO g s us p).p b)) _ (key 0 hpos) fun x hx => by
     obtain ⟨b, hb, rfl⟩ := List.mem_map.1 hx;exact key b (List.mem_range.1 hb)
    have h4 := z1 k;omega
   ·rw [if_neg h2];obtain ⟨k1, k2, k3, k4⟩ := mask0_ok (P := ptO g s us p) (Pt_ok hnt hp rfl) (m := (feedL g s (upN p)).length) rfl (by intro e; exact h (List.length_eq_zero_iff.1 e)) (by rw [sumU_pt]; omega);obtain ⟨z1, z2, z3⟩ := Pt_smallT (us := us) hnt hp h5 rfl hus _ (bit_ex k1 k2);refine ⟨z2, z3, fun x hx => ?_⟩;obtain ⟨k, _, rfl⟩ := List.mem_map.1 hx;exact z1 k
end
end Go.Cur
end
section
namespace Go.Cur
open Go.AM Go.Proofs
theorem bAt_set {l : List Bool} {i j : Nat} (h : bAt (l.set i false) j = true) : bAt l j = true := by
 unfold bAt at h ⊢
 by_cases hij : i = j
 ·subst hij
  by_cases hl : i < l.length
  ·rw [List.getElem?_set_self hl] at h; cases h
  ·rw [List.getElem?_eq_none (by simp; omega)] at h; cases h
 ·rwa [List.getElem?_set_ne hij] at h
section
variable {g : Gr} {wi : List Bool} {l : List Ld}
theorem step_none {z : SS} (h : stepZ g wi l z = none) : rDead g wi l z = none ∧ rRet g wi l z = none ∧ rLow g wi l z = none ∧ rTrip g wi l z = none := by
 unfold stepZ at h
 cases h1 : rDead g wi l z with
 | some a => rw [h1] at h; cases h
 | none =>
  rw [h1] at h
  cases h2 : rRet g wi l z with
  | some a => rw [h2] at h; cases h
  | none =>
   rw [h2] at h
   cases h3 : rLow g wi l z with
   | some a => rw [h3] at h; cases h
   | none =>
    rw [h3] at h
    cases h4 : rTrip g wi l z with
    | some a => rw [h4] at h; cases h
    | none => exact ⟨rfl, rfl, rfl, rfl⟩
theorem none_step {z : SS} (h1 : rDead g wi l z = none) (h2 : rRet g wi l z = none) (h3 : rLow g wi l z = none) (h4 : rTrip g wi l z = none) : stepZ g wi l z = none := by
 unfold stepZ;rw [h1, h2, h3, h4]; rfl
theorem fe_step {z z' : SS} (h : stepZ g wi l z = some z') : ∀ i, bAt z'.fe i = true → bAt z.fe i = true := by
 unfold stepZ at h
 cases h1 : rDead g wi l z with
 | some a =>
  rw [h1] at h;simp only [Option.orElse_some, Option.some.injEq] at h;subst h;unfold rDead at h1;rw [Option.map_eq_some_iff] at h1;obtain ⟨i, _, rfl⟩ := h1;exact fun _ h => h
 | none =>
  rw [h1] at h
  cases h2 : rRet g wi l z with
  | some a =>
   rw [h2] at h;simp only [Option.orElse_none, Option.orElse_some, Option.some.injEq] at h;subst h;unfold rRet at h2
   split at h2
   ·simp only [Option.some.injEq] at h2; subst h2; exact fun _ h => h
   ·cases h2
  | none =>
   rw [h2] at h
   cases h3 : rLow g wi l z with
   | some a =>
    rw [h3] at h;simp only [Option.orElse_none, Option.orElse_some, Option.some.injEq] at h;subst h;unfold rLow at h3
    split at h3
    ·simp only [Option.some.injEq] at h3; subst h3; exact fun _ h => h
    ·cases h3
   | none =>
    rw [h3] at h;simp only [Option.orElse_none] at h;unfold rTrip at h
    split at h
    ·simp only [Option.some.injEq] at h; subst h; exact fun _ h => bAt_set h
    ·cases h
theorem fe_settle : ∀ {n : Nat} {z : SS} (i : Nat), bAt (settleN g wi l n z).fe i = true → bAt z.fe i = true
 | 0, _, _, h => h
 | n + 1, z, i, h => by
  cases hs : stepZ g wi l z with
  | none => rwa [settle_stop hs] at h
  | some z' => rw [settle_step hs] at h; exact fe_step hs i (fe_settle i h)
theorem cut_settle (h : SetOk g wi l) : ∀ {n : Nat} {z : SS}, ZOk g wi l z → (settleN g wi l n z).cuts.length + cntZ (settleN g wi l n z) = z.cuts.length + cntZ z
 | 0, _, _ => rfl
 | n + 1, z, hz => by
  cases hs : stepZ g wi l z with
  | none => rw [settle_stop hs]
  | some z' =>
   rw [settle_step hs];have h1 := step_ok h hz hs;have := cut_settle h (n := n) h1.1;omega
theorem lowM_mark {s : Sta} {vf : Nat → Fr} {sv : List Bool} {i : Nat} (hc : lowC g vf l sv i = true) {y : Int} (hy : y ∈ upN (partOf g s (ldA l i).At.toNat)) : ∀ {n : Nat}, i < n → ibt (lowM g s vf l sv n) y = true
 | n + 1, hn => by
  rw [lowM_succ];unfold lowS
  rcases Nat.lt_succ_iff_lt_or_eq.1 hn with h | rfl
  ·have := lowM_mark hc hy h
   split
   ·rw [ibt_setT, this, Bool.or_true]
   ·exact this
  ·rw [if_pos hc, ibt_setT, decide_eq_true hy, Bool.true_or]
theorem lowM_none {s : Sta} {vf : Nat → Fr} {sv : List Bool} : ∀ {n : Nat}, (∀ i, i < n → lowC g vf l sv i = false) → lowM g s vf l sv n = []
 | 0, _ => rfl
 | n + 1, h => by
  rw [lowM_succ, lowM_none fun i hi => h i (by omega)];unfold lowS;rw [if_neg (by rw [h n (by omega)]; decide)]
theorem upN_self {s : Sta} (hnt : NetOk g s) {x : Int} (h0 : 0 ≤ x) (h1 : x < g.Nodes) : x ∈ upN (partOf g s x.toNat) := by
 rw [upN_mem];refine ⟨h0, ?_⟩;unfold partOf;rw [cp_mem];exact ⟨by omega, rfl⟩
theorem end_low (h : SetOk g wi l) {z : SS} (hz : ZOk g wi l z) (hl : rLow g wi l z = none) {i : Nat} (hi : i < l.length) : lowC g (vfZ g wi l z) l z.sv i = false := by
 cases hc : lowC g (vfZ g wi l z) l z.sv i with
 | false => rfl
 | true =>
  exfalso;have hn : iLow g wi l z < 0 := by
   unfold rLow at hl
   split at hl
   ·cases hl
   ·omega
  have ha := h.ld.at_ _ (List.mem_of_getElem? (ldA_get hi));have hm := lowM_mark (s := ⟨z.fe, wi⟩) hc (upN_self (h.net hz) ha.1 ha.2) hi;have hb : bAt z.sv i = true ∧ 0 < (ldA l i).Units := by
   unfold lowC at hc;simp only [Bool.and_eq_true, decide_eq_true_eq] at hc;exact ⟨hc.1, hc.2.1⟩
  have := leL_none hn i hi hb.1;unfold lowB at this;rw [hm] at this;simp [hb.2] at this
theorem end_trip (h : SetOk g wi l) {z : SS} (ht : rTrip g wi l z = none) {i : Nat} (hi : i < g.Feeds.length) : (ffF g ⟨z.fe, wi⟩ (vfZ g wi l z) i).Num ≤ (fdA g i).Limit * (ffF g ⟨z.fe, wi⟩ (vfZ g wi l z) i).Den := by
 have hn : iTrip g wi l z < 0 := by
  unfold rTrip at ht
  split at ht
  ·cases ht
  ·omega
 have := trL_none hn i hi;unfold ovr at this;simp only at this;rw [frA_fl hi] at this;omega
theorem again (h : SetOk g wi l) {z : SS} (hz : ZOk g wi l z) (hs : stepZ g wi l z = none) : settleS g wi (srv l z.sv) z.fe = z0 (srv l z.sv) z.fe := by
 obtain ⟨h1, h2, h3, h4⟩ := step_none hs;have hig : ∀ x, igt (tkK (srv l z.sv) (List.replicate (srv l z.sv).length true)) x = igt (tkK l z.sv) x := srv_igt l z.sv;have hvf : vfZ g wi (srv l z.sv) (z0 (srv l z.sv) z.fe) = vfZ g wi l z := by
  unfold vfZ z0;exact vfS_congr hig
 have hmem : ∀ i, i < (srv l z.sv).length → ∃ j, j < l.length ∧ bAt z.sv j = true ∧ ldA (srv l z.sv) i = ldA l j := fun i hi => by
  obtain ⟨j, hj, hb⟩ := srv_mem.1 (List.mem_of_getElem? (ldA_get hi));have hjl := (List.getElem?_eq_some_iff.1 hj).1;refine ⟨j, hjl, bAt_of hb, ?_⟩;have := ldA_get hjl;rw [hj] at this;exact Option.some.inj this
 unfold settleS;refine settle_stop (none_step ?_ ?_ ?_ ?_)
 ·unfold rDead;rw [Option.map_eq_none_iff, List.find?_eq_none];intro i hi;rw [List.mem_range] at hi;obtain ⟨j, hj, hb, e⟩ := hmem i hi;unfold rDead at h1;rw [Option.map_eq_none_iff, List.find?_eq_none] at h1;have := h1 j (List.mem_range.2 hj);unfold deadB at this ⊢;rw [hb] at this;rw [e];simp only [z0] at this ⊢;intro hd;simp only [Bool.and_eq_true] at hd this;exact this (by simpa using (by simpa using hd : _ ∧ _ ∧ _).2)
 ·have hn : iRet g wi l z < 0 := by
   unfold rRet at h2
   split at h2
   ·cases h2
   ·omega
  have hi2 : iRet g wi (srv l z.sv) (z0 (srv l z.sv) z.fe) < 0 := by
   refine leL_neg fun i hi _ => ?_;obtain ⟨j, hj, hb, e⟩ := hmem i hi;have := leL_none hn j hj hb;rw [e];unfold retB at this ⊢;have es : ∀ p, sumU (tkK (srv l z.sv) (z0 (srv l z.sv) z.fe).sv) p = sumU (tkK l z.sv) p := fun p => by
    unfold sumU;have : (fun x : Nat => igt (tkK (srv l z.sv) (z0 (srv l z.sv) z.fe).sv) x) = fun x : Nat => igt (tkK l z.sv) x := funext fun x => hig x;exact congrArg (fun f => sm f p) this
   rw [es];exact this
  unfold rRet;rw [if_neg (by omega)]
 ·have hi2 : iLow g wi (srv l z.sv) (z0 (srv l z.sv) z.fe) < 0 := by
   refine leL_neg fun i hi _ => ?_;have : lowM g ⟨(z0 (srv l z.sv) z.fe).fe, wi⟩ (vfZ g wi (srv l z.sv) (z0 (srv l z.sv) z.fe)) (srv l z.sv) (z0 (srv l z.sv) z.fe).sv (srv l z.sv).length = [] := by
    refine lowM_none fun i hi => ?_;obtain ⟨j, hj, hb, e⟩ := hmem i hi;have := end_low h hz h3 hj;rw [hvf];unfold lowC at this ⊢;rw [hb, Bool.true_and] at this;rw [e, this, Bool.and_false]
   rw [this];unfold lowB;rw [ibt_nil, Bool.and_false]
  unfold rLow;rw [if_neg (by omega)]
 ·have : iTrip g wi (srv l z.sv) (z0 (srv l z.sv) z.fe) = iTrip g wi l z := by
   unfold iTrip;rw [hvf]; rfl
  have hn : iTrip g wi l z < 0 := by
   unfold rTrip at h4
   split at h4
   ·cases h4
   ·omega
  unfold rTrip;rw [this, if_neg (by omega)]
end
theorem cnt_snoc {l : List Bool} {k : Nat} (h : k < l.length) : cntT (l.take (k + 1)) = cntT (l.take k) + if bAt l k = true then 1 else 0 := by
 have gen : ∀ a b : List Bool, cntT (a ++ b) = cntT a + cntT b := by
  intro a
  induction a with
  | nil => intro b; simp [cntT]
  | cons x a ih => intro b; simp only [List.cons_append, cntT, ih]; omega
 rw [List.take_add_one, bAt_get h, gen];simp [cntT]
theorem cnt_rep : ∀ n, cntT (List.replicate n true) = n
 | 0 => rfl
 | n + 1 => by rw [List.replicate_succ, cntT, cnt_rep]; simp; omega
end Go.Cur
end
