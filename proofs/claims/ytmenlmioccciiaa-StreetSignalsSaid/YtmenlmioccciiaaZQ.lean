/- Walks: the specification's signal, second by second. -/
import Derived.Test.YtmenlmioccciiaaZP
namespace Go.Street
open Go.AM Go.Proofs
set_option maxRecDepth 10000
set_option maxHeartbeats 8000000
set_option linter.unusedVariables false
set_option linter.unusedSimpArgs false

abbrev xRow (j : Jn) (se ph si : Int) (on : Bool) (nR nK : Nat) : Option ARow := some (.els 12 [rC j (I se) (I ph) (Bo on) (I si) (.row 1 0 nR) (.row 2 0 nK)])

theorem c_rTold (j : Jn) (d p : List Int) (hf : Fit j) (ho : JOk j) (hd : d.length ≤ 1000) (hp : p.length ≤ 1000) : PureCall Try.prog 26 [j.av, iL d, iL p] (Bo (okT j d p)) := by
  have hn1 := ho.n1; have hn2 := ho.n2
  have hnl : j.n = j.Streams.length := rfl
  have h1 := c_rRising d j.n hd (by omega) (by omega)
  have h2 := c_rRising p j.n hp (by omega) (by omega)
  rw [risB_told, hnl] at h1 h2
  refine PureCall.of_body Try.func26 rfl (by decide) (by simp [Try.ntmps26]) ?_
  simp only [Try.ntmps26, Try.results26]
  refine awp_sr rfl fun K hK => ?_
  simp -dsimp
  refine hK _ _ ?_; clear hK K
  refine awp_seq_k fun K1 hK1 => ?_
  refine awp_sr rfl fun K hK => ?_
  simp -dsimp
  refine callK_intro _ (h1) (by simp) ?_
  simp -dsimp
  refine callK_may _ (fun hm => h2) (by simp) ?_
  simp -dsimp
  refine hK _ _ ?_; clear hK K
  refine awp_cond rfl (fun hc0 => ?_) (fun hc0 => ?_)
  · skip
    skip
    refine awp_sr rfl fun K hK => ?_
    simp -dsimp
    refine hK _ _ ?_; clear hK K
    have hb : okT j d p = false := by
      simp only [okT, hnl]
      cases hq1 : toldB j.Streams.length d <;> cases hq2 : toldB j.Streams.length p <;> simp [hq1, hq2] at hc0 ⊢
    exact awp_ret (by simp [hb])
  · skip
    skip
    simp at hc0
    have hbd := toldB_bd (n := j.n) hc0.2
    refine awp_skip ?_
    simp only [thenA, inBlockA, reduceIte, Nat.reduceEqDiff, eq_self]
    refine hK1 _ _ ?_
    refine awp_prune [1, 2, 3] ?_
    simp only [prune, List.map_cons, List.map_nil, Go.AM.look, Nat.reduceEqDiff, reduceIte]
    refine awp_seq_k fun K2 hK2 => ?_
    refine awp_sr rfl fun K hK => ?_
    simp -dsimp
    refine hK _ _ ?_; clear hK K
    refine awp_block ?_
    refine awp_prune [1, 2, 3, 7] ?_
    simp only [prune, List.map_cons, List.map_nil, Go.AM.look, Nat.reduceEqDiff, reduceIte]
    refine awp_loop_l [1, 2, 3] (α := Nat) (fun k => [(7, I k)]) (fun _ => [some (.els 6 [j.cells])]) (fun k => k ≤ p.length ∧ (p.take k).any (notPr j d) = false) (fun k => p.length - k) 0 ?_ ?_ ?_
    · exact ⟨Nat.zero_le _, rfl⟩
    · exact sub_same (by simp)
    rintro k ⟨k1, k2⟩
    simp only [List.cons_append, List.nil_append, prune, List.map_cons, List.map_nil, Go.AM.look, Nat.reduceEqDiff, reduceIte]
    refine awp_seq_k fun K3 hK3 => ?_
    refine awp_sr rfl fun K hK => ?_
    simp -dsimp
    refine hK _ _ ?_; clear hK K
    refine awp_cond rfl (fun hc1 => ?_) (fun hc1 => ?_)
    · skip
      try simp at hc1
      obtain ⟨x, hx⟩ : ∃ x, p[k]? = some x := ⟨_, List.getElem?_eq_getElem hc1⟩
      have hxb := hbd x (List.mem_of_getElem? hx)
      have gs := strm_get hxb.1 hxb.2
      have wk : IntKind.i64.wrap ((k : Int) + 1) = (k : Int) + 1 := wrap_in (by omega) (by omega)
      refine awp_skip ?_
      simp only [thenA, inBlockA, reduceIte, Nat.reduceEqDiff, eq_self]
      refine hK3 _ _ ?_
      refine awp_prune [1, 2, 3, 7] ?_
      simp only [prune, List.map_cons, List.map_nil, Go.AM.look, Nat.reduceEqDiff, reduceIte]
      refine awp_seq_k fun K4 hK4 => ?_
      refine awp_block ?_
      refine awp_sd mixed rfl fun K hK => ?_
      simp -dsimp [hx]
      refine callK_intro _ (c_rHas d x (by omega)) (by simp) ?_
      simp -dsimp [hx]
      refine idxK_intro (nCell x) (fun _ => by simp [hx]) ?_
      simp -dsimp [hx]
      refine ⟨by intros; exact hxb.1, idxK_intro (strm j x).cells (fun _ => by simp [gs]) ?_⟩
      simp -dsimp
      refine hK _ _ _ (by decide +kernel) ?_; clear hK K
      refine awp_cond rfl (fun hc2 => ?_) (fun hc2 => ?_)
      · skip
        have hnp : notPr j d x = (!decide (x ∈ d) || (strm j x).Kind != 1) := by unfold notPr; rw [Bool.or_comm]; simp [bne, beq_d]
        refine awp_sr rfl fun K hK => ?_
        simp -dsimp
        refine hK _ _ ?_; clear hK K
        have hb : okT j d p = false := by
          have hany : p.any (notPr j d) = true := by rw [List.any_eq_true]; exact ⟨x, List.mem_of_getElem? hx, by rw [hnp]; simpa using hc2⟩
          simp [okT, hany]
        exact awp_ret (by simp [hb])
      · skip
        have hnp : notPr j d x = (!decide (x ∈ d) || (strm j x).Kind != 1) := by unfold notPr; rw [Bool.or_comm]; simp [bne, beq_d]
        refine awp_skip ?_
        simp only [thenA, inBlockA, reduceIte, Nat.reduceEqDiff, eq_self]
        refine hK4 _ _ ?_
        refine awp_prune [1, 2, 3, 7] ?_
        simp only [prune, List.map_cons, List.map_nil, Go.AM.look, Nat.reduceEqDiff, reduceIte]
        refine awp_r rfl fun K hK => ?_
        simp -dsimp [wk]
        refine hK _ _ ?_; clear hK K
        simp only [thenA, inBlockA, reduceIte, Nat.reduceEqDiff, eq_self]
        exact ⟨k + 1, ⟨by omega, by rw [any_take hx, k2, hnp]; simpa using hc2⟩, by omega, sub_rb [some 0] rfl (by simp) (by simp)⟩
    · skip
      try simp at hc1
      have hany := any_of_take (by omega) k2
      refine awp_exit ?_
      simp only [thenA, inBlockA, reduceIte, Nat.reduceEqDiff, eq_self]
      refine hK2 _ _ ?_
      refine awp_prune [] ?_
      simp only [prune, List.map_cons, List.map_nil, Go.AM.look, Nat.reduceEqDiff, reduceIte]
      refine awp_sr rfl fun K hK => ?_
      simp -dsimp
      refine hK _ _ ?_; clear hK K
      have hb : okT j d p = true := by simp only [okT, hany, hnl]; simp [hc0]
      exact awp_ret (by simp [hb])

theorem m_rgrow (j : Jn) (se ph si : Int) (on : Bool) (ls : List Lt) (sk : List Int) (hf : Fit j) (ho : JOk j) (hl : ls.length = j.n) (hk : sk.length = j.Phases.length) (hse : smallT se) (hlt : ∀ l ∈ ls, smallT l.Since) (p0 : 0 ≤ ph) (p1 : ph < j.Phases.length) :
    MutCall Try.prog 59 [.ptr 0 0 0] [xRow j se ph si on ls.length sk.length] [rRow ls, kRow sk] (.tup [])
      [xRow j se ph (if (arrF j se (rowAt j.Phases ph) ls).2 then se else si) ((arrF j se (rowAt j.Phases ph) ls).2 || on) ls.length sk.length] [rRow (arrF j se (rowAt j.Phases ph) ls).1, kRow sk] := by
  have hph := ho.phase p0 p1
  have hpl := hf.ps _ (List.mem_of_getElem? hph.1)
  have hn2 := ho.n2
  refine MutCall.of_bodyG [0] Try.func59 rfl (by decide) (by simp [Try.ntmps59]) rfl rfl ?_
  intro J hJ
  simp only [Try.ntmps59, Try.results59]
  refine gwp_sd mixed rfl (by decide) rfl rfl fun K hK => ?_
  simp -dsimp [hph.1, p0]
  refine hK _ _ _ (by decide +kernel) ?_; clear hK K
  refine gwp_sr rfl (by decide) rfl rfl fun K hK => ?_
  simp -dsimp
  refine hK _ _ ?_; clear hK K
  refine gwp_seq_k fun K1 hK1 => ?_
  refine gwp_sr rfl (by decide) rfl rfl fun K hK => ?_
  simp -dsimp
  refine hK _ _ ?_; clear hK K
  refine gwp_block ?_
  refine gwp_prune [0, 2, 3, 4] (Or.inr (by simp)) ?_
  simp only [prune, List.map_cons, List.map_nil, Go.AM.look, Nat.reduceEqDiff, reduceIte]
  refine gwp_loop_l [0, 2] (α := Nat) (fun k => [(3, Bo (arrF j se ((rowAt j.Phases ph).take k) ls).2), (4, I k)]) (fun k => [xRow j se ph si on ls.length sk.length, rRow (arrF j se ((rowAt j.Phases ph).take k) ls).1, kRow sk]) (fun k => k ≤ (rowAt j.Phases ph).length) (fun k => (rowAt j.Phases ph).length - k) 0 ?_ ?_ ?_
  · exact Nat.zero_le _
  · exact gsub (sub_rb [some 0, some 1, some 2] rfl (by simp [arrF]) (by simp [arrF])) (by simp)
  rintro k k1
  simp only [List.cons_append, List.nil_append, prune, List.map_cons, List.map_nil, Go.AM.look, Nat.reduceEqDiff, reduceIte]
  refine gwp_seq_k fun K2 hK2 => ?_
  refine gwp_sr rfl (by decide) rfl rfl fun K hK => ?_
  simp -dsimp
  refine hK _ _ ?_; clear hK K
  refine gwp_cond rfl (fun hc0 => ?_) (fun hc0 => ?_)
  · skip
    skip
    have hkl : k < (rowAt j.Phases ph).length := by simpa using hc0
    have gx := at0_nat hkl
    have hxb := hph.2.2.1 _ (List.mem_of_getElem? gx)
    have wk : IntKind.i64.wrap ((k : Int) + 1) = (k : Int) + 1 := wrap_in (by omega) (by omega)
    generalize at0 (rowAt j.Phases ph) k = x at gx hxb
    have hsn := arrF_snoc (j := j) (se := se) (ls := ls) gx
    have hln := arrF_len j se ((rowAt j.Phases ph).take k) ls
    have hbd := arrF_bd (j := j) hse ((rowAt j.Phases ph).take k) hlt
    generalize arrF j se ((rowAt j.Phases ph).take k) ls = st at hsn hln hbd ⊢
    obtain ⟨L, al⟩ := st
    simp only at hsn hln hbd ⊢
    have gl := ltAt_get (l := L) (i := x) hxb.1 (by omega)
    have hxl : x < (ls.length : Int) := by omega
    have htL : List.take ls.length (L.map Lt.cells) = L.map Lt.cells := List.take_of_length_le (by simp; omega)
    simp only [arrStep] at hsn
    refine gwp_skip ?_
    simp only [thenA, inBlockA, reduceIte, Nat.reduceEqDiff, eq_self]
    refine hK2 _ _ ?_
    refine gwp_prune [0, 2, 3, 4] (Or.inr (by simp)) ?_
    simp only [prune, List.map_cons, List.map_nil, Go.AM.look, Nat.reduceEqDiff, reduceIte]
    refine gwp_seq_k fun K3 hK3 => ?_
    refine gwp_block ?_
    refine gwp_sr rfl (by decide) rfl rfl fun K hK => ?_
    simp -dsimp [gx]
    refine hK _ _ ?_; clear hK K
    refine gwp_sr rfl (by decide) rfl rfl fun K hK => ?_
    simp -dsimp
    refine hK _ _ ?_; clear hK K
    refine gwp_seq_k fun K4 hK4 => ?_
    refine gwp_sr rfl (by decide) rfl rfl fun K hK => ?_
    simp -dsimp
    refine hK _ _ ?_; clear hK K
    refine gwp_block ?_
    refine gwp_prune [0, 2, 3, 4, 5, 6, 7] (Or.inr (by simp)) ?_
    simp only [prune, List.map_cons, List.map_nil, Go.AM.look, Nat.reduceEqDiff, reduceIte]
    refine gwp_loop_l [0, 2, 3, 4, 5] (α := Nat) (fun a => [(6, Bo (!(List.range a).any (hinders j se L x))), (7, I a)]) (fun a => [xRow j se ph si on ls.length sk.length, rRow L, kRow sk]) (fun a => a ≤ ls.length) (fun a => ls.length - a) 0 ?_ ?_ ?_
    · exact Nat.zero_le _
    · exact gsub (sub_rb [some 0, some 1, some 2] rfl (by simp) (by simp)) (by simp)
    rintro a a1
    simp only [List.cons_append, List.nil_append, prune, List.map_cons, List.map_nil, Go.AM.look, Nat.reduceEqDiff, reduceIte]
    refine gwp_seq_k fun K5 hK5 => ?_
    refine gwp_sr rfl (by decide) rfl rfl fun K hK => ?_
    simp -dsimp
    refine hK _ _ ?_; clear hK K
    refine gwp_cond rfl (fun hc1 => ?_) (fun hc1 => ?_)
    · skip
      skip
      have hal : a < ls.length := by simpa using hc1
      have ga := ltAt_nat (l := L) (k := a) (by omega)
      have hla := hbd _ (List.mem_of_getElem? ga)
      have wa : IntKind.i64.wrap ((a : Int) + 1) = (a : Int) + 1 := wrap_in (by omega) (by omega)
      have gr := ho.sqr.row (a := (a : Int)) (by omega) (by omega)
      have gc := ho.sqr.get (a := (a : Int)) (b := x) (by omega) (by omega) hxb.1 hxb.2
      have hcf := c_rConf j a x ho.sqr (by omega) (by omega) hxb.1 hxb.2
      simp only [Int.toNat_natCast] at gr
      have hhi : hinders j se L x a = (conf j a x && ((ltAt L a).Green || decide (se - (ltAt L a).Since < clr j a x))) := rfl
      generalize ltAt L a = l at ga hla hhi
      unfold smallT at hse hla
      have wd : IntKind.i64.wrap (se - l.Since) = se - l.Since := wrap_in (by omega) (by omega)
      refine gwp_skip ?_
      simp only [thenA, inBlockA, reduceIte, Nat.reduceEqDiff, eq_self]
      refine hK5 _ _ ?_
      refine gwp_prune [0, 2, 3, 4, 5, 6, 7] (Or.inr (by simp)) ?_
      simp only [prune, List.map_cons, List.map_nil, Go.AM.look, Nat.reduceEqDiff, reduceIte]
      refine gwp_seq_k fun K6 hK6 => ?_
      refine gwp_block ?_
      refine gwp_sd mixed rfl (by decide) rfl rfl fun K hK => ?_
      simp -dsimp [wd, hal, htL, ga, hxb.1]
      refine callK_intro _ (hcf) (by simp) ?_
      simp -dsimp [wd, hal, htL, ga, hxb.1]
      refine idxK_intro (rCell (rowAt j.Clears a)) (fun _ => by simp [gr.1]) ?_
      simp -dsimp [wd, hal, htL, ga, hxb.1]
      refine idxK_intro (nCell (clr j a x)) (fun _ => by simp [gc]) ?_
      simp -dsimp [wd, hal, htL, ga, hxb.1]
      refine hK _ _ _ (by decide +kernel) ?_; clear hK K
      refine gwp_cond rfl (fun hc2 => ?_) (fun hc2 => ?_)
      · skip
        skip
        refine gwp_r rfl (by decide) rfl rfl fun K hK => ?_
        simp -dsimp
        refine hK _ _ ?_; clear hK K
        simp only [thenA, inBlockA, reduceIte, Nat.reduceEqDiff, eq_self]
        refine hK6 _ _ ?_
        refine gwp_prune [0, 2, 3, 4, 5, 6, 7] (Or.inr (by simp)) ?_
        simp only [prune, List.map_cons, List.map_nil, Go.AM.look, Nat.reduceEqDiff, reduceIte]
        refine gwp_r rfl (by decide) rfl rfl fun K hK => ?_
        simp -dsimp [wa]
        refine hK _ _ ?_; clear hK K
        simp only [thenA, inBlockA, reduceIte, Nat.reduceEqDiff, eq_self]
        have hh : hinders j se L x a = true := by rw [hhi]; exact hc2
        exact ⟨a + 1, by omega, by omega, gsub (sub_rb [some 0, some 1, some 2] rfl (by simp [List.range_succ, hh]) (by simp)) (by simp)⟩
      · skip
        skip
        refine gwp_skip ?_
        simp only [thenA, inBlockA, reduceIte, Nat.reduceEqDiff, eq_self]
        refine hK6 _ _ ?_
        refine gwp_prune [0, 2, 3, 4, 5, 6, 7] (Or.inr (by simp)) ?_
        simp only [prune, List.map_cons, List.map_nil, Go.AM.look, Nat.reduceEqDiff, reduceIte]
        refine gwp_r rfl (by decide) rfl rfl fun K hK => ?_
        simp -dsimp [wa]
        refine hK _ _ ?_; clear hK K
        simp only [thenA, inBlockA, reduceIte, Nat.reduceEqDiff, eq_self]
        have hh : hinders j se L x a = false := by rw [hhi]; exact hc2
        exact ⟨a + 1, by omega, by omega, gsub (sub_rb [some 0, some 1, some 2] rfl (by simp [List.range_succ, hh]) (by simp)) (by simp)⟩
    · skip
      skip
      have hal : ¬ a < ls.length := by simpa using hc1
      have hae : a = L.length := by omega
      have hcl : (!(List.range a).any (hinders j se L x)) = clearB j se L x := by rw [hae]; rfl
      rw [hcl]
      refine gwp_exit ?_
      simp only [thenA, inBlockA, reduceIte, Nat.reduceEqDiff, eq_self]
      refine hK4 _ _ ?_
      refine gwp_prune [0, 2, 3, 4, 5, 6] (Or.inr (by simp)) ?_
      simp only [prune, List.map_cons, List.map_nil, Go.AM.look, Nat.reduceEqDiff, reduceIte]
      refine gwp_seq_k fun K7 hK7 => ?_
      refine gwp_sr rfl (by decide) rfl rfl fun K hK => ?_
      simp -dsimp [hxb.1, hxl, gl]
      refine hK _ _ ?_; clear hK K
      refine gwp_cond rfl (fun hc3 => ?_) (fun hc3 => ?_)
      · skip
        skip
        have gset : ((L.map Lt.cells).set x.toNat [AV.v (Value.bool true), AV.v (Value.int IntKind.i64 se)])[x.toNat]? = some [AV.v (Value.bool true), AV.v (Value.int IntKind.i64 se)] := List.getElem?_set_self (by simp; omega)
        refine gwp_draw mixed rfl (by decide) rfl rfl fun K hK => ?_
        simp -dsimp [hxb.1, hxl, gl]
        refine hK _ _ _ (by decide +kernel) ?_; clear hK K
        simp only [thenA, inBlockA, reduceIte, Nat.reduceEqDiff, eq_self]
        refine hK7 _ _ ?_
        refine gwp_prune [0, 2, 3, 4, 5] (Or.inr (by simp)) ?_
        simp only [prune, List.map_cons, List.map_nil, Go.AM.look, Nat.reduceEqDiff, reduceIte]
        refine gwp_r rfl (by decide) rfl rfl fun K hK => ?_
        simp -dsimp [hxb.1, hxl, gset]
        refine hK _ _ ?_; clear hK K
        simp only [thenA, inBlockA, reduceIte, Nat.reduceEqDiff, eq_self]
        refine hK3 _ _ ?_
        refine gwp_prune [0, 2, 3, 4] (Or.inr (by simp)) ?_
        simp only [prune, List.map_cons, List.map_nil, Go.AM.look, Nat.reduceEqDiff, reduceIte]
        refine gwp_r rfl (by decide) rfl rfl fun K hK => ?_
        simp -dsimp [wk]
        refine hK _ _ ?_; clear hK K
        simp only [thenA, inBlockA, reduceIte, Nat.reduceEqDiff, eq_self]
        obtain ⟨h1, h2⟩ : (ltAt L x).Green = false ∧ clearB j se L x = true := by cases hq : (ltAt L x).Green <;> simp [hq] at hc3 ⊢; exact hc3
        have hst : arrF j se ((rowAt j.Phases ph).take (k + 1)) ls = (L.set x.toNat ⟨true, se⟩, al) := by rw [hsn, if_neg (by simp [h1]), if_pos h2]
        exact ⟨k + 1, by omega, by omega, gsub (sub_rb [some 0, some 1, some 2] rfl (by simp [hst]) (by simp [hst, List.map_set])) (by simp)⟩
      · skip
        skip
        refine gwp_skip ?_
        simp only [thenA, inBlockA, reduceIte, Nat.reduceEqDiff, eq_self]
        refine hK7 _ _ ?_
        refine gwp_prune [0, 2, 3, 4, 5] (Or.inr (by simp)) ?_
        simp only [prune, List.map_cons, List.map_nil, Go.AM.look, Nat.reduceEqDiff, reduceIte]
        refine gwp_r rfl (by decide) rfl rfl fun K hK => ?_
        simp -dsimp [hxb.1, hxl, gl, htL]
        refine hK _ _ ?_; clear hK K
        simp only [thenA, inBlockA, reduceIte, Nat.reduceEqDiff, eq_self]
        refine hK3 _ _ ?_
        refine gwp_prune [0, 2, 3, 4] (Or.inr (by simp)) ?_
        simp only [prune, List.map_cons, List.map_nil, Go.AM.look, Nat.reduceEqDiff, reduceIte]
        refine gwp_r rfl (by decide) rfl rfl fun K hK => ?_
        simp -dsimp [wk]
        refine hK _ _ ?_; clear hK K
        simp only [thenA, inBlockA, reduceIte, Nat.reduceEqDiff, eq_self]
        have hst : arrF j se ((rowAt j.Phases ph).take (k + 1)) ls = (L, al && (ltAt L x).Green) := by rw [hsn]; cases hq : (ltAt L x).Green <;> simp [hq] at hc3 ⊢; simp [hc3]
        exact ⟨k + 1, by omega, by omega, gsub (sub_rb [some 0, some 1, some 2] rfl (by simp [hst]) (by simp [hst])) (by simp)⟩
  · skip
    skip
    have hkk : ¬ k < (rowAt j.Phases ph).length := by simpa using hc0
    have htk : (rowAt j.Phases ph).take k = rowAt j.Phases ph := List.take_of_length_le (by omega)
    rw [htk]
    generalize hst : arrF j se (rowAt j.Phases ph) ls = st
    obtain ⟨L, al⟩ := st
    simp only
    refine gwp_exit ?_
    simp only [thenA, inBlockA, reduceIte, Nat.reduceEqDiff, eq_self]
    refine hK1 _ _ ?_
    refine gwp_prune [0, 3] (Or.inr (by simp)) ?_
    simp only [prune, List.map_cons, List.map_nil, Go.AM.look, Nat.reduceEqDiff, reduceIte]
    refine gwp_sr rfl (by decide) rfl rfl fun K hK => ?_
    simp -dsimp
    refine hK _ _ ?_; clear hK K
    refine gwp_cond rfl (fun hc4 => ?_) (fun hc4 => ?_)
    · skip
      skip
      refine gwp_r rfl (by decide) rfl rfl fun K hK => ?_
      simp -dsimp
      refine hK _ _ ?_; clear hK K
      try simp only [thenA, inBlockA, reduceIte, Nat.reduceEqDiff, eq_self]
      cases al <;> simp at hc4
      exact ⟨[some 0, some 1, some 2], rfl, by simp, by simp [hst], by simp, by simp [resP, tupOf, hst]⟩
    · skip
      skip
      refine gwp_skip ?_
      try simp only [thenA, inBlockA, reduceIte, Nat.reduceEqDiff, eq_self]
      cases al <;> simp at hc4
      exact ⟨[some 0, some 1, some 2], rfl, by simp, by simp [hst], by simp, by simp [resP, tupOf, hst]⟩
end Go.Street
