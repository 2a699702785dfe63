import Derived.Test.YtdechefjlfkehaaGreatV4
set_option maxRecDepth 100000
set_option maxHeartbeats 8000000
set_option linter.unusedVariables false
set_option linter.unusedSimpArgs false
section
namespace Go.Mo
open Go.AM Go.Cur Go.Proofs
open Go.Tram (Plan validB wayB begTo mvAt movB mLst c_tWayLength_t c_tLength begTo_bd way_mov way_len len_bd movB_iff valid_parts railB railA)
abbrev Mv:=Go.Tram.Move
def slpM (p:Plan) (m:Mv):Int:=if m.Back=true then-(p.rail m.Rail).Slope else(p.rail m.Rail).Slope
def endTo (p:Plan) (l:List Mv) (k:Nat):List Int:=(List.range k).map fun i=>begTo p l (i+1)
def limTo (p:Plan) (l:List Mv) (k:Nat):List Int:=(List.range k).map fun i=>(p.rail (mvAt l i).Rail).Limit
def slpTo (p:Plan) (l:List Mv) (k:Nat):List Int:=(List.range k).map fun i=>slpM p (mvAt l i)
theorem endTo_s (p:Plan) (l:List Mv) (k:Nat):endTo p l (k+1)=endTo p l k++[begTo p l (k+1)]:=by simp[endTo,List.range_succ]
theorem limTo_s (p:Plan) (l:List Mv) (k:Nat):limTo p l (k+1)=limTo p l k++[(p.rail (mvAt l k).Rail).Limit]:=by simp[limTo,List.range_succ]
theorem slpTo_s (p:Plan) (l:List Mv) (k:Nat):slpTo p l (k+1)=slpTo p l k++[slpM p (mvAt l k)]:=by simp[slpTo,List.range_succ]
theorem endTo_len (p:Plan) (l:List Mv) (k:Nat):(endTo p l k).length=k:=by simp[endTo]
theorem limTo_len (p:Plan) (l:List Mv) (k:Nat):(limTo p l k).length=k:=by simp[limTo]
theorem slpTo_len (p:Plan) (l:List Mv) (k:Nat):(slpTo p l k).length=k:=by simp[slpTo]
structure BegOk (p:Plan) (l:List Mv) (t:Tn) (st:Int) (sp:List Int):Prop where
 ok:okT t=true
 s0:0≤st
 s1:st<t.Grip.length
 v:validB p=true
 w:wayB p l=true
 n:2≤sp.length∧sp.length≤100
 a:t.Length≤at0 sp 0
 z:at0 sp (sp.length-1)≤begTo p l l.length
 up:∀i:Nat,i+1<sp.length→at0 sp i<at0 sp (i+1:Nat)
def runOf (p:Plan) (l:List Mv) (t:Tn) (st:Int) (sp:List Int):Rn:=⟨t,st,l.map Go.Tram.Move.cells,endTo p l l.length,limTo p l l.length,slpTo p l l.length,sp⟩
theorem BegOk.mono {p :Plan} {l:List Mv} {t:Tn} {st:Int} {sp:List Int} (h:BegOk p l t st sp):∀(j i:Nat),i≤j→j<sp.length→at0 sp i≤at0 sp j
  | 0, i, hi, _ => by obtain rfl:i=0:=by omega
                      exact Int.le_refl _
  | j +1,i,hi,hj=>by
    rcases Nat.lt_or_ge i (j+1)with h1|h1
    · have:=h.mono j i (by omega) (by omega)
      have:=h.up j hj
      omega
    · obtain rfl:i=j+1:=by omega
      exact Int.le_refl _
theorem BegOk.bd {p:Plan} {l:List Mv} {t:Tn} {st:Int} {sp:List Int} (h:BegOk p l t st sp) {i:Nat} (hi:i<sp.length):t.Length≤at0 sp i∧at0 sp i≤62000000000:=by
 have h1:=h.mono i 0 (by omega) hi;have h2:=h.mono (sp.length-1) i (by omega) (by have:=h.n;omega);have h3:=h.a;have h4:=h.z;have h5:=(begTo_bd h.v h.w l.length (Nat.le_refl _)).2;have h6:=(way_len h.w).2;have e:((sp.length-1:Nat):Int)=(sp.length:Int)-1:=by have:=h.n;omega
 rw[e]at h2;have e0:((0:Nat):Int)=0:=rfl;rw[e0]at h1;exact⟨Int.le_trans h3 h1,by omega⟩
theorem rail_bd {p:Plan} (hv:validB p=true) {r:Int} (h0:0≤r) (h1:r<p.Rails.length):p.Rails[r.toNat]?=some (p.rail r)∧1≤(p.rail r).Limit∧(p.rail r).Limit≤50000∧-120≤(p.rail r).Slope∧(p.rail r).Slope≤120:=by
 obtain⟨_,_,hA,hR,_⟩:=valid_parts hv;have hg:=p.rail_get h0 h1;have hb:railB p (p.rail r)=true:=List.all_eq_true.1 hR _ (List.mem_of_getElem? hg);simp only[railB,railA,Bool.and_eq_true,Go.Tram.inr_iff,decide_eq_true_eq]at hb;obtain⟨⟨b1,b2,b3,b4,b5⟩,b6,b7⟩:=hb;exact⟨hg,b4.1,b4.2,b5.1,b5.2⟩
theorem c_mbegin (p:Plan) (l:List Mv) (t:Tn) (st:Int) (sp:List Int) (h:BegOk p l t st sp):PureCall Tryz.prog 25 [p.av,mLst l,t.av,I st,iL sp] (.tup [(runOf p l t st sp).ptr,Bo true]):=by
 have hmv:=c_moving_t t st h.ok h.s0 h.s1;have hwl:=c_tWayLength_t p l h.v h.w;have hn:=h.n;have g0:sp[0]?=some (at0 sp 0):=at0_nat (l:=sp) (k:=0) (by omega);have gz:=at0_nat (l:=sp) (k:=sp.length-1) (by omega);have ez:((sp.length-1:Nat):Int)=(sp.length:Int)-1:=by omega
 rw[ez]at gz;have l1:(1:Int)≤sp.length:=by omega
 have wz:IntKind.i64.wrap ((sp.length:Int)-1)=(sp.length:Int)-1:=wrap_in (by omega) (by omega);have ha:=h.a;have hz:=h.z;have j1:¬at0 sp 0<t.Length:=by omega
 have j2:¬begTo p l l.length<at0 sp (sp.length-1):=by omega
 have hin:inr (sp.length:Int) 2 100=true:=by rw[inr_iff];omega
 have hcw:=c_within (sp.length:Int) 2 100;rw[hin]at hcw;refine PureCall.of_body Tryz.func25 rfl (by decide) (by simp[Tryz.ntmps25]) ?_;simp only[Tryz.ntmps25,Tryz.results25];refine aS fun K hK=>?_;simp -dsimp;apply hK;clear hK K;refine aS fun K hK=>?_;simp -dsimp;refine callK_intro _ (hmv) (by simp) ?_;simp -dsimp;apply hK;clear hK K;refine aS fun K hK=>?_;simp -dsimp;refine callK_intro _ (hwl) (by simp) ?_;simp -dsimp;apply hK;clear hK K;refine awp_seq_k fun K1 hK1=>?_;refine awp_sd mixed rfl fun K hK=>?_;simp -dsimp [wz,j1,j2,l1];refine callK_may _ (fun hm=>hcw) (by simp) ?_;simp -dsimp [wz,j1,j2,l1];refine idxK_intro (nCell (at0 sp 0)) (fun _=>by simp[g0]) ?_;simp -dsimp [wz,j1,j2,l1];refine idxK_intro (nCell (at0 sp (sp.length-1))) (fun _=>by simp[gz]) ?_;simp -dsimp [wz,j1,j2,l1];refine hK _ _ _ (by decide+kernel) ?_;clear hK K;refine awp_cond rfl (fun hc0=>?_) (fun hc0=>?_)
 ·simp[j1,j2]at hc0
 ·refine awp_skip ?_;simp only[zT,reduceIte,Nat.reduceEqDiff];refine hK1 _ _ ?_;refine awp_prune [1,4,5,12] ?_;simp only[zP,Nat.reduceEqDiff,reduceIte];refine awp_seq_k fun K2 hK2=>?_;refine aS fun K hK=>?_;simp -dsimp;apply hK;clear hK K;refine awp_block ?_;refine awp_prune [1,4,5,12,16] ?_;simp only[zP,Nat.reduceEqDiff,reduceIte];refine awp_loop_l [1,4,5,12] (α:=Nat) (fun k=>[(16,I ((k:Int)+1))]) (fun _=>[some (.els 2 [p.cells]),some (.els 10 [t.cells])]) (fun k=>k+1≤sp.length) (fun k=>sp.length-k) 0 ?_ ?_ ?_
  ·show 0+1≤_;omega
  ·exact sub_rb [some 0,some 1] rfl (by simp) (by simp)
  rintro k k1;simp only[zP,Nat.reduceEqDiff,reduceIte];refine awp_seq_k fun K3 hK3=>?_;refine aS fun K hK=>?_;simp -dsimp;apply hK;clear hK K;refine awp_cond rfl (fun hc1=>?_) (fun hc1=>?_)
  ·have hkl:k+1<sp.length:=by have h:=(by simpa using hc1:(k:Int)+1<sp.length);omega
   have wk:IntKind.i64.wrap (k:Int)=k:=wrap_in (by omega) (by omega);have k0:(0:Int)≤(k:Int)+1:=by omega
   have wk2:IntKind.i64.wrap ((k:Int)+1+1)=(k:Int)+1+1:=wrap_in (by omega) (by omega);have gk:=at0_nat (l:=sp) (k:=k) (by omega);have gk1:=at0_nat (l:=sp) (k:=k+1) hkl;have hup:=h.up k hkl;have hnu:¬at0 sp (k+1:Nat)≤at0 sp k:=by omega
   refine awp_skip ?_;simp only[zT,reduceIte,Nat.reduceEqDiff];refine hK3 _ _ ?_;refine awp_prune [1,4,5,12,16] ?_;simp only[zP,Nat.reduceEqDiff,reduceIte];refine awp_seq_k fun K4 hK4=>?_;refine awp_block ?_;refine awp_sd mixed rfl fun K hK=>?_;simp -dsimp [wk,k0,gk,gk1];refine hK _ _ _ (by decide+kernel) ?_;clear hK K;refine awp_cond rfl (fun hc2=>?_) (fun hc2=>?_)
   ·exact absurd (by simpa using hc2) hnu
   ·refine awp_skip ?_;simp only[zT,reduceIte,Nat.reduceEqDiff];refine hK4 _ _ ?_;refine awp_prune [1,4,5,12,16] ?_;simp only[zP,Nat.reduceEqDiff,reduceIte];refine aR fun K hK=>?_;simp -dsimp [wk2];apply hK;clear hK K;simp only[zT,reduceIte,Nat.reduceEqDiff];exact⟨k+1,by omega,by omega,sub_rb [some 0,some 1] rfl (by simp) (by simp)⟩
  ·refine awp_exit ?_;simp only[zT,reduceIte,Nat.reduceEqDiff];refine hK2 _ _ ?_;refine awp_prune [1,4,5,12] ?_;simp only[zP,Nat.reduceEqDiff,reduceIte];refine aS fun K hK=>?_;simp -dsimp;apply hK;clear hK K;refine aS fun K hK=>?_;simp -dsimp;apply hK;clear hK K;refine awp_seq_k fun K5 hK5=>?_;refine aS fun K hK=>?_;simp -dsimp;apply hK;clear hK K;refine awp_block ?_;refine awp_prune [5,17,18,88,89,90] ?_;simp only[zP,Nat.reduceEqDiff,reduceIte];refine awp_loop_l [5,17,88,89] (α:=Nat) (fun k=>[(18,I (begTo p l k)),(90,I k)]) (fun k=>[some (.els 2 [p.cells]),some (.els 10 [t.cells]),some (.els 6 [[t.mp st,mLst l, .row 3 0 k, .row 4 0 k, .row 5 0 k,iL sp]]),some (.els 1 ((endTo p l k).map nCell)),some (.els 1 ((limTo p l k).map nCell)),some (.els 1 ((slpTo p l k).map nCell))]) (fun k=>k≤l.length) (fun k=>l.length-k) 0 ?_ ?_ ?_
   ·exact Nat.zero_le _
   ·exact(((sub_nilc 2 0 2 1 (sz0:=6) (es:=[[t.mp st,mLst l, .v (.slice none 0 0), .v (.slice none 0 0), .v (.slice none 0 0),iL sp]]) (e:=[t.mp st,mLst l, .v (.slice none 0 0), .v (.slice none 0 0), .v (.slice none 0 0),iL sp]) (by simp) (by simp) (by simp)).trans (sub_nilc 2 0 3 1 (sz0:=6) (es:=[[t.mp st,mLst l, .row 3 0 0, .v (.slice none 0 0), .v (.slice none 0 0),iL sp]]) (e:=[t.mp st,mLst l, .row 3 0 0, .v (.slice none 0 0), .v (.slice none 0 0),iL sp]) (by simp) (by simp) (by simp))).trans (sub_nilc 2 0 4 1 (sz0:=6) (es:=[[t.mp st,mLst l, .row 3 0 0, .row 4 0 0, .v (.slice none 0 0),iL sp]]) (e:=[t.mp st,mLst l, .row 3 0 0, .row 4 0 0, .v (.slice none 0 0),iL sp]) (by simp) (by simp) (by simp))).trans (sub_same (by simp[begTo,endTo,limTo,slpTo]))
   rintro k k1;simp only[zP,Nat.reduceEqDiff,reduceIte];refine aS fun K hK=>?_;simp -dsimp;apply hK;clear hK K;refine awp_seq_k fun K6 hK6=>?_;refine awp_cond rfl (fun hc3=>?_) (fun hc3=>?_)
   ·have hkl:k<l.length:=by simpa using hc3
    have wk:IntKind.i64.wrap ((k:Int)+1)=(k:Int)+1:=wrap_in (by omega) (by have:=(way_len h.w).2;omega);have gm:l[k]?=some (mvAt l k):=by unfold mvAt;rw[List.getElem?_eq_getElem hkl];rfl
    have hmb:=movB_iff.1 (way_mov h.w k hkl);have hln:=c_tLength p (mvAt l k).Rail h.v hmb.1 hmb.2;obtain⟨gr,r1,r2,r3,r4⟩:=rail_bd h.v hmb.1 hmb.2;have hb0:=begTo_bd h.v h.w k (by omega);have hb1:=begTo_bd h.v h.w (k+1) (by omega);have hll:=(way_len h.w).2;have hbs:begTo p l (k+1)=begTo p l k+p.len (mvAt l k).Rail:=rfl;have wb:IntKind.i64.wrap (begTo p l k+p.len (mvAt l k).Rail)=begTo p l k+p.len (mvAt l k).Rail:=wrap_in (by omega) (by omega);have ff:Fits (k+1) 9:=fits_of (by omega) (by omega);have he:=endTo_len p l k;have the:List.take k ((endTo p l k).map nCell)=(endTo p l k).map nCell:=List.take_of_length_le (by rw[List.length_map];omega);have hl':=limTo_len p l k;have thl':List.take k ((limTo p l k).map nCell)=(limTo p l k).map nCell:=List.take_of_length_le (by rw[List.length_map];omega);have hs':=slpTo_len p l k;have ths':List.take k ((slpTo p l k).map nCell)=(slpTo p l k).map nCell:=List.take_of_length_le (by rw[List.length_map];omega);refine awp_skip ?_;simp only[zT,reduceIte,Nat.reduceEqDiff];refine hK6 _ _ ?_;refine awp_prune [5,17,18,88,89,90] ?_;simp only[zP,Nat.reduceEqDiff,reduceIte];refine awp_seq_k fun K7 hK7=>?_;refine awp_block ?_;refine aS fun K hK=>?_;simp -dsimp [gm];apply hK;clear hK K;refine aS fun K hK=>?_;simp -dsimp;refine callK_intro _ (hln) (by simp) ?_;simp -dsimp;apply hK;clear hK K;refine awp_seq_k fun K8 hK8=>?_;refine aS fun K hK=>?_;simp -dsimp;apply hK;clear hK K;refine awp_cond rfl (fun hc4=>?_) (fun hc4=>?_)
    ·simp at hc4
    ·refine awp_skip ?_;simp only[zT,reduceIte,Nat.reduceEqDiff];refine hK8 _ _ ?_;refine awp_prune [5,17,18,20,21,88,89,90] ?_;simp only[zP,Nat.reduceEqDiff,reduceIte];refine aS fun K hK=>?_;simp -dsimp [wb];apply hK;clear hK K;refine aS fun K hK=>?_;simp -dsimp [gr,hmb.1];apply hK;clear hK K;refine aS fun K hK=>?_;simp -dsimp;apply hK;clear hK K;refine awp_seq_k fun K9 hK9=>?_;refine aS fun K hK=>?_;simp -dsimp;apply hK;clear hK K;refine awp_cond rfl (fun hc5=>?_) (fun hc5=>?_)
     ·have hbk:(mvAt l k).Back=true:=by simpa using hc5
      have hsl:slpM p (mvAt l k)=-(p.rail (mvAt l k).Rail).Slope:=by unfold slpM;rw[if_pos hbk]
      have wn:IntKind.i64.wrap (-(p.rail (mvAt l k).Rail).Slope)=-(p.rail (mvAt l k).Rail).Slope:=wrap_in (by omega) (by omega);refine aR fun K hK=>?_;simp -dsimp [wn];apply hK;clear hK K;simp only[zT,reduceIte,Nat.reduceEqDiff];refine hK9 _ _ ?_;refine awp_prune [5,17,18,23,24,88,89,90] ?_;simp only[zP,Nat.reduceEqDiff,reduceIte];refine awp_draw mixed rfl fun K hK=>?_;simp -dsimp [ff,he,hl',hs'];refine hK _ _ _ (by decide+kernel) ?_;clear hK K;simp only[zT,reduceIte,Nat.reduceEqDiff];refine hK7 _ _ ?_;refine awp_prune [5,17,18,88,89,90] ?_;simp only[zP,Nat.reduceEqDiff,reduceIte];refine aR fun K hK=>?_;simp -dsimp [wk];apply hK;clear hK K;simp only[zT,reduceIte,Nat.reduceEqDiff];exact⟨k+1,by omega,by omega,sub_rb [some 0,some 1,some 2,some 8,some 9,some 10] rfl (by simp[hbs]) (by simp[the,thl',ths',endTo_s,limTo_s,slpTo_s,hbs,hsl])⟩
     ·have hbk:¬(mvAt l k).Back=true:=by simpa using hc5
      have hsl:slpM p (mvAt l k)=(p.rail (mvAt l k).Rail).Slope:=by unfold slpM;rw[if_neg hbk]
      refine awp_skip ?_;simp only[zT,reduceIte,Nat.reduceEqDiff];refine hK9 _ _ ?_;refine awp_prune [5,17,18,23,24,88,89,90] ?_;simp only[zP,Nat.reduceEqDiff,reduceIte];refine awp_draw mixed rfl fun K hK=>?_;simp -dsimp [ff,he,hl',hs'];refine hK _ _ _ (by decide+kernel) ?_;clear hK K;simp only[zT,reduceIte,Nat.reduceEqDiff];refine hK7 _ _ ?_;refine awp_prune [5,17,18,88,89,90] ?_;simp only[zP,Nat.reduceEqDiff,reduceIte];refine aR fun K hK=>?_;simp -dsimp [wk];apply hK;clear hK K;simp only[zT,reduceIte,Nat.reduceEqDiff];exact⟨k+1,by omega,by omega,sub_rb [some 0,some 1,some 2,some 8,some 9,some 10] rfl (by simp[hbs]) (by simp[the,thl',ths',endTo_s,limTo_s,slpTo_s,hbs,hsl])⟩
   ·have hkl:k=l.length:=by have:¬k<l.length:=(by simpa using hc3);omega
    subst hkl;have t1:List.take l.length ((endTo p l l.length).map nCell)=(endTo p l l.length).map nCell:=List.take_of_length_le (by rw[List.length_map,endTo_len];exact Nat.le_refl _);have t2:List.take l.length ((limTo p l l.length).map nCell)=(limTo p l l.length).map nCell:=List.take_of_length_le (by rw[List.length_map,limTo_len];exact Nat.le_refl _);have t3:List.take l.length ((slpTo p l l.length).map nCell)=(slpTo p l l.length).map nCell:=List.take_of_length_le (by rw[List.length_map,slpTo_len];exact Nat.le_refl _);refine awp_exit ?_;simp only[zT,reduceIte,Nat.reduceEqDiff];refine hK5 _ _ ?_;refine awp_prune [17] ?_;simp only[zP,Nat.reduceEqDiff,reduceIte];refine aS fun K hK=>?_;simp -dsimp;apply hK;clear hK K;exact awp_ret (by simp[resP,tupOf,runOf,endTo_len,limTo_len,slpTo_len,t1,t2,t3])
end Go.Mo
end
section
namespace Go.Mo
open Go.AM Go.Cur Go.Proofs
open Go.Tram (Plan validB wayB begTo mvAt movB mLst begTo_bd way_mov way_len len_bd movB_iff)
theorem runOf_ok {p:Plan} {l:List Mv} {t:Tn} {st:Int} {sp:List Int} (h:BegOk p l t st sp):RnOk (runOf p l t st sp):=by
 have hl:=way_len h.w;have ho:=h.ok;simp only[okT,Bool.and_eq_true,inr_iff]at ho;have hm:∀i,i<l.length→0≤(mvAt l i).Rail∧(mvAt l i).Rail<p.Rails.length:=fun i hi=>movB_iff.1 (way_mov h.w i hi);refine⟨okT_b h.ok h.s0 h.s1,by show 1≤t.Length∧t.Length≤60000;omega,by show 1≤t.Speed∧t.Speed≤25000;omega,by show 1≤(endTo p l l.length).length∧(endTo p l l.length).length≤2000;rw[endTo_len];omega,?_,?_,?_,?_,?_⟩
 ·show(limTo p l l.length).length=(endTo p l l.length).length;rw[limTo_len,endTo_len]
 ·show(slpTo p l l.length).length=(endTo p l l.length).length;rw[slpTo_len,endTo_len]
 ·show(endTo p l l.length).Pairwise (· ≤ ·)
  rw[List.pairwise_iff_getElem];intro i j hi hj hij;rw[endTo_len]at hi hj;have mono:∀(d i:Nat),i+d≤l.length→begTo p l i≤begTo p l (i+d):=by
   intro d
   induction d with
   |zero=>intro i _;exact Int.le_refl _
   |succ d ih=>
    intro i hi;have h1:=ih i (by omega);have h2:=hm (i+d) (by omega);have h3:=(len_bd h.v h2.1 h2.2).1;have e:begTo p l (i+(d+1))=begTo p l (i+d)+p.len (mvAt l (i+d)).Rail:=rfl;omega
  simp only[endTo,List.getElem_map,List.getElem_range];have:=mono (j-i) (i+1) (by omega)
  rwa [show i+1+(j-i)=j+1 by omega]at this
 ·intro x hx;obtain⟨i,hi,rfl⟩:=List.mem_map.1 hx;have h1:=hm i (List.mem_range.1 hi);obtain⟨_,_,_,h2,h3⟩:=rail_bd h.v h1.1 h1.2;unfold slpM;split<;>omega
 ·intro x hx;obtain⟨i,hi,rfl⟩:=List.mem_map.1 hx;have h1:=hm i (List.mem_range.1 hi);obtain⟨_,h2,h3,_⟩:=rail_bd h.v h1.1 h1.2;omega
theorem legN_ok {r:Rn} (h:RnOk r) (stop:Int):∀(f:Nat) (x:Ms) (o:Lg),MsB r.t x→x.W≤90000000000000000→MsB r.t (r.legN stop f x o).2.1∧(r.legN stop f x o).2.1.W≤90000000000000000
 |0,x,o,hx,hw=>by rw[Rn.legN];split<;>exact⟨hx,hw⟩
 | f+1,x,o,hx,hw=>by
  rw[Rn.legN]
  split
  ·exact⟨hx,hw⟩
  ·split
   ·exact⟨hx,hw⟩
   ·rename_i i hi
    split
    ·exact⟨hx,hw⟩
    ·rename_i hn;exact legN_ok h stop f _ _ (chF_ok h hx hw hi).2.1 (by omega)
def Rn.legsN (r:Rn):List Int→Ms→Option (List Lg)
 |[],_=>some []
 |s::q,x=>if (r.legN s 36000 x lg0).2.2=false∨10000000000000000<x.W then none else(r.legsN q (r.legN s 36000 x lg0).2.1).map ((r.legN s 36000 x lg0).1:: ·)
def Rn.x0 (r:Rn):Ms:=⟨0,10*r.t.Mass*at0 r.stops 0⟩
def drvAV:Option (List Lg)→AV
 |some L=> .tup [.lst 10 (L.map Lg.cells),I 0]
 |none=> .tup [.v (.slice none 0 0),I 4]
theorem c_Drive (p:Plan) (l:List Mv) (t:Tn) (st:Int) (sp:List Int) (h:BegOk p l t st sp):
  PureCall Tryz.prog 8 [p.av,mLst l,t.av,I st,iL sp] (drvAV ((runOf p l t st sp).legsN (sp.drop 1) (runOf p l t st sp).x0)):=by
 have hbg:=c_mbegin p l t st sp h;have hok:=runOf_ok h;have hn:=h.n;have g0:sp[0]?=some (at0 sp 0):=at0_nat (l:=sp) (k:=0) (by omega);have hm:1000≤t.Mass∧t.Mass≤80000:=(okT_b h.ok h.s0 h.s1).ma;have hb0:=h.bd (i:=0) (by omega);have hlen:1≤t.Length:=by have:=h.ok;simp only[okT,Bool.and_eq_true,inr_iff]at this;omega
 have e0:((0:Nat):Int)=0:=rfl;rw[e0]at hb0;have hq1:=Int.mul_le_mul (a:=10*t.Mass) (b:=at0 sp 0) (c:=800000) (d:=62000000000) (by omega) hb0.2 (by omega) (by omega);have hq0:=Int.mul_nonneg (a:=10*t.Mass) (b:=at0 sp 0) (by omega) (by omega);have w1:IntKind.i64.wrap (10*t.Mass)=10*t.Mass:=wrap_in (by omega) (by omega);have w2:IntKind.i64.wrap (10*t.Mass*at0 sp 0)=10*t.Mass*at0 sp 0:=wrap_in (by omega) (by omega);have hx0:(runOf p l t st sp).x0=⟨0,10*t.Mass*at0 sp 0⟩:=rfl;have hbd:∀i,i+1<sp.length→at0 sp (i+1:Nat)≤62000000000∧0≤at0 sp (i+1:Nat):=fun i hi=>by have:=h.bd hi;omega
 have hms:MsB (runOf p l t st sp).t (⟨0,10*t.Mass*at0 sp 0⟩:Ms):=⟨⟨Int.le_refl _,by show 0≤25000*t.Mass;omega⟩,⟨hq0,by show 10*t.Mass*at0 sp 0≤_;omega⟩⟩;rw[hx0];generalize hR:(runOf p l t st sp).legsN (sp.drop 1) ⟨0,10*t.Mass*at0 sp 0⟩=R;obtain⟨r,hr⟩:∃r,r=runOf p l t st sp:=⟨_,rfl⟩;rw[←hr]at hbg hok hR hms;clear hr;have hn1:1≤sp.length:=by omega
 refine PureCall.of_body Tryz.func8 rfl (by decide) (by simp[Tryz.ntmps8]) ?_;simp only[Tryz.ntmps8,Tryz.results8];refine aS fun K hK=>?_;simp -dsimp;apply hK;clear hK K;refine aS fun K hK=>?_;simp -dsimp;refine callK_intro _ (hbg) (by simp) ?_;simp -dsimp;apply hK;clear hK K;refine awp_seq_k fun K1 hK1=>?_;refine aS fun K hK=>?_;simp -dsimp;apply hK;clear hK K;refine awp_cond rfl (fun hc0=>?_) (fun hc0=>?_)
 ·simp at hc0
 ·refine awp_skip ?_;simp only[zT,reduceIte,Nat.reduceEqDiff];refine hK1 _ _ ?_;refine awp_prune [4,7,12] ?_;simp only[zP,Nat.reduceEqDiff,reduceIte];refine awp_sd mixed rfl fun K hK=>?_;simp -dsimp [w1,w2,g0];refine hK _ _ _ (by decide+kernel) ?_;clear hK K;refine aS fun K hK=>?_;simp -dsimp;apply hK;clear hK K;refine awp_seq_k fun K2 hK2=>?_;refine aS fun K hK=>?_;simp -dsimp [hn1];apply hK;clear hK K;refine awp_block ?_;refine awp_prune [12,14,15,41,42,43] ?_;simp only[zP,Nat.reduceEqDiff,reduceIte];refine awp_loop_l [12,14,41,42] (α:=Nat×Ms×List Lg) (fun q=>[(15, .row 3 0 q.2.2.length),(43,I q.1)]) (fun q=>[some (.els 2 [p.cells]),some (.els 10 [t.cells]),some (.els 2 [q.2.1.cells]),some (.els 10 (q.2.2.map Lg.cells))]) (fun q=>q.2.2.length=q.1∧q.1≤sp.length-1∧MsB r.t q.2.1∧q.2.1.W≤90000000000000000∧(r.legsN (sp.drop (q.1+1)) q.2.1).map (q.2.2++ ·)=R) (fun q=>sp.length-q.1) (0,⟨0,10*t.Mass*at0 sp 0⟩,[]) ?_ ?_ ?_
  ·exact⟨rfl,by simp,hms,by simp only;omega,by simp only[List.nil_append,Nat.zero_add];rw[hR];cases R<;>rfl⟩
  ·exact(sub_nil 15 10 (by simp)).trans (sub_same (by simp))
  rintro⟨k,x,L⟩ ⟨i1,i2,i3,i4,i5⟩;simp only at i1 i2 i3 i4 i5 ⊢;subst i1;simp only[zP,Nat.reduceEqDiff,reduceIte];refine aS fun K hK=>?_;simp -dsimp;apply hK;clear hK K;refine awp_seq_k fun K3 hK3=>?_;refine awp_cond rfl (fun hc1=>?_) (fun hc1=>?_)
  ·have hkl:L.length+1<sp.length:=by have h:=(by simpa using hc1:(L.length:Int)<((sp.length-1:Nat):Int));omega
   have wk:IntKind.i64.wrap ((L.length:Int)+1)=(L.length:Int)+1:=wrap_in (by omega) (by omega);have gk:=at0_nat (l:=sp) (k:=L.length+1) hkl;have hbk:=hbd L.length hkl;have hlg:=c_leg r hok x i3 i4 (at0 sp (L.length+1:Nat)) (by omega);have hlo:=legN_ok hok (at0 sp (L.length+1:Nat)) 36000 x lg0 i3 i4;have hdr:sp.drop (L.length+1)=at0 sp (L.length+1:Nat)::sp.drop (L.length+1+1):=by
    rw[List.drop_eq_getElem_cons hkl];rw[List.getElem?_eq_getElem hkl]at gk;simp only[Option.some.injEq]at gk;rw[gk]
   rw[hdr,Rn.legsN]at i5;have ff:Fits (L.length+1) 81:=fits_of (by omega) (by omega);generalize r.legN (at0 sp (L.length+1:Nat)) 36000 x lg0=y at hlg hlo i5;obtain⟨o,z,ok⟩:=y;simp only at hlg hlo i5;refine awp_skip ?_;simp only[zT,reduceIte,Nat.reduceEqDiff];refine hK3 _ _ ?_;refine awp_prune [12,14,15,41,42,43] ?_;simp only[zP,Nat.reduceEqDiff,reduceIte];refine awp_seq_k fun K4 hK4=>?_;refine awp_block ?_;refine aS fun K hK=>?_;simp -dsimp [gk];apply hK;clear hK K;refine aS fun K hK=>?_;simp -dsimp;refine callK_intro _ (hlg) (by simp) ?_;simp -dsimp;apply hK;clear hK K;refine awp_seq_k fun K5 hK5=>?_;refine aS fun K hK=>?_;simp -dsimp;apply hK;clear hK K;refine awp_cond rfl (fun hc2=>?_) (fun hc2=>?_)
   ·have hf:ok=false∨10000000000000000<x.W:=by
     cases ok with
     |false=>exact Or.inl rfl
     |true=>exact Or.inr (by simpa using hc2)
    rw[if_pos hf]at i5;refine aS fun K hK=>?_;simp -dsimp;apply hK;clear hK K;exact awp_ret (by simp[resP,tupOf,←i5,drvAV])
   ·have hf:¬(ok=false∨10000000000000000<x.W):=by
     cases ok with
     |false=>simp at hc2
     |true=>simpa using hc2
    rw[if_neg hf]at i5;refine awp_skip ?_;simp only[zT,reduceIte,Nat.reduceEqDiff];refine hK5 _ _ ?_;refine awp_prune [12,14,15,18,19,41,42,43] ?_;simp only[zP,Nat.reduceEqDiff,reduceIte];refine aS fun K hK=>?_;simp -dsimp [ff];apply hK;clear hK K;refine aR fun K hK=>?_;simp -dsimp;apply hK;clear hK K;simp only[zT,reduceIte,Nat.reduceEqDiff];refine hK4 _ _ ?_;refine awp_prune [12,14,15,41,42,43] ?_;simp only[zP,Nat.reduceEqDiff,reduceIte];refine aR fun K hK=>?_;simp -dsimp [wk];apply hK;clear hK K;simp only[zT,reduceIte,Nat.reduceEqDiff];exact⟨(L.length+1,z,L++[o]),⟨by simp,by simp only;omega,hlo.1,hlo.2,by simp only;rw[←i5,Option.map_map];congr 1;funext q;simp⟩,by simp only;omega,sub_rb [some 0,some 1,some 2,some 6] rfl (by simp) (by simp)⟩
  ·have hkl:L.length+1=sp.length:=by have h:¬(L.length:Int)<((sp.length-1:Nat):Int):=(by simpa using hc1);omega
   rw[hkl,List.drop_length,Rn.legsN]at i5;refine awp_exit ?_;simp only[zT,reduceIte,Nat.reduceEqDiff];refine hK2 _ _ ?_;refine awp_prune [15] ?_;simp only[zP,Nat.reduceEqDiff,reduceIte];refine aS fun K hK=>?_;simp -dsimp;apply hK;clear hK K;exact awp_ret (by simp[resP,tupOf,←i5,drvAV])
end Go.Mo
end
section
namespace Go.Tram
open Go.AM Go.Proofs
theorem sub_full {α:Type} [DecidableEq α]:∀(l u:List α),l.Nodup→(∀x∈l,x∈u)→u.length≤l.length→∀x∈u,x∈l
 |[],u,_,_,h,x,hx=>by
  have:u=[]:=List.length_eq_zero_iff.1 (by simpa using h);rw[this]at hx;cases hx
 | a::l,u,hn,hs,h,x,hx=>by
  rw[List.nodup_cons]at hn
  by_cases e:x=a
  ·simp[e]
  ·have ha:a∈u:=hs a (by simp);have hlen:=List.length_erase_of_mem ha;have hup:0<u.length:=List.length_pos_of_mem ha;refine List.mem_cons_of_mem _ (sub_full l (u.erase a) hn.2 (fun y hy=>?_) (by simp at h;omega) x ((List.mem_erase_of_ne e).2 hx));have hya:y≠a:=by rintro rfl;exact hn.1 hy
   exact(List.mem_erase_of_ne hya).2 (hs y (by simp[hy]))
theorem endsOf_mem {p:Plan}:∀{n:Nat} {x:Nat×REnd},x∈endsOf p n→x.1<n∧∃j:Nat,(p.node x.1).Ends[j]?=some x.2
 |0,x,h=>by simp[endsOf]at h
 |n+1,x,h=>by
  simp only[endsOf,List.mem_append,List.mem_map]at h
  rcases h with h|⟨e,he,rfl⟩
  ·obtain⟨h1,h2⟩:=endsOf_mem h;exact⟨by omega,h2⟩
  ·obtain⟨j,hj⟩:=List.getElem?_of_mem he;exact⟨by simp,j,hj⟩
theorem validE_of {p:Plan} (hv:validB p=true):(∀x∈endsOf p p.Nodes.length,endB p x=true)∧((endsOf p p.Nodes.length).map (·.2)).Nodup∧(endsOf p p.Nodes.length).length=2*p.Rails.length:=by
 have h:=(valid_parts hv).2.2.2.2;simp only[validE,Bool.and_eq_true,List.all_eq_true,decide_eq_true_eq]at h;exact⟨h.1,h.2.1,h.2.2⟩
theorem end_there {p:Plan} (hv:validB p=true) {e:REnd} (h0:0≤e.Rail) (h1:e.Rail<p.Rails.length):∃i:Nat,i<p.Nodes.length∧p.at e=i∧∃j:Nat,(p.node i).Ends[j]?=some e:=by
 obtain⟨hall,hnd,hlen⟩:=validE_of hv;have hfull:=sub_full ((endsOf p p.Nodes.length).map (·.2)) ((List.range p.Rails.length).flatMap fun(r:Nat)=>[(⟨r,false⟩:REnd),⟨r,true⟩]) hnd (fun x hx=>by
  obtain⟨y,hy,rfl⟩:=List.mem_map.1 hx;have:=hall y hy;simp only[endB,Bool.and_eq_true,decide_eq_true_eq,inr_iff]at this;rw[List.mem_flatMap];refine⟨y.2.Rail.toNat,List.mem_range.2 (by omega),?_⟩;obtain⟨y1,⟨r,b⟩⟩:=y;simp only at this ⊢;rw[show((r.toNat:Nat):Int)=r by omega]
  cases b<;>simp) (by
   have gen:∀n:Nat,((List.range n).flatMap fun(r:Nat)=>[(⟨r,false⟩:REnd),⟨r,true⟩]).length=2*n:=by
    intro n
    induction n with
    |zero=>rfl
    |succ n ih=>rw[List.range_succ,List.flatMap_append,List.length_append,ih];simp;omega
   rw[gen,List.length_map,hlen];exact Nat.le_refl _) e (by
  rw[List.mem_flatMap];refine⟨e.Rail.toNat,List.mem_range.2 (by omega),?_⟩;obtain⟨r,b⟩:=e;simp only at h0 h1 ⊢;rw[show((r.toNat:Nat):Int)=r by omega]
  cases b<;>simp)
 obtain⟨x,hx,rfl⟩:=List.mem_map.1 hfull;obtain⟨h2,j,hj⟩:=endsOf_mem hx;exact⟨x.1,h2,(ends_rail hv h2 hj).2,j,hj⟩
theorem end_uniq {p:Plan} (hv:validB p=true) {i:Nat} (hi:i<p.Nodes.length) {j j':Nat} {e:REnd} (h:(p.node i).Ends[j]?=some e) (h':(p.node i).Ends[j']?=some e):j=j':=by
 have key:∀{j j':Nat},(p.node i).Ends[j]?=some e→(p.node i).Ends[j']?=some e→¬j'<j:=by
  intro j j' h h' hlt;have hm:(i,e)∈curE p i j:=by
   unfold curE;rw[List.mem_append,List.mem_map];refine Or.inr ⟨e,?_,rfl⟩;have:((p.node i).Ends.take j)[j']?=some e:=by rw[List.getElem?_take,if_pos hlt];exact h'
   exact List.mem_of_getElem? this
  obtain⟨m,hmm⟩:=List.getElem?_of_mem hm;have:=valid_ff_dup hi h hmm rfl;rw[hv]at this;cases this
 have h1:=key h h';have h2:=key h' h;omega
theorem putE_none {kvs:List (List KC×Value)} {es:List REnd} {e:REnd}:∀n,n≤es.length→(∀j:Nat,j<n→es[j]?≠some e)→kvGet (putE kvs es n) (keyOf e)=kvGet kvs (keyOf e)
 |0,_,_=>rfl
 |n+1,hn,h=>by
  simp only[putE];rw[kvGet_set,if_neg,putE_none n (by omega) fun j hj=>h j (by omega)];intro hk;have:=keyOf_inj.1 hk;have h2:=h n (by omega);rw[List.getElem?_eq_getElem (by omega)]at this h2;simp only[Option.getD_some]at this;exact h2 (by rw[this])
theorem putE_some {kvs:List (List KC×Value)} {es:List REnd} {e:REnd} {j:Nat} (hj:es[j]?=some e):∀n,n≤es.length→j<n→(∀j':Nat,es[j']?=some e→j'=j)→kvGet (putE kvs es n) (keyOf e)=some (.int .i64 j)
 |0,_,h,_=>by omega
 |n+1,hn,h,hu=>by
  simp only[putE];rw[kvGet_set]
  by_cases e1:n=j
  ·subst e1;rw[hj];exact if_pos rfl
  ·rw[if_neg,putE_some hj n (by omega) (by omega) hu];intro hk;have:=keyOf_inj.1 hk;rw[List.getElem?_eq_getElem (by omega)]at this;simp only[Option.getD_some]at this;exact e1 (hu n (by rw[List.getElem?_eq_getElem (by omega),this]))
theorem place_at {p:Plan} (hv:validB p=true) {i:Nat} (hi:i<p.Nodes.length) {j:Nat} {e:REnd} (h:(p.node i).Ends[j]?=some e):plc p e=j:=by
 have hat:=(ends_rail hv hi h).2;have gen:∀k,k≤p.Nodes.length→i<k→kvGet (placesK p k) (keyOf e)=some (.int .i64 j):=by
  intro k
  induction k with
  |zero=>intro _ h;omega
  |succ k ih=>
   intro hk hik;simp only[placesK]
   by_cases e1:k=i
   ·subst e1;exact putE_some h _ (Nat.le_refl _) (List.getElem?_eq_some_iff.1 h).1 fun j' hj'=>end_uniq hv hi hj' h
   ·rw[putE_none _ (Nat.le_refl _),ih (by omega) (by omega)];intro j' _ hj';have:=(ends_rail hv (i:=k) (by omega) hj').2;omega
 have hg:=gen p.Nodes.length (Nat.le_refl _) hi;have hp:plcV p e= .int .i64 j:=by
  unfold plcV;have:kvGet (placesK p p.Nodes.length) [.i .i64 e.Rail, .b e.Last]=some (.int .i64 j):=hg;rw[this];rfl
 unfold plc;rw[hp]
def idxTo (e:REnd):List REnd→Int→Int
 |[],_=>-1
 |x::l,i=>if x=e then i else idxTo e l (i+1)
def idxE (n:Node) (e:REnd):Int:=idxTo e n.Ends 0
theorem idxTo_some {e:REnd}:∀(l:List REnd) (i:Int) (j:Nat),l[j]?=some e→(∀j':Nat,l[j']?=some e→j'=j)→idxTo e l i=i+j
 |[],i,j,h,_=>by simp at h
 | x::l,i,j,h,hu=>by
  simp only[idxTo]
  split
  ·rename_i hx;have:=hu 0 (by simp[hx]);omega
  ·rename_i hx
   cases j with
   |zero=>simp at h;exact absurd h hx
   |succ j=>
    rw[idxTo_some l (i+1) j (by simpa using h) fun j' hj'=>by have:=hu (j'+1) (by simpa using hj');omega];omega
theorem idxTo_none {e:REnd}:∀(l:List REnd) (i:Int),(∀j:Nat,l[j]?≠some e)→idxTo e l i=-1
 |[],i,_=>rfl
 |x::l,i,h=>by
  simp only[idxTo];rw[if_neg (by rintro rfl;exact h 0 (by simp))];exact idxTo_none l _ fun j=>by have:=h (j+1);simpa using this
theorem idxE_some {p:Plan} (hv:validB p=true) {i:Nat} (hi:i<p.Nodes.length) {j:Nat} {e:REnd} (h:(p.node i).Ends[j]?=some e):idxE (p.node i) e=j:=by
 unfold idxE;rw[idxTo_some _ 0 j h fun j' hj'=>end_uniq hv hi hj' h];omega
def rFoll (p:Plan) (m k:Move):Bool:=decide (0≤idxE (nodeAt p m) (arrE m))&&(decide (0≤idxE (nodeAt p m) (leaE k))&&letsB (nodeAt p m) (idxE (nodeAt p m) (arrE m)) (idxE (nodeAt p m) (leaE k)))
theorem node_of {p:Plan} (hv:validB p=true) {m:Move} (hm:movB p m=true):∃i:Nat,i<p.Nodes.length∧p.at (arrE m)=i∧nodeAt p m=p.node i∧∃j:Nat,(p.node i).Ends[j]?=some (arrE m)∧plc p (arrE m)=j∧idxE (p.node i) (arrE m)=j:=by
 have hm':=movB_iff.1 hm;obtain⟨i,hi,ha,j,hj⟩:=end_there hv (e:=arrE m) hm'.1 hm'.2;exact⟨i,hi,ha,by unfold nodeAt;rw[ha],j,hj,place_at hv hi hj,idxE_some hv hi hj⟩
theorem moveM_numM {m:Move} (h:0≤m.Rail):moveM (numM m)=m:=by
 obtain⟨r,b⟩:=m;simp only at h
 cases b
 ·simp only[numM,moveM,Bool.false_eq_true,if_false];rw[show 2*r/2=r by omega,decide_eq_false (by omega)]
 ·simp only[numM,moveM,if_true];rw[show(2*r+1)/2=r by omega,decide_eq_true (by omega)]
theorem numM_moveM {k:Int} (h:0≤k):numM (moveM k)=k:=by
 simp only[numM,moveM,decide_eq_true_eq]
 split<;>omega
theorem nx_mem {p:Plan} (hv:validB p=true) {m:Move} (hm:movB p m=true) {k:Int}:k∈nxTo p m (nodeAt p m).Ends.length↔0≤k∧k<2*p.Rails.length∧rFoll p m (moveM k)=true:=by
 obtain⟨i,hi,ha,hn,j,hj,hp,hx⟩:=node_of hv hm;simp only[nxTo,List.mem_flatMap,List.mem_range];constructor
 ·rintro⟨t,ht,hk⟩;unfold nxK at hk;rw[hn]at hk ht;rw[List.getElem?_eq_getElem ht]at hk;simp only at hk
  split at hk
  ·rename_i hl;simp only[List.mem_singleton]at hk;have hte:=List.getElem?_eq_getElem ht;generalize (p.node i).Ends[t]=e at hk hte;have her:=(ends_rail hv hi hte).1;have hb:0≤numM ⟨e.Rail,e.Last⟩∧numM ⟨e.Rail,e.Last⟩<2*p.Rails.length:=by simp only[numM];split<;>omega
   subst hk;refine⟨hb.1,hb.2,?_⟩;rw[moveM_numM her.1];have hle:leaE ⟨e.Rail,e.Last⟩=e:=rfl;simp only[rFoll,hn,hle,hx,idxE_some hv hi hte,Bool.and_eq_true,decide_eq_true_eq];rw[hp]at hl;exact⟨by omega,by omega,hl⟩
  ·simp at hk
 ·rintro⟨h0,h1,hf⟩;simp only[rFoll,hn,Bool.and_eq_true,decide_eq_true_eq]at hf;obtain⟨_,hb,hl⟩:=hf;have:∃t:Nat,(p.node i).Ends[t]?=some (leaE (moveM k)):=by
   by_cases h:∃t:Nat,(p.node i).Ends[t]?=some (leaE (moveM k))
   ·exact h
   ·have:=idxTo_none (e:=leaE (moveM k)) (p.node i).Ends 0 fun j hj=>h ⟨j,hj⟩;unfold idxE at hb;omega
  obtain⟨t,ht⟩:=this;rw[hx,idxE_some hv hi ht]at hl;refine⟨t,by rw[hn];exact(List.getElem?_eq_some_iff.1 ht).1,?_⟩;unfold nxK;rw[hn,ht,hp];simp only;rw[if_pos hl,List.mem_singleton];show k=numM (moveM k);rw[numM_moveM h0]
theorem foll_eq {p:Plan} (hv:validB p=true) {m k:Move} (hm:movB p m=true) (hk:movB p k=true):follB p m k=rFoll p m k:=by
 have hk':=movB_iff.1 hk;have hnb:0≤numM k∧numM k<2*p.Rails.length:=by unfold numM;split<;>omega
 rw[Bool.eq_iff_iff];unfold follB nextL;rw[List.any_eq_true];constructor
 ·rintro⟨x,hx,hxk⟩;simp only[decide_eq_true_eq]at hxk;subst hxk;obtain⟨q,hq,rfl⟩:=List.mem_map.1 hx;exact((nx_mem hv hm).1 (ins_mem'.1 hq)).2.2
 ·intro h;refine⟨k,List.mem_map.2 ⟨numM k,ins_mem'.2 ((nx_mem hv hm).2 ⟨hnb.1,hnb.2,?_⟩),moveM_numM hk'.1⟩,by simp⟩;rw[moveM_numM hk'.1];exact h
end Go.Tram
end
section
namespace Go.Tram
open Go.AM Go.Proofs
theorem c_Valid (p:Plan):PureCall Tryz.prog 20 [p.av] (Bo (validB p)):=by
 refine PureCall.of_body Tryz.func20 rfl (by decide) (by simp[Tryz.ntmps20]) ?_;simp only[Tryz.ntmps20,Tryz.results20];refine aS fun K hK=>?_;simp -dsimp;apply hK;clear hK K;refine awp_seq_k fun K1 hK1=>?_;refine aS fun K hK=>?_;simp -dsimp;refine callK_intro _ (c_in _ _ _) (by simp) ?_;simp -dsimp;refine callK_may _ (fun hm=>c_in _ _ _) (by simp) ?_;simp -dsimp;apply hK;clear hK K;refine awp_cond rfl (fun hc0=>?_) (fun hc0=>?_)
 ·skip
  try simp at hc0
  refine aS fun K hK=>?_;simp -dsimp;apply hK;clear hK K;refine awp_ret ?_;have:validB p=false:=by simp[validB,validA];intro h1 h2;rcases hc0 with hc0|hc0<;>simp_all
  simp[this]
 ·skip
  try simp at hc0
  have hN:=inr_iff.1 hc0.1;have hR:=inr_iff.1 hc0.2;refine awp_skip ?_;simp only[zT,reduceIte,Nat.reduceEqDiff];refine hK1 _ _ ?_;refine awp_prune [1] ?_;simp only[zP,Nat.reduceEqDiff,reduceIte];refine awp_seq_k fun K2 hK2=>?_;refine aS fun K hK=>?_;simp -dsimp;apply hK;clear hK K;refine awp_block ?_;refine awp_prune [1,3] ?_;simp only[zP,Nat.reduceEqDiff,reduceIte];refine awp_loop_l [1] (α:=Nat) (fun k=>[(3,I k)]) (fun _=>[some (.els 2 [p.cells])]) (fun k=>k≤p.Nodes.length∧(p.Nodes.take k).all nodeB=true) (fun k=>p.Nodes.length-k) 0 ?_ ?_ ?_
  ·simp
  ·exact sub_same (by simp)
  rintro k ⟨k1,k2⟩;simp only[zP,Nat.reduceEqDiff,reduceIte];refine awp_seq_k fun K3 hK3=>?_;refine aS fun K hK=>?_;simp -dsimp;apply hK;clear hK K;refine awp_cond rfl (fun hc1=>?_) (fun hc1=>?_)
  ·skip
   try simp at hc1
   have g0:=p.node_get (i:=(k:Int)) (by omega) (by omega);simp only[Int.toNat_natCast]at g0;have wi:=zW k (by omega);refine awp_skip ?_;simp only[zT,reduceIte,Nat.reduceEqDiff];refine hK3 _ _ ?_;refine awp_prune [1,3] ?_;simp only[zP,Nat.reduceEqDiff,reduceIte];refine awp_seq_k fun K4 hK4=>?_;refine awp_block ?_;refine aS fun K hK=>?_;simp -dsimp [g0];apply hK;clear hK K;refine aS fun K hK=>?_;simp -dsimp;apply hK;clear hK K;refine awp_seq_k fun K5 hK5=>?_;refine aS fun K hK=>?_;simp -dsimp;apply hK;clear hK K;refine awp_cond rfl (fun hc2=>?_) (fun hc2=>?_)
   ·skip
    try simp at hc2
    refine aR fun K hK=>?_;simp -dsimp;refine callK_intro _ (c_in _ _ _) (by simp) ?_;simp -dsimp;apply hK;clear hK K;simp only[zT,reduceIte,Nat.reduceEqDiff];refine hK5 _ _ ?_;refine awp_prune [1,3,4,5] ?_;simp only[zP,Nat.reduceEqDiff,reduceIte];refine awp_sd mixed rfl fun K hK=>?_;simp -dsimp;refine callK_intro _ (c_spot (p.node k).Spot) (by simp) ?_;simp -dsimp;refine callK_may _ (fun hm=>c_ends (p.node k).Kind) (by simp) ?_;simp -dsimp;refine callK_may _ (fun hm=>c_ends (p.node k).Kind) (by simp) ?_;simp -dsimp;refine hK _ _ _ (by decide+kernel) ?_;clear hK K;refine awp_cond rfl (fun hc3=>?_) (fun hc3=>?_)
    ·skip
     try simp at hc3
     refine aS fun K hK=>?_;simp -dsimp;apply hK;clear hK K;refine awp_ret ?_;have:nodeB (p.node k)=false:=by simp[nodeB,hc2];intro h1 h2 h3;simp_all
     simp[valid_ff_node g0 this]
    ·skip
     try simp at hc3
     refine awp_skip ?_;simp only[zT,reduceIte,Nat.reduceEqDiff];refine hK4 _ _ ?_;refine awp_prune [1,3] ?_;simp only[zP,Nat.reduceEqDiff,reduceIte];refine aR fun K hK=>?_;simp -dsimp [wi];apply hK;clear hK K;simp only[zT,reduceIte,Nat.reduceEqDiff];refine⟨k+1,⟨by omega,?_⟩,by omega,sub_rb [some 0] rfl (by simp) (by simp)⟩;rw[take_all' g0,k2];simp[nodeB,hc2,hc3]
   ·skip
    try simp at hc2
    refine awp_skip ?_;simp only[zT,reduceIte,Nat.reduceEqDiff];refine hK5 _ _ ?_;refine awp_prune [1,3,4,5] ?_;simp only[zP,Nat.reduceEqDiff,reduceIte];refine awp_sd mixed rfl fun K hK=>?_;simp -dsimp;refine callK_intro _ (c_spot (p.node k).Spot) (by simp) ?_;simp -dsimp;refine callK_may _ (fun hm=>c_ends (p.node k).Kind) (by simp) ?_;simp -dsimp;refine callK_may _ (fun hm=>c_ends (p.node k).Kind) (by simp) ?_;simp -dsimp;refine hK _ _ _ (by decide+kernel) ?_;clear hK K;refine awp_cond rfl (fun hc3=>?_) (fun hc3=>?_)
    ·skip
     try simp at hc3
     refine aS fun K hK=>?_;simp -dsimp;apply hK;clear hK K;refine awp_ret ?_;have:nodeB (p.node k)=false:=by simp[nodeB,hc2];intro h1 h2 h3;simp_all
     simp[valid_ff_node g0 this]
    ·skip
     try simp at hc3
     refine awp_skip ?_;simp only[zT,reduceIte,Nat.reduceEqDiff];refine hK4 _ _ ?_;refine awp_prune [1,3] ?_;simp only[zP,Nat.reduceEqDiff,reduceIte];refine aR fun K hK=>?_;simp -dsimp [wi];apply hK;clear hK K;simp only[zT,reduceIte,Nat.reduceEqDiff];refine⟨k+1,⟨by omega,?_⟩,by omega,sub_rb [some 0] rfl (by simp) (by simp)⟩;rw[take_all' g0,k2];simp[nodeB,hc2,hc3]
  ·skip
   try simp at hc1
   have hA:=all_of_take (by omega) k2;refine awp_exit ?_;simp only[zT,reduceIte,Nat.reduceEqDiff];refine hK2 _ _ ?_;refine awp_prune [1] ?_;simp only[zP,Nat.reduceEqDiff,reduceIte];refine awp_seq_k fun K6 hK6=>?_;refine aS fun K hK=>?_;simp -dsimp;apply hK;clear hK K;refine awp_block ?_;refine awp_prune [1,6] ?_;simp only[zP,Nat.reduceEqDiff,reduceIte];refine awp_loop_l [1] (α:=Nat) (fun k=>[(6,I k)]) (fun _=>[some (.els 2 [p.cells])]) (fun k=>k≤p.Rails.length∧(p.Rails.take k).all (railB p)=true) (fun k=>p.Rails.length-k) 0 ?_ ?_ ?_
   ·simp
   ·exact sub_same (by simp)
   rintro u ⟨u1,u2⟩;simp only[zP,Nat.reduceEqDiff,reduceIte];refine awp_seq_k fun K7 hK7=>?_;refine aS fun K hK=>?_;simp -dsimp;apply hK;clear hK K;refine awp_cond rfl (fun hc4=>?_) (fun hc4=>?_)
   ·skip
    try simp at hc4
    have r0:=p.rail_get (i:=(u:Int)) (by omega) (by omega);simp only[Int.toNat_natCast]at r0;have wu:=zW u (by omega);have wn:IntKind.i64.wrap ((p.Nodes.length:Int)-1)=(p.Nodes.length:Int)-1:=wrap_in (by omega) (by omega);refine awp_skip ?_;simp only[zT,reduceIte,Nat.reduceEqDiff];refine hK7 _ _ ?_;refine awp_prune [1,6] ?_;simp only[zP,Nat.reduceEqDiff,reduceIte];refine awp_seq_k fun K8 hK8=>?_;refine awp_block ?_;refine aS fun K hK=>?_;simp -dsimp [r0];apply hK;clear hK K;refine awp_seq_k fun K9 hK9=>?_;refine aS fun K hK=>?_;simp -dsimp [wn];refine callK_intro _ (c_in _ _ _) (by simp) ?_;simp -dsimp [wn];refine callK_may _ (fun hm=>c_in _ _ _) (by simp) ?_;simp -dsimp [wn];refine callK_may _ (fun hm=>c_in _ _ _) (by simp) ?_;simp -dsimp [wn];refine callK_may _ (fun hm=>c_in _ _ _) (by simp) ?_;simp -dsimp [wn];apply hK;clear hK K;refine awp_cond rfl (fun hc5=>?_) (fun hc5=>?_)
    ·skip
     try simp at hc5
     have hra:railA p (p.rail u)=false:=by
      cases hq:railA p (p.rail u)with
      |false=>rfl
      |true=>simp[railA]at hq;simp[hq]at hc5;omega
     refine aS fun K hK=>?_;simp -dsimp;apply hK;clear hK K;exact awp_ret (by simp[valid_ff_rail r0 (by simp[railB,hra]:railB p (p.rail u)=false)])
    ·skip
     try simp at hc5
     have hra:railA p (p.rail u)=true:=by simp[railA,hc5];omega
     have hF:=inr_iff.1 hc5.1.1.1.1;have hT:=inr_iff.1 hc5.1.1.1.2;have hlen:(p.rail u).Shape.length≤30:=by omega
     have sF:=nodeB_spot (node_ends hA (i:=(p.rail u).From) (by omega) (by omega));have sT:=nodeB_spot (node_ends hA (i:=(p.rail u).To) (by omega) (by omega));refine awp_skip ?_;simp only[zT,reduceIte,Nat.reduceEqDiff];refine hK9 _ _ ?_;refine awp_prune [1,6,7] ?_;simp only[zP,Nat.reduceEqDiff,reduceIte];refine awp_seq_k fun K10 hK10=>?_;refine aS fun K hK=>?_;simp -dsimp;apply hK;clear hK K;refine awp_block ?_;refine awp_prune [1,6,7,8] ?_;simp only[zP,Nat.reduceEqDiff,reduceIte];refine awp_loop_l [1,6,7] (α:=Nat) (fun j=>[(8,I j)]) (fun _=>[some (.els 2 [p.cells]),some (.els 5 [(p.rail u).cells])]) (fun j=>j≤(p.rail u).Shape.length∧((p.rail u).Shape.take j).all spotB=true) (fun j=>(p.rail u).Shape.length-j) 0 ?_ ?_ ?_
     ·simp
     ·exact sub_same (by simp)
     rintro j ⟨j1,j2⟩;simp only[zP,Nat.reduceEqDiff,reduceIte];refine awp_seq_k fun K11 hK11=>?_;refine aS fun K hK=>?_;simp -dsimp;apply hK;clear hK K;refine awp_cond rfl (fun hc6=>?_) (fun hc6=>?_)
     ·skip
      try simp at hc6
      have s0:(p.rail u).Shape[j]?=some (nth (p.rail u).Shape j):=nth_get hc6;have wj:=zW j (by omega);refine awp_skip ?_;simp only[zT,reduceIte,Nat.reduceEqDiff];refine hK11 _ _ ?_;refine awp_prune [1,6,7,8] ?_;simp only[zP,Nat.reduceEqDiff,reduceIte];refine awp_seq_k fun K12 hK12=>?_;refine awp_block ?_;refine aS fun K hK=>?_;simp -dsimp [s0];refine callK_intro _ (c_spot (nth (p.rail u).Shape j)) (by simp) ?_;simp -dsimp [s0];apply hK;clear hK K;refine awp_cond rfl (fun hc7=>?_) (fun hc7=>?_)
      ·skip
       try simp at hc7
       refine aS fun K hK=>?_;simp -dsimp;apply hK;clear hK K;exact awp_ret (by simp[valid_ff_rail r0 (by simp[railB,all_ff s0 hc7]:railB p (p.rail u)=false)])
      ·skip
       try simp at hc7
       refine awp_skip ?_;simp only[zT,reduceIte,Nat.reduceEqDiff];refine hK12 _ _ ?_;refine awp_prune [1,6,7,8] ?_;simp only[zP,Nat.reduceEqDiff,reduceIte];refine aR fun K hK=>?_;simp -dsimp [wj];apply hK;clear hK K;simp only[zT,reduceIte,Nat.reduceEqDiff];refine⟨j+1,⟨by omega,?_⟩,by omega,sub_same (by simp)⟩;rw[take_all' s0,j2];simp[hc7]
     ·skip
      try simp at hc6
      have hS:=all_of_take (by omega) j2;have hls:(p.line u).all spotB=true:=line_spots sF sT hS;have hll:=line_len p u;have hb:∀m,m<(p.line u).length→spotB (nth (p.line u) m)=true:=fun m hm=>List.all_eq_true.1 hls _ (List.mem_of_getElem? (nth_get hm));refine awp_exit ?_;simp only[zT,reduceIte,Nat.reduceEqDiff];refine hK10 _ _ ?_;refine awp_prune [1,6] ?_;simp only[zP,Nat.reduceEqDiff,reduceIte];refine aS fun K hK=>?_;simp -dsimp;refine callK_intro _ (c_Line p u (by omega) (by omega) ⟨by omega,by omega⟩ ⟨by omega,by omega⟩ (by omega)) (by simp) ?_;simp -dsimp;apply hK;clear hK K;refine aS fun K hK=>?_;simp -dsimp;apply hK;clear hK K;refine awp_block ?_;refine awp_prune [1,6,9,10] ?_;simp only[zP,Nat.reduceEqDiff,reduceIte];refine awp_loop_l [1,6,9] (α:=Nat) (fun j=>[(10,I j)]) (fun _=>[some (.els 2 [p.cells]),some (.els 5 [(p.rail u).cells])]) (fun j=>1≤j∧j≤(p.line u).length∧∀m,m+1<j→segB (p.line u) m=true) (fun j=>(p.line u).length-j) 1 ?_ ?_ ?_
      ·refine⟨by omega,by omega,fun m hm=>by omega⟩
      ·exact sub_same (by simp)
      rintro j ⟨j1,j2,j3⟩;simp only[zP,Nat.reduceEqDiff,reduceIte];refine awp_seq_k fun K13 hK13=>?_;refine aS fun K hK=>?_;simp -dsimp;apply hK;clear hK K;refine awp_cond rfl (fun hc8=>?_) (fun hc8=>?_)
      ·skip
       try simp at hc8
       have wk:IntKind.i64.wrap ((j:Int)-1)=((j-1:Nat):Int):=by rw[wrap_in (by omega) (by omega)];omega
       have wj:=zW j (by omega);have l1:=nth_get (l:=p.line u) (k:=j-1) (by omega);have l2:=nth_get (l:=p.line u) (k:=j) (by omega);refine awp_skip ?_;simp only[zT,reduceIte,Nat.reduceEqDiff];refine hK13 _ _ ?_;refine awp_prune [1,6,9,10] ?_;simp only[zP,Nat.reduceEqDiff,reduceIte];refine awp_seq_k fun K14 hK14=>?_;refine awp_block ?_;refine awp_sd mixed rfl fun K hK=>?_;simp -dsimp [wk,l1,l2];refine callK_intro _ (c_Far (nth (p.line u) (j-1)) (nth (p.line u) j) (hb _ (by omega)) (hb _ (by omega))) (by simp) ?_;simp -dsimp [wk,l1,l2];refine callK_intro _ (c_in _ _ _) (by simp) ?_;simp -dsimp [wk,l1,l2];refine hK _ _ _ (by decide+kernel) ?_;clear hK K;refine awp_cond rfl (fun hc9=>?_) (fun hc9=>?_)
       ·simp at hc9;have hseg:segB (p.line u) (j-1)=inr (far (nth (p.line u) (j-1)) (nth (p.line u) j)) 1 1000000:=by simp only[segB,segLen];rw[show j-1+1=j by omega]
        have hfs:railB p (p.rail u)=false:=by
         have:(List.range ((p.rail u).Shape.length+1)).all (segB (lineOf p (p.rail u)))=false:=by rw[List.all_eq_false];exact⟨j-1,by simp;omega,by rw[show lineOf p (p.rail u)=p.line u from rfl,hseg];simp[hc9]⟩
         simp[railB,this]
        refine aS fun K hK=>?_;simp -dsimp;apply hK;clear hK K;exact awp_ret (by simp[valid_ff_rail r0 hfs])
       ·simp at hc9;have hseg:segB (p.line u) (j-1)=inr (far (nth (p.line u) (j-1)) (nth (p.line u) j)) 1 1000000:=by simp only[segB,segLen];rw[show j-1+1=j by omega]
        refine awp_skip ?_;simp only[zT,reduceIte,Nat.reduceEqDiff];refine hK14 _ _ ?_;refine awp_prune [1,6,9,10] ?_;simp only[zP,Nat.reduceEqDiff,reduceIte];refine aR fun K hK=>?_;simp -dsimp [wj];apply hK;clear hK K;simp only[zT,reduceIte,Nat.reduceEqDiff];refine⟨j+1,⟨by omega,by omega,fun m hm=>?_⟩,by omega,sub_same (by simp)⟩
        by_cases hmj:m+1<j
        ·exact j3 m hmj
        ·rw[show m=j-1 by omega,hseg];exact hc9
      ·skip
       try simp at hc8
       refine awp_exit ?_;simp only[zT,reduceIte,Nat.reduceEqDiff];refine hK8 _ _ ?_;refine awp_prune [1,6] ?_;simp only[zP,Nat.reduceEqDiff,reduceIte];refine aR fun K hK=>?_;simp -dsimp [wu];apply hK;clear hK K;simp only[zT,reduceIte,Nat.reduceEqDiff];refine⟨u+1,⟨by omega,?_⟩,by omega,sub_rb [some 0] rfl (by simp) (by simp)⟩;rw[take_all' r0,u2,railB,hra,hS];simp only[Bool.true_and];rw[List.all_eq_true];intro m hm;simp only[List.mem_range]at hm;exact j3 m (by omega)
   ·skip
    try simp at hc4
    have hB:=all_of_take (by omega) u2;refine awp_exit ?_;simp only[zT,reduceIte,Nat.reduceEqDiff];refine hK6 _ _ ?_;refine awp_prune [1] ?_;simp only[zP,Nat.reduceEqDiff,reduceIte];refine aS fun K hK=>?_;simp -dsimp;apply hK;clear hK K;refine awp_seq_k fun K15 hK15=>?_;refine aS fun K hK=>?_;simp -dsimp;apply hK;clear hK K;refine awp_block ?_;refine awp_prune [1,11,12] ?_;simp only[zP,Nat.reduceEqDiff,reduceIte];refine awp_loop_l [1] (α:=Nat) (fun i=>[(11, .row 1 0 (endsOf p i).length),(12,I i)]) (fun i=>[some (.els 2 [p.cells]),some (.els 2 (eCells (endsOf p i)))]) (fun i=>i≤p.Nodes.length∧(endsOf p i).all (endB p)=true∧((endsOf p i).map (·.2)).Nodup) (fun i=>p.Nodes.length-i) 0 ?_ ?_ ?_
    ·simp[endsOf]
    ·exact(sub_nil 11 2 (by simp)).trans (sub_same (by simp[endsOf]))
    rintro i ⟨i1,i2,i3⟩;simp only[zP,Nat.reduceEqDiff,reduceIte];refine awp_seq_k fun K16 hK16=>?_;refine aS fun K hK=>?_;simp -dsimp;apply hK;clear hK K;refine awp_cond rfl (fun hc10=>?_) (fun hc10=>?_)
    ·skip
     try simp at hc10
     have n0:=p.node_get (i:=(i:Int)) (by omega) (by omega);simp only[Int.toNat_natCast]at n0;have wi:=zW i (by omega);have wr:IntKind.i64.wrap ((p.Rails.length:Int)-1)=(p.Rails.length:Int)-1:=wrap_in (by omega) (by omega);have hle:=nodeB_len (node_ends hA (i:=(i:Int)) (by omega) (by omega));refine awp_skip ?_;simp only[zT,reduceIte,Nat.reduceEqDiff];refine hK16 _ _ ?_;refine awp_prune [1,11,12] ?_;simp only[zP,Nat.reduceEqDiff,reduceIte];refine awp_seq_k fun K17 hK17=>?_;refine awp_block ?_;refine aS fun K hK=>?_;simp -dsimp;apply hK;clear hK K;refine awp_block ?_;refine awp_prune [1,11,12,13] ?_;simp only[zP,Nat.reduceEqDiff,reduceIte];refine awp_loop_l [1,12] (α:=Nat) (fun j=>[(11, .row 1 0 (curE p i j).length),(13,I j)]) (fun j=>[some (.els 2 [p.cells]),some (.els 2 (eCells (curE p i j)))]) (fun j=>j≤(p.node i).Ends.length∧(curE p i j).all (endB p)=true∧((curE p i j).map (·.2)).Nodup) (fun j=>(p.node i).Ends.length-j) 0 ?_ ?_ ?_
     ·rw[curE_zero];exact⟨by omega,i2,i3⟩
     ·simp only[curE_zero];exact sub_same (by simp)
     rintro j ⟨j1,j2,j3⟩;simp only[zP,Nat.reduceEqDiff,reduceIte];refine awp_seq_k fun K18 hK18=>?_;refine aS fun K hK=>?_;simp -dsimp [n0];apply hK;clear hK K;refine awp_cond rfl (fun hc11=>?_) (fun hc11=>?_)
     ·skip
      try simp at hc11
      obtain⟨e,he⟩:∃e,(p.node i).Ends[j]?=some e:=⟨_,List.getElem?_eq_getElem hc11⟩;have hcl:=curE_len hA (j:=j) hc10;have wj:=zW j (by omega);have f1:Fits ((curE p i j).length+1) 17:=fits_of (by omega) (by omega);have f2:Fits ((curE p i j).length+1) 25:=fits_of (by omega) (by omega);refine awp_skip ?_;simp only[zT,reduceIte,Nat.reduceEqDiff];refine hK18 _ _ ?_;refine awp_prune [1,11,12,13] ?_;simp only[zP,Nat.reduceEqDiff,reduceIte];refine awp_seq_k fun K19 hK19=>?_;refine awp_block ?_;refine aS fun K hK=>?_;simp -dsimp [n0,he];apply hK;clear hK K;refine awp_seq_k fun K20 hK20=>?_;refine aS fun K hK=>?_;simp -dsimp [wr];refine callK_intro _ (c_in _ _ _) (by simp) ?_;simp -dsimp [wr];refine callK_may _ (fun hm=>c_at p e (by simp[inr_iff]at hm;omega) (by simp[inr_iff]at hm;omega)) (by simp) ?_;simp -dsimp [wr];apply hK;clear hK K;refine awp_cond rfl (fun hc12=>?_) (fun hc12=>?_)
      ·skip
       try simp at hc12
       have hef:endB p (i,e)=false:=by
        cases hq:endB p (i,e)with
        |false=>rfl
        |true=>simp[endB]at hq;simp[hq]at hc12
       refine aS fun K hK=>?_;simp -dsimp;apply hK;clear hK K;exact awp_ret (by simp[valid_ff_end hc10 he hef])
      ·skip
       try simp at hc12
       refine awp_skip ?_;simp only[zT,reduceIte,Nat.reduceEqDiff];refine hK20 _ _ ?_;refine awp_prune [1,11,12,13,14] ?_;simp only[zP,Nat.reduceEqDiff,reduceIte];refine awp_seq_k fun K21 hK21=>?_;refine aS fun K hK=>?_;simp -dsimp;apply hK;clear hK K;refine awp_block ?_;refine awp_prune [1,11,12,13,14,15] ?_;simp only[zP,Nat.reduceEqDiff,reduceIte];refine awp_loop_l [1,11,12,13,14] (α:=Nat) (fun m=>[(15,I m)]) (fun _=>[some (.els 2 [p.cells]),some (.els 2 (eCells (curE p i j))),some (.els 2 [e.cells])]) (fun m=>m≤(curE p i j).length∧∀x∈(curE p i j).take m,x.2≠e) (fun m=>(curE p i j).length-m) 0 ?_ ?_ ?_
       ·simp
       ·exact sub_same (by simp)
       rintro m ⟨m1,m2⟩;simp only[zP,Nat.reduceEqDiff,reduceIte];refine awp_seq_k fun K22 hK22=>?_;refine aS fun K hK=>?_;simp -dsimp;apply hK;clear hK K;refine awp_cond rfl (fun hc13=>?_) (fun hc13=>?_)
       ·skip
        try simp at hc13
        obtain⟨x,hx⟩:∃x,(curE p i j)[m]?=some x:=⟨_,List.getElem?_eq_getElem hc13⟩;have wm:=zW m (by omega);refine awp_skip ?_;simp only[zT,reduceIte,Nat.reduceEqDiff];refine hK22 _ _ ?_;refine awp_prune [1,11,12,13,14,15] ?_;simp only[zP,Nat.reduceEqDiff,reduceIte];refine awp_seq_k fun K23 hK23=>?_;refine awp_block ?_;refine awp_sd mixed rfl fun K hK=>?_;simp -dsimp [hx,hc13];refine hK _ _ _ (by decide+kernel) ?_;clear hK K;refine awp_cond rfl (fun hc14=>?_) (fun hc14=>?_)
        ·skip
         try simp at hc14
         refine aS fun K hK=>?_;simp -dsimp;apply hK;clear hK K;have hxe:x.2=e:=by cases hxx:x.2;cases e;simp_all
         exact awp_ret (by simp[valid_ff_dup hc10 he hx hxe])
        ·skip
         try simp at hc14
         refine awp_skip ?_;simp only[zT,reduceIte,Nat.reduceEqDiff];refine hK23 _ _ ?_;refine awp_prune [1,11,12,13,14,15] ?_;simp only[zP,Nat.reduceEqDiff,reduceIte];refine aR fun K hK=>?_;simp -dsimp [wm];apply hK;clear hK K;simp only[zT,reduceIte,Nat.reduceEqDiff];refine⟨m+1,⟨by omega,?_⟩,by omega,sub_same (by simp)⟩;intro y hy;rw[List.take_add_one,hx]at hy
         rcases List.mem_append.1 hy with hy|hy
         ·exact m2 y hy
         ·simp only[Option.toList_some,List.mem_singleton]at hy;subst hy;intro hh;rw[←hh]at hc14;have hxm:(curE p i j)[m]=y:=(List.getElem?_eq_some_iff.1 hx).2;simp[hxm]at hc14
       ·skip
        try simp at hc13
        have hne:∀x∈curE p i j,x.2≠e:=by intro x hx;exact m2 x (by rw[List.take_of_length_le (by omega)];exact hx)
        refine awp_exit ?_;simp only[zT,reduceIte,Nat.reduceEqDiff];refine hK21 _ _ ?_;refine awp_prune [1,11,12,13,14] ?_;simp only[zP,Nat.reduceEqDiff,reduceIte];refine aR fun K hK=>?_;simp -dsimp [f1,f2];apply hK;clear hK K;simp only[zT,reduceIte,Nat.reduceEqDiff];refine hK19 _ _ ?_;refine awp_prune [1,11,12,13] ?_;simp only[zP,Nat.reduceEqDiff,reduceIte];refine aR fun K hK=>?_;simp -dsimp [wj];apply hK;clear hK K;simp only[zT,reduceIte,Nat.reduceEqDiff];refine⟨j+1,⟨by omega,?_,?_⟩,by omega,sub_rb [some 0,some 3] rfl (by simp[curE_succ he]) (by simp[curE_succ he,Function.comp_def,List.take_of_length_le])⟩
        ·rw[curE_succ he,List.all_append,j2];simp[endB,hc12]
        ·rw[curE_succ he,List.map_append,List.nodup_append];refine⟨j3,by simp,?_⟩;intro a ha b hb;simp only[List.map_cons,List.map_nil,List.mem_singleton]at hb;subst hb;obtain⟨y,hy,rfl⟩:=List.mem_map.1 ha;exact hne y hy
     ·skip
      try simp at hc11
      have hce:=curE_all (p:=p) (i:=i) (j:=j) (by omega);refine awp_exit ?_;simp only[zT,reduceIte,Nat.reduceEqDiff];refine hK17 _ _ ?_;refine awp_prune [1,11,12] ?_;simp only[zP,Nat.reduceEqDiff,reduceIte];refine aR fun K hK=>?_;simp -dsimp [wi];apply hK;clear hK K;simp only[zT,reduceIte,Nat.reduceEqDiff];exact⟨i+1,⟨by omega,by rw[←hce];exact j2,by rw[←hce];exact j3⟩,by omega,by simp only[←hce];exact sub_same (by simp)⟩
    ·skip
     try simp at hc10
     have hii:i=p.Nodes.length:=by omega
     subst hii;have hle:=endsOf_len hA p.Nodes.length (Nat.le_refl _);have w2:IntKind.i64.wrap (2*(p.Rails.length:Int))=2*(p.Rails.length:Int):=wrap_in (by omega) (by omega);refine awp_exit ?_;simp only[zT,reduceIte,Nat.reduceEqDiff];refine hK15 _ _ ?_;refine awp_prune [1,11] ?_;simp only[zP,Nat.reduceEqDiff,reduceIte];refine aS fun K hK=>?_;simp -dsimp [w2];apply hK;clear hK K;refine awp_ret ?_;have hv:validB p=decide ((endsOf p p.Nodes.length).length=2*p.Rails.length):=by simp[validB,validA,validE,hc0,hA,hB,i2,i3]
     simp only[hv];simp;exact Bool.eq_iff_iff.2 (by simp;omega)
end Go.Tram
end
section
namespace Go.Tram
open Go.AM Go.Proofs
theorem c_rarr (m:Move):PureCall Tryz.prog 177 [m.av] (.agg [I m.Rail,Bo (!m.Back)]):=by
 refine PureCall.of_body Tryz.func177 rfl (by decide) (by simp[Tryz.ntmps177]) ?_;simp only[Tryz.ntmps177,Tryz.results177];refine aS fun K hK=>?_;simp -dsimp;apply hK;clear hK K;refine aS fun K hK=>?_;simp -dsimp;apply hK;clear hK K;exact awp_ret (by simp)
theorem c_rlea (m:Move):PureCall Tryz.prog 179 [m.av] (.agg [I m.Rail,Bo m.Back]):=by
 refine PureCall.of_body Tryz.func179 rfl (by decide) (by simp[Tryz.ntmps179]) ?_;simp only[Tryz.ntmps179,Tryz.results179];refine aS fun K hK=>?_;simp -dsimp;apply hK;clear hK K;refine aS fun K hK=>?_;simp -dsimp;apply hK;clear hK K;exact awp_ret (by simp)
theorem c_rMove (p:Plan) (m:Move) (hR:p.Rails.length≤100000):PureCall Tryz.prog 30 [p.av,m.av] (Bo (movB p m)):=by
 have w:IntKind.i64.wrap ((p.Rails.length:Int)-1)=(p.Rails.length:Int)-1:=wrap_in (by omega) (by omega);refine PureCall.of_body Tryz.func30 rfl (by decide) (by simp[Tryz.ntmps30]) ?_;simp only[Tryz.ntmps30,Tryz.results30];refine aS fun K hK=>?_;simp -dsimp;apply hK;clear hK K;refine aS fun K hK=>?_;simp -dsimp [w];refine callK_intro _ (c_in m.Rail 0 _) (by simp) ?_;simp -dsimp [w];apply hK;clear hK K;exact awp_ret (by simp[movB])
theorem c_index (n:Node) (e:REnd) (hn:n.Ends.length≤1000):PureCall Tryz.prog 178 [n.av,e.av] (I (idxE n e)):=by
 refine PureCall.of_body Tryz.func178 rfl (by decide) (by simp[Tryz.ntmps178]) ?_;simp only[Tryz.ntmps178,Tryz.results178];refine aS fun K hK=>?_;simp -dsimp;apply hK;clear hK K;refine awp_seq_k fun K1 hK1=>?_;refine aS fun K hK=>?_;simp -dsimp;apply hK;clear hK K;refine awp_block ?_;refine awp_prune [2,3,5] ?_;simp only[zP,Nat.reduceEqDiff,reduceIte];refine awp_loop_l [2,3] (α:=Nat) (fun k=>[(5,I k)]) (fun _=>[some (.els 5 [n.cells]),some (.els 2 [e.cells])]) (fun k=>k≤n.Ends.length∧idxTo e (n.Ends.drop k) k=idxE n e) (fun k=>n.Ends.length-k) 0 ?_ ?_ ?_
 ·exact⟨Nat.zero_le _,rfl⟩
 ·exact sub_same (by simp)
 rintro k ⟨k1,k2⟩;simp only[zP,Nat.reduceEqDiff,reduceIte];refine awp_seq_k fun K2 hK2=>?_;refine aS fun K hK=>?_;simp -dsimp;apply hK;clear hK K;refine awp_cond rfl (fun hc0=>?_) (fun hc0=>?_)
 ·skip
  try simp at hc0
  obtain⟨x,hx⟩:∃x,n.Ends[k]?=some x:=⟨_,List.getElem?_eq_getElem (by simpa using hc0)⟩;obtain⟨hxl,hxe⟩:=List.getElem?_eq_some_iff.1 hx;have wk:=zW k (by omega);rw[List.drop_eq_getElem_cons hxl,hxe]at k2;simp only[idxTo]at k2;refine awp_skip ?_;simp only[zT,reduceIte,Nat.reduceEqDiff];refine hK2 _ _ ?_;refine awp_prune [2,3,5] ?_;simp only[zP,Nat.reduceEqDiff,reduceIte];refine awp_seq_k fun K3 hK3=>?_;refine awp_block ?_;refine awp_sd mixed rfl fun K hK=>?_;simp -dsimp [hx];refine hK _ _ _ (by decide+kernel) ?_;clear hK K;refine awp_cond rfl (fun hc1=>?_) (fun hc1=>?_)
  ·have hxe2:x=e:=by obtain⟨a,b⟩:=x;obtain⟨c,d⟩:=e;simpa using hc1
   rw[if_pos hxe2]at k2;refine aS fun K hK=>?_;simp -dsimp;apply hK;clear hK K;exact awp_ret (by simp[←k2])
  ·have hxe2:x≠e:=by rintro rfl;simp at hc1
   rw[if_neg hxe2]at k2;refine awp_skip ?_;simp only[zT,reduceIte,Nat.reduceEqDiff];refine hK3 _ _ ?_;refine awp_prune [2,3,5] ?_;simp only[zP,Nat.reduceEqDiff,reduceIte];refine aR fun K hK=>?_;simp -dsimp [wk];apply hK;clear hK K;simp only[zT,reduceIte,Nat.reduceEqDiff];exact⟨k+1,⟨by omega,by rw[←k2];rfl⟩,by omega,sub_same (by simp)⟩
 ·skip
  try simp at hc0
  have hke:k=n.Ends.length:=by have:¬k<n.Ends.length:=(by simpa using hc0);omega
  subst hke;rw[List.drop_length]at k2;refine awp_exit ?_;simp only[zT,reduceIte,Nat.reduceEqDiff];refine hK1 _ _ ?_;refine awp_prune [] ?_;simp only[zP,Nat.reduceEqDiff,reduceIte];refine aS fun K hK=>?_;simp -dsimp;apply hK;clear hK K;exact awp_ret (by simp[←k2,idxTo])
theorem c_rlets1 (n:Node) (a b:Int) (ha:0≤a∧a≤1000) (hb:0≤b∧b≤1000) (hk:n.Kind=1):PureCall Tryz.prog 180 [n.av,I a,I b] (Bo (letsB n a b)):=by
 have w:IntKind.i64.wrap (a+b)=a+b:=wrap_in (by omega) (by omega);have w2:(a+b).tmod 2=(a+b) % 2:=Int.tmod_eq_emod_of_nonneg (by omega);unfold letsB;simp only[Node.av,Node.cells,hk,Int.reduceEq,if_false,if_true,reduceIte];refine PureCall.of_body Tryz.func180 rfl (by decide) (by simp[Tryz.ntmps180]) ?_;simp only[Tryz.ntmps180,Tryz.results180];refine aS fun K hK=>?_;simp -dsimp [w,w2];apply hK;clear hK K;refine awp_seq_k fun K1 hK1=>?_;refine aS fun K hK=>?_;simp -dsimp [w,w2];apply hK;clear hK K;refine awp_block ?_;refine aS fun K hK=>?_;simp -dsimp [w,w2];apply hK;clear hK K;refine awp_cond rfl (fun hc0=>?_) (fun hc0=>?_)
 ·refine aS fun K hK=>?_;simp -dsimp [w,w2];apply hK;clear hK K
  first|(exfalso;simp at hc0;done)|(exfalso;simp at hc1;done)|(exfalso;simp at hc2;done)|(exfalso;simp at hc3;done)|(exfalso;simp at hc4;done)|(refine awp_ret ?_;simp;done)|(refine awp_ret ?_;simp;exact Bool.eq_iff_iff.2 (by simp;try omega))
 ·refine aS fun K hK=>?_;simp -dsimp [w,w2];apply hK;clear hK K;refine awp_cond rfl (fun hc1=>?_) (fun hc1=>?_)
  ·refine aS fun K hK=>?_;simp -dsimp [w,w2];apply hK;clear hK K
   first|(exfalso;simp at hc0;done)|(exfalso;simp at hc1;done)|(exfalso;simp at hc2;done)|(exfalso;simp at hc3;done)|(exfalso;simp at hc4;done)|(refine awp_ret ?_;simp;done)|(refine awp_ret ?_;simp;exact Bool.eq_iff_iff.2 (by simp;try omega))
  ·refine aS fun K hK=>?_;simp -dsimp [w,w2];apply hK;clear hK K;refine awp_cond rfl (fun hc2=>?_) (fun hc2=>?_)
   ·refine aS fun K hK=>?_;simp -dsimp [w,w2];apply hK;clear hK K
    first|(exfalso;simp at hc0;done)|(exfalso;simp at hc1;done)|(exfalso;simp at hc2;done)|(exfalso;simp at hc3;done)|(exfalso;simp at hc4;done)|(refine awp_ret ?_;simp;done)|(refine awp_ret ?_;simp;exact Bool.eq_iff_iff.2 (by simp;try omega))
   ·refine aS fun K hK=>?_;simp -dsimp [w,w2];apply hK;clear hK K;refine awp_cond rfl (fun hc3=>?_) (fun hc3=>?_)
    ·refine aS fun K hK=>?_;simp -dsimp [w,w2];apply hK;clear hK K
     first|(exfalso;simp at hc0;done)|(exfalso;simp at hc1;done)|(exfalso;simp at hc2;done)|(exfalso;simp at hc3;done)|(exfalso;simp at hc4;done)|(refine awp_ret ?_;simp;done)|(refine awp_ret ?_;simp;exact Bool.eq_iff_iff.2 (by simp;try omega))
    ·refine aS fun K hK=>?_;simp -dsimp [w,w2];apply hK;clear hK K;refine awp_cond rfl (fun hc4=>?_) (fun hc4=>?_)
     ·refine aS fun K hK=>?_;simp -dsimp [w,w2];apply hK;clear hK K
      first|(exfalso;simp at hc0;done)|(exfalso;simp at hc1;done)|(exfalso;simp at hc2;done)|(exfalso;simp at hc3;done)|(exfalso;simp at hc4;done)|(refine awp_ret ?_;simp;done)|(refine awp_ret ?_;simp;exact Bool.eq_iff_iff.2 (by simp;try omega))
     ·refine awp_skip ?_;simp only[zT,reduceIte,Nat.reduceEqDiff];refine hK1 _ _ ?_;refine awp_prune [] ?_;simp only[zP,Nat.reduceEqDiff,reduceIte];refine aS fun K hK=>?_;simp -dsimp [w,w2];apply hK;clear hK K
      first|(exfalso;simp at hc0;done)|(exfalso;simp at hc1;done)|(exfalso;simp at hc2;done)|(exfalso;simp at hc3;done)|(exfalso;simp at hc4;done)|(refine awp_ret ?_;simp;done)|(refine awp_ret ?_;simp;exact Bool.eq_iff_iff.2 (by simp;try omega))
theorem c_rlets2 (n:Node) (a b:Int) (ha:0≤a∧a≤1000) (hb:0≤b∧b≤1000) (hk:n.Kind=2):PureCall Tryz.prog 180 [n.av,I a,I b] (Bo (letsB n a b)):=by
 have w:IntKind.i64.wrap (a+b)=a+b:=wrap_in (by omega) (by omega);have w2:(a+b).tmod 2=(a+b) % 2:=Int.tmod_eq_emod_of_nonneg (by omega);unfold letsB;simp only[Node.av,Node.cells,hk,Int.reduceEq,if_false,if_true,reduceIte];refine PureCall.of_body Tryz.func180 rfl (by decide) (by simp[Tryz.ntmps180]) ?_;simp only[Tryz.ntmps180,Tryz.results180];refine aS fun K hK=>?_;simp -dsimp [w,w2];apply hK;clear hK K;refine awp_seq_k fun K1 hK1=>?_;refine aS fun K hK=>?_;simp -dsimp [w,w2];apply hK;clear hK K;refine awp_block ?_;refine aS fun K hK=>?_;simp -dsimp [w,w2];apply hK;clear hK K;refine awp_cond rfl (fun hc0=>?_) (fun hc0=>?_)
 ·refine aS fun K hK=>?_;simp -dsimp [w,w2];apply hK;clear hK K
  first|(exfalso;simp at hc0;done)|(exfalso;simp at hc1;done)|(exfalso;simp at hc2;done)|(exfalso;simp at hc3;done)|(exfalso;simp at hc4;done)|(refine awp_ret ?_;simp;done)|(refine awp_ret ?_;simp;exact Bool.eq_iff_iff.2 (by simp;try omega))
 ·refine aS fun K hK=>?_;simp -dsimp [w,w2];apply hK;clear hK K;refine awp_cond rfl (fun hc1=>?_) (fun hc1=>?_)
  ·refine aS fun K hK=>?_;simp -dsimp [w,w2];apply hK;clear hK K
   first|(exfalso;simp at hc0;done)|(exfalso;simp at hc1;done)|(exfalso;simp at hc2;done)|(exfalso;simp at hc3;done)|(exfalso;simp at hc4;done)|(refine awp_ret ?_;simp;done)|(refine awp_ret ?_;simp;exact Bool.eq_iff_iff.2 (by simp;try omega))
  ·refine aS fun K hK=>?_;simp -dsimp [w,w2];apply hK;clear hK K;refine awp_cond rfl (fun hc2=>?_) (fun hc2=>?_)
   ·refine aS fun K hK=>?_;simp -dsimp [w,w2];apply hK;clear hK K
    first|(exfalso;simp at hc0;done)|(exfalso;simp at hc1;done)|(exfalso;simp at hc2;done)|(exfalso;simp at hc3;done)|(exfalso;simp at hc4;done)|(refine awp_ret ?_;simp;done)|(refine awp_ret ?_;simp;exact Bool.eq_iff_iff.2 (by simp;try omega))
   ·refine aS fun K hK=>?_;simp -dsimp [w,w2];apply hK;clear hK K;refine awp_cond rfl (fun hc3=>?_) (fun hc3=>?_)
    ·refine aS fun K hK=>?_;simp -dsimp [w,w2];apply hK;clear hK K
     first|(exfalso;simp at hc0;done)|(exfalso;simp at hc1;done)|(exfalso;simp at hc2;done)|(exfalso;simp at hc3;done)|(exfalso;simp at hc4;done)|(refine awp_ret ?_;simp;done)|(refine awp_ret ?_;simp;exact Bool.eq_iff_iff.2 (by simp;try omega))
    ·refine aS fun K hK=>?_;simp -dsimp [w,w2];apply hK;clear hK K;refine awp_cond rfl (fun hc4=>?_) (fun hc4=>?_)
     ·refine aS fun K hK=>?_;simp -dsimp [w,w2];apply hK;clear hK K
      first|(exfalso;simp at hc0;done)|(exfalso;simp at hc1;done)|(exfalso;simp at hc2;done)|(exfalso;simp at hc3;done)|(exfalso;simp at hc4;done)|(refine awp_ret ?_;simp;done)|(refine awp_ret ?_;simp;exact Bool.eq_iff_iff.2 (by simp;try omega))
     ·refine awp_skip ?_;simp only[zT,reduceIte,Nat.reduceEqDiff];refine hK1 _ _ ?_;refine awp_prune [] ?_;simp only[zP,Nat.reduceEqDiff,reduceIte];refine aS fun K hK=>?_;simp -dsimp [w,w2];apply hK;clear hK K
      first|(exfalso;simp at hc0;done)|(exfalso;simp at hc1;done)|(exfalso;simp at hc2;done)|(exfalso;simp at hc3;done)|(exfalso;simp at hc4;done)|(refine awp_ret ?_;simp;done)|(refine awp_ret ?_;simp;exact Bool.eq_iff_iff.2 (by simp;try omega))
theorem c_rlets3 (n:Node) (a b:Int) (ha:0≤a∧a≤1000) (hb:0≤b∧b≤1000) (hk:n.Kind=3):PureCall Tryz.prog 180 [n.av,I a,I b] (Bo (letsB n a b)):=by
 have w:IntKind.i64.wrap (a+b)=a+b:=wrap_in (by omega) (by omega);have w2:(a+b).tmod 2=(a+b) % 2:=Int.tmod_eq_emod_of_nonneg (by omega);unfold letsB;simp only[Node.av,Node.cells,hk,Int.reduceEq,if_false,if_true,reduceIte];refine PureCall.of_body Tryz.func180 rfl (by decide) (by simp[Tryz.ntmps180]) ?_;simp only[Tryz.ntmps180,Tryz.results180];refine aS fun K hK=>?_;simp -dsimp [w,w2];apply hK;clear hK K;refine awp_seq_k fun K1 hK1=>?_;refine aS fun K hK=>?_;simp -dsimp [w,w2];apply hK;clear hK K;refine awp_block ?_;refine aS fun K hK=>?_;simp -dsimp [w,w2];apply hK;clear hK K;refine awp_cond rfl (fun hc0=>?_) (fun hc0=>?_)
 ·refine aS fun K hK=>?_;simp -dsimp [w,w2];apply hK;clear hK K
  first|(exfalso;simp at hc0;done)|(exfalso;simp at hc1;done)|(exfalso;simp at hc2;done)|(exfalso;simp at hc3;done)|(exfalso;simp at hc4;done)|(refine awp_ret ?_;simp;done)|(refine awp_ret ?_;simp;exact Bool.eq_iff_iff.2 (by simp;try omega))
 ·refine aS fun K hK=>?_;simp -dsimp [w,w2];apply hK;clear hK K;refine awp_cond rfl (fun hc1=>?_) (fun hc1=>?_)
  ·refine aS fun K hK=>?_;simp -dsimp [w,w2];apply hK;clear hK K
   first|(exfalso;simp at hc0;done)|(exfalso;simp at hc1;done)|(exfalso;simp at hc2;done)|(exfalso;simp at hc3;done)|(exfalso;simp at hc4;done)|(refine awp_ret ?_;simp;done)|(refine awp_ret ?_;simp;exact Bool.eq_iff_iff.2 (by simp;try omega))
  ·refine aS fun K hK=>?_;simp -dsimp [w,w2];apply hK;clear hK K;refine awp_cond rfl (fun hc2=>?_) (fun hc2=>?_)
   ·refine aS fun K hK=>?_;simp -dsimp [w,w2];apply hK;clear hK K
    first|(exfalso;simp at hc0;done)|(exfalso;simp at hc1;done)|(exfalso;simp at hc2;done)|(exfalso;simp at hc3;done)|(exfalso;simp at hc4;done)|(refine awp_ret ?_;simp;done)|(refine awp_ret ?_;simp;exact Bool.eq_iff_iff.2 (by simp;try omega))
   ·refine aS fun K hK=>?_;simp -dsimp [w,w2];apply hK;clear hK K;refine awp_cond rfl (fun hc3=>?_) (fun hc3=>?_)
    ·refine aS fun K hK=>?_;simp -dsimp [w,w2];apply hK;clear hK K
     first|(exfalso;simp at hc0;done)|(exfalso;simp at hc1;done)|(exfalso;simp at hc2;done)|(exfalso;simp at hc3;done)|(exfalso;simp at hc4;done)|(refine awp_ret ?_;simp;done)|(refine awp_ret ?_;simp;exact Bool.eq_iff_iff.2 (by simp;try omega))
    ·refine aS fun K hK=>?_;simp -dsimp [w,w2];apply hK;clear hK K;refine awp_cond rfl (fun hc4=>?_) (fun hc4=>?_)
     ·refine aS fun K hK=>?_;simp -dsimp [w,w2];apply hK;clear hK K
      first|(exfalso;simp at hc0;done)|(exfalso;simp at hc1;done)|(exfalso;simp at hc2;done)|(exfalso;simp at hc3;done)|(exfalso;simp at hc4;done)|(refine awp_ret ?_;simp;done)|(refine awp_ret ?_;simp;exact Bool.eq_iff_iff.2 (by simp;try omega))
     ·refine awp_skip ?_;simp only[zT,reduceIte,Nat.reduceEqDiff];refine hK1 _ _ ?_;refine awp_prune [] ?_;simp only[zP,Nat.reduceEqDiff,reduceIte];refine aS fun K hK=>?_;simp -dsimp [w,w2];apply hK;clear hK K
      first|(exfalso;simp at hc0;done)|(exfalso;simp at hc1;done)|(exfalso;simp at hc2;done)|(exfalso;simp at hc3;done)|(exfalso;simp at hc4;done)|(refine awp_ret ?_;simp;done)|(refine awp_ret ?_;simp;exact Bool.eq_iff_iff.2 (by simp;try omega))
theorem c_rlets4 (n:Node) (a b:Int) (ha:0≤a∧a≤1000) (hb:0≤b∧b≤1000) (hk:n.Kind=4):PureCall Tryz.prog 180 [n.av,I a,I b] (Bo (letsB n a b)):=by
 have w:IntKind.i64.wrap (a+b)=a+b:=wrap_in (by omega) (by omega);have w2:(a+b).tmod 2=(a+b) % 2:=Int.tmod_eq_emod_of_nonneg (by omega);unfold letsB;simp only[Node.av,Node.cells,hk,Int.reduceEq,if_false,if_true,reduceIte];refine PureCall.of_body Tryz.func180 rfl (by decide) (by simp[Tryz.ntmps180]) ?_;simp only[Tryz.ntmps180,Tryz.results180];refine aS fun K hK=>?_;simp -dsimp [w,w2];apply hK;clear hK K;refine awp_seq_k fun K1 hK1=>?_;refine aS fun K hK=>?_;simp -dsimp [w,w2];apply hK;clear hK K;refine awp_block ?_;refine aS fun K hK=>?_;simp -dsimp [w,w2];apply hK;clear hK K;refine awp_cond rfl (fun hc0=>?_) (fun hc0=>?_)
 ·refine aS fun K hK=>?_;simp -dsimp [w,w2];apply hK;clear hK K
  first|(exfalso;simp at hc0;done)|(exfalso;simp at hc1;done)|(exfalso;simp at hc2;done)|(exfalso;simp at hc3;done)|(exfalso;simp at hc4;done)|(refine awp_ret ?_;simp;done)|(refine awp_ret ?_;simp;exact Bool.eq_iff_iff.2 (by simp;try omega))
 ·refine aS fun K hK=>?_;simp -dsimp [w,w2];apply hK;clear hK K;refine awp_cond rfl (fun hc1=>?_) (fun hc1=>?_)
  ·refine aS fun K hK=>?_;simp -dsimp [w,w2];apply hK;clear hK K
   first|(exfalso;simp at hc0;done)|(exfalso;simp at hc1;done)|(exfalso;simp at hc2;done)|(exfalso;simp at hc3;done)|(exfalso;simp at hc4;done)|(refine awp_ret ?_;simp;done)|(refine awp_ret ?_;simp;exact Bool.eq_iff_iff.2 (by simp;try omega))
  ·refine aS fun K hK=>?_;simp -dsimp [w,w2];apply hK;clear hK K;refine awp_cond rfl (fun hc2=>?_) (fun hc2=>?_)
   ·refine aS fun K hK=>?_;simp -dsimp [w,w2];apply hK;clear hK K
    first|(exfalso;simp at hc0;done)|(exfalso;simp at hc1;done)|(exfalso;simp at hc2;done)|(exfalso;simp at hc3;done)|(exfalso;simp at hc4;done)|(refine awp_ret ?_;simp;done)|(refine awp_ret ?_;simp;exact Bool.eq_iff_iff.2 (by simp;try omega))
   ·refine aS fun K hK=>?_;simp -dsimp [w,w2];apply hK;clear hK K;refine awp_cond rfl (fun hc3=>?_) (fun hc3=>?_)
    ·refine aS fun K hK=>?_;simp -dsimp [w,w2];apply hK;clear hK K
     first|(exfalso;simp at hc0;done)|(exfalso;simp at hc1;done)|(exfalso;simp at hc2;done)|(exfalso;simp at hc3;done)|(exfalso;simp at hc4;done)|(refine awp_ret ?_;simp;done)|(refine awp_ret ?_;simp;exact Bool.eq_iff_iff.2 (by simp;try omega))
    ·refine aS fun K hK=>?_;simp -dsimp [w,w2];apply hK;clear hK K;refine awp_cond rfl (fun hc4=>?_) (fun hc4=>?_)
     ·refine aS fun K hK=>?_;simp -dsimp [w,w2];apply hK;clear hK K
      first|(exfalso;simp at hc0;done)|(exfalso;simp at hc1;done)|(exfalso;simp at hc2;done)|(exfalso;simp at hc3;done)|(exfalso;simp at hc4;done)|(refine awp_ret ?_;simp;done)|(refine awp_ret ?_;simp;exact Bool.eq_iff_iff.2 (by simp;try omega))
     ·refine awp_skip ?_;simp only[zT,reduceIte,Nat.reduceEqDiff];refine hK1 _ _ ?_;refine awp_prune [] ?_;simp only[zP,Nat.reduceEqDiff,reduceIte];refine aS fun K hK=>?_;simp -dsimp [w,w2];apply hK;clear hK K
      first|(exfalso;simp at hc0;done)|(exfalso;simp at hc1;done)|(exfalso;simp at hc2;done)|(exfalso;simp at hc3;done)|(exfalso;simp at hc4;done)|(refine awp_ret ?_;simp;done)|(refine awp_ret ?_;simp;exact Bool.eq_iff_iff.2 (by simp;try omega))
theorem c_rlets5 (n:Node) (a b:Int) (ha:0≤a∧a≤1000) (hb:0≤b∧b≤1000) (hk:n.Kind=5):PureCall Tryz.prog 180 [n.av,I a,I b] (Bo (letsB n a b)):=by
 have w:IntKind.i64.wrap (a+b)=a+b:=wrap_in (by omega) (by omega);have w2:(a+b).tmod 2=(a+b) % 2:=Int.tmod_eq_emod_of_nonneg (by omega);unfold letsB;simp only[Node.av,Node.cells,hk,Int.reduceEq,if_false,if_true,reduceIte];refine PureCall.of_body Tryz.func180 rfl (by decide) (by simp[Tryz.ntmps180]) ?_;simp only[Tryz.ntmps180,Tryz.results180];refine aS fun K hK=>?_;simp -dsimp [w,w2];apply hK;clear hK K;refine awp_seq_k fun K1 hK1=>?_;refine aS fun K hK=>?_;simp -dsimp [w,w2];apply hK;clear hK K;refine awp_block ?_;refine aS fun K hK=>?_;simp -dsimp [w,w2];apply hK;clear hK K;refine awp_cond rfl (fun hc0=>?_) (fun hc0=>?_)
 ·refine aS fun K hK=>?_;simp -dsimp [w,w2];apply hK;clear hK K
  first|(exfalso;simp at hc0;done)|(exfalso;simp at hc1;done)|(exfalso;simp at hc2;done)|(exfalso;simp at hc3;done)|(exfalso;simp at hc4;done)|(refine awp_ret ?_;simp;done)|(refine awp_ret ?_;simp;exact Bool.eq_iff_iff.2 (by simp;try omega))
 ·refine aS fun K hK=>?_;simp -dsimp [w,w2];apply hK;clear hK K;refine awp_cond rfl (fun hc1=>?_) (fun hc1=>?_)
  ·refine aS fun K hK=>?_;simp -dsimp [w,w2];apply hK;clear hK K
   first|(exfalso;simp at hc0;done)|(exfalso;simp at hc1;done)|(exfalso;simp at hc2;done)|(exfalso;simp at hc3;done)|(exfalso;simp at hc4;done)|(refine awp_ret ?_;simp;done)|(refine awp_ret ?_;simp;exact Bool.eq_iff_iff.2 (by simp;try omega))
  ·refine aS fun K hK=>?_;simp -dsimp [w,w2];apply hK;clear hK K;refine awp_cond rfl (fun hc2=>?_) (fun hc2=>?_)
   ·refine aS fun K hK=>?_;simp -dsimp [w,w2];apply hK;clear hK K
    first|(exfalso;simp at hc0;done)|(exfalso;simp at hc1;done)|(exfalso;simp at hc2;done)|(exfalso;simp at hc3;done)|(exfalso;simp at hc4;done)|(refine awp_ret ?_;simp;done)|(refine awp_ret ?_;simp;exact Bool.eq_iff_iff.2 (by simp;try omega))
   ·refine aS fun K hK=>?_;simp -dsimp [w,w2];apply hK;clear hK K;refine awp_cond rfl (fun hc3=>?_) (fun hc3=>?_)
    ·refine aS fun K hK=>?_;simp -dsimp [w,w2];apply hK;clear hK K
     first|(exfalso;simp at hc0;done)|(exfalso;simp at hc1;done)|(exfalso;simp at hc2;done)|(exfalso;simp at hc3;done)|(exfalso;simp at hc4;done)|(refine awp_ret ?_;simp;done)|(refine awp_ret ?_;simp;exact Bool.eq_iff_iff.2 (by simp;try omega))
    ·refine aS fun K hK=>?_;simp -dsimp [w,w2];apply hK;clear hK K;refine awp_cond rfl (fun hc4=>?_) (fun hc4=>?_)
     ·refine aS fun K hK=>?_;simp -dsimp [w,w2];apply hK;clear hK K
      first|(exfalso;simp at hc0;done)|(exfalso;simp at hc1;done)|(exfalso;simp at hc2;done)|(exfalso;simp at hc3;done)|(exfalso;simp at hc4;done)|(refine awp_ret ?_;simp;done)|(refine awp_ret ?_;simp;exact Bool.eq_iff_iff.2 (by simp;try omega))
     ·refine awp_skip ?_;simp only[zT,reduceIte,Nat.reduceEqDiff];refine hK1 _ _ ?_;refine awp_prune [] ?_;simp only[zP,Nat.reduceEqDiff,reduceIte];refine aS fun K hK=>?_;simp -dsimp [w,w2];apply hK;clear hK K
      first|(exfalso;simp at hc0;done)|(exfalso;simp at hc1;done)|(exfalso;simp at hc2;done)|(exfalso;simp at hc3;done)|(exfalso;simp at hc4;done)|(refine awp_ret ?_;simp;done)|(refine awp_ret ?_;simp;exact Bool.eq_iff_iff.2 (by simp;try omega))
theorem c_rlets6 (n:Node) (a b:Int) (ha:0≤a∧a≤1000) (hb:0≤b∧b≤1000) (hk:n.Kind=6):PureCall Tryz.prog 180 [n.av,I a,I b] (Bo (letsB n a b)):=by
 have w:IntKind.i64.wrap (a+b)=a+b:=wrap_in (by omega) (by omega);have w2:(a+b).tmod 2=(a+b) % 2:=Int.tmod_eq_emod_of_nonneg (by omega);unfold letsB;simp only[Node.av,Node.cells,hk,Int.reduceEq,if_false,if_true,reduceIte];refine PureCall.of_body Tryz.func180 rfl (by decide) (by simp[Tryz.ntmps180]) ?_;simp only[Tryz.ntmps180,Tryz.results180];refine aS fun K hK=>?_;simp -dsimp [w,w2];apply hK;clear hK K;refine awp_seq_k fun K1 hK1=>?_;refine aS fun K hK=>?_;simp -dsimp [w,w2];apply hK;clear hK K;refine awp_block ?_;refine aS fun K hK=>?_;simp -dsimp [w,w2];apply hK;clear hK K;refine awp_cond rfl (fun hc0=>?_) (fun hc0=>?_)
 ·refine aS fun K hK=>?_;simp -dsimp [w,w2];apply hK;clear hK K
  first|(exfalso;simp at hc0;done)|(exfalso;simp at hc1;done)|(exfalso;simp at hc2;done)|(exfalso;simp at hc3;done)|(exfalso;simp at hc4;done)|(refine awp_ret ?_;simp;done)|(refine awp_ret ?_;simp;exact Bool.eq_iff_iff.2 (by simp;try omega))
 ·refine aS fun K hK=>?_;simp -dsimp [w,w2];apply hK;clear hK K;refine awp_cond rfl (fun hc1=>?_) (fun hc1=>?_)
  ·refine aS fun K hK=>?_;simp -dsimp [w,w2];apply hK;clear hK K
   first|(exfalso;simp at hc0;done)|(exfalso;simp at hc1;done)|(exfalso;simp at hc2;done)|(exfalso;simp at hc3;done)|(exfalso;simp at hc4;done)|(refine awp_ret ?_;simp;done)|(refine awp_ret ?_;simp;exact Bool.eq_iff_iff.2 (by simp;try omega))
  ·refine aS fun K hK=>?_;simp -dsimp [w,w2];apply hK;clear hK K;refine awp_cond rfl (fun hc2=>?_) (fun hc2=>?_)
   ·refine aS fun K hK=>?_;simp -dsimp [w,w2];apply hK;clear hK K
    first|(exfalso;simp at hc0;done)|(exfalso;simp at hc1;done)|(exfalso;simp at hc2;done)|(exfalso;simp at hc3;done)|(exfalso;simp at hc4;done)|(refine awp_ret ?_;simp;done)|(refine awp_ret ?_;simp;exact Bool.eq_iff_iff.2 (by simp;try omega))
   ·refine aS fun K hK=>?_;simp -dsimp [w,w2];apply hK;clear hK K;refine awp_cond rfl (fun hc3=>?_) (fun hc3=>?_)
    ·refine aS fun K hK=>?_;simp -dsimp [w,w2];apply hK;clear hK K
     first|(exfalso;simp at hc0;done)|(exfalso;simp at hc1;done)|(exfalso;simp at hc2;done)|(exfalso;simp at hc3;done)|(exfalso;simp at hc4;done)|(refine awp_ret ?_;simp;done)|(refine awp_ret ?_;simp;exact Bool.eq_iff_iff.2 (by simp;try omega))
    ·refine aS fun K hK=>?_;simp -dsimp [w,w2];apply hK;clear hK K;refine awp_cond rfl (fun hc4=>?_) (fun hc4=>?_)
     ·refine aS fun K hK=>?_;simp -dsimp [w,w2];apply hK;clear hK K
      first|(exfalso;simp at hc0;done)|(exfalso;simp at hc1;done)|(exfalso;simp at hc2;done)|(exfalso;simp at hc3;done)|(exfalso;simp at hc4;done)|(refine awp_ret ?_;simp;done)|(refine awp_ret ?_;simp;exact Bool.eq_iff_iff.2 (by simp;try omega))
     ·refine awp_skip ?_;simp only[zT,reduceIte,Nat.reduceEqDiff];refine hK1 _ _ ?_;refine awp_prune [] ?_;simp only[zP,Nat.reduceEqDiff,reduceIte];refine aS fun K hK=>?_;simp -dsimp [w,w2];apply hK;clear hK K
      first|(exfalso;simp at hc0;done)|(exfalso;simp at hc1;done)|(exfalso;simp at hc2;done)|(exfalso;simp at hc3;done)|(exfalso;simp at hc4;done)|(refine awp_ret ?_;simp;done)|(refine awp_ret ?_;simp;exact Bool.eq_iff_iff.2 (by simp;try omega))
theorem c_rlets (n:Node) (a b:Int) (ha:0≤a∧a≤1000) (hb:0≤b∧b≤1000) (hk:1≤n.Kind∧n.Kind≤6):PureCall Tryz.prog 180 [n.av,I a,I b] (Bo (letsB n a b)):=by
 have:n.Kind=1∨n.Kind=2∨n.Kind=3∨n.Kind=4∨n.Kind=5∨n.Kind=6:=by omega
 rcases this with h|h|h|h|h|h
 ·exact c_rlets1 n a b ha hb h
 ·exact c_rlets2 n a b ha hb h
 ·exact c_rlets3 n a b ha hb h
 ·exact c_rlets4 n a b ha hb h
 ·exact c_rlets5 n a b ha hb h
 ·exact c_rlets6 n a b ha hb h
theorem idxTo_bd (e:REnd):∀(l:List REnd) (i:Int),0≤i→ -1≤idxTo e l i∧idxTo e l i≤i+l.length
 |[],i,h=>by simp[idxTo];omega
 |x::l,i,h=>by
  have:=idxTo_bd e l (i+1) (by omega);simp only[idxTo]
  split<;>simp<;>omega
theorem idxE_bd (n:Node) (e:REnd):-1≤idxE n e∧idxE n e≤n.Ends.length:=by
 have:=idxTo_bd e n.Ends 0 (by omega);unfold idxE;omega
theorem c_rFollows (p:Plan) (m k:Move) (hv:validB p=true) (hm:movB p m=true):PureCall Tryz.prog 136 [p.av,m.av,k.av] (Bo (rFoll p m k)):=by
 have hm':=movB_iff.1 hm;have ha:=at_in hv (e:=arrE m) hm'.1 hm'.2;have hnode:=p.node_get ha.1 ha.2;have hnf:=node_kind (node_fine hv ha.1 ha.2);have hca:=c_at p (arrE m) hm'.1 hm'.2;have hna:p.node (p.at (arrE m))=nodeAt p m:=rfl;rw[hna]at hnode hnf;have hi1:=c_index (nodeAt p m) (arrE m) (by omega);have hi2:=c_index (nodeAt p m) (leaE k) (by omega);have hb1:=idxE_bd (nodeAt p m) (arrE m);have hb2:=idxE_bd (nodeAt p m) (leaE k);have hlt:=fun h1 h2=>c_rlets (nodeAt p m) (idxE (nodeAt p m) (arrE m)) (idxE (nodeAt p m) (leaE k)) ⟨h1,by omega⟩ ⟨h2,by omega⟩ hnf.1;have hrf:rFoll p m k=(decide (0≤idxE (nodeAt p m) (arrE m))&&(decide (0≤idxE (nodeAt p m) (leaE k))&&letsB (nodeAt p m) (idxE (nodeAt p m) (arrE m)) (idxE (nodeAt p m) (leaE k)))):=rfl;rw[hrf];generalize letsB (nodeAt p m) (idxE (nodeAt p m) (arrE m)) (idxE (nodeAt p m) (leaE k))=lt at hlt ⊢;generalize nodeAt p m=n at*
 refine PureCall.of_body Tryz.func136 rfl (by decide) (by simp[Tryz.ntmps136]) ?_;simp only[Tryz.ntmps136,Tryz.results136];refine aS fun K hK=>?_;simp -dsimp;apply hK;clear hK K;refine awp_sd mixed rfl fun K hK=>?_;simp -dsimp;refine callK_intro _ (c_rarr m) (by simp) ?_;simp -dsimp;refine callK_intro _ (hca) (by simp) ?_;simp -dsimp;refine hK _ _ _ (by decide+kernel) ?_;clear hK K;refine aS fun K hK=>?_;simp -dsimp [hnode,ha.1];apply hK;clear hK K;refine awp_sd mixed rfl fun K hK=>?_;simp -dsimp;refine callK_intro _ (c_rarr m) (by simp) ?_;simp -dsimp;refine callK_intro _ (hi1) (by simp) ?_;simp -dsimp;refine callK_intro _ (c_rlea k) (by simp) ?_;simp -dsimp;refine callK_intro _ (hi2) (by simp) ?_;simp -dsimp;refine hK _ _ _ (by decide+kernel) ?_;clear hK K;refine aS fun K hK=>?_;simp -dsimp;refine callK_may _ (fun hm=>hlt (by simp at hm;exact hm.1) (by simp at hm;exact hm.2)) (by simp) ?_;simp -dsimp;apply hK;clear hK K;exact awp_ret (by simp[Bool.and_assoc])
structure Setg where
 Node:Int
 Leg:Int
 deriving DecidableEq,Inhabited
@[simp] def Setg.cells (s:Setg):List AV:=[I s.Node,I s.Leg]
end Go.Tram
end
section
namespace Go.Tram
open Go.AM Go.Proofs
theorem c_rWay (p:Plan) (l:List Move) (hv:validB p=true) (hn:l.length≤100000):PureCall Tryz.prog 150 [p.av,mLst l] (Bo (wayB p l)):=by
 have hR:=(valid_parts hv).2.1;have hmo:=fun m=>c_rMove p m (by omega);have hfol:∀m k,movB p m=true→movB p k=true→PureCall Tryz.prog 136 [p.av,m.av,k.av] (Bo (follB p m k)):=fun m k h1 h2=>by rw[foll_eq hv h1 h2];exact c_rFollows p m k hv h1
 refine PureCall.of_body Tryz.func150 rfl (by decide) (by simp[Tryz.ntmps150]) ?_;simp only[Tryz.ntmps150,Tryz.results150];refine aS fun K hK=>?_;simp -dsimp;apply hK;clear hK K;refine awp_seq_k fun K1 hK1=>?_;refine aS fun K hK=>?_;simp -dsimp;apply hK;clear hK K;refine awp_block ?_;refine awp_prune [1,2,5] ?_;simp only[zP,Nat.reduceEqDiff,reduceIte];refine awp_loop_l [1,2] (α:=Nat) (fun i=>[(5,I i)]) (fun i=>[some (.els 2 [p.cells])]) (fun i=>i≤l.length∧(List.range i).all (stepB p l)=true) (fun i=>l.length-i) 0 ?_ ?_ ?_
 ·simp
 ·exact sub_same (by simp)
 rintro i ⟨i1,i2⟩;simp only[zP,Nat.reduceEqDiff,reduceIte];refine awp_seq_k fun K2 hK2=>?_;refine aS fun K hK=>?_;simp -dsimp;apply hK;clear hK K;refine awp_cond rfl (fun hc0=>?_) (fun hc0=>?_)
 ·skip
  try simp at hc0
  obtain⟨m,hgm⟩:∃m,l[i]?=some m:=⟨_,List.getElem?_eq_getElem hc0⟩;have wi:=zW i (by omega);have w1:IntKind.i64.wrap ((i:Int)-1)=(i:Int)-1:=wrap_in (by omega) (by omega);have hprev:0<i→l[i-1]?=some (l[i-1]?.getD default):=fun h=>by rw[List.getElem?_eq_getElem (by omega)];rfl
  have hpm:0<i→movB p (l[i-1]?.getD default)=true:=fun h=>(Bool.and_eq_true_iff.1 (allR_at i2 (show i-1<i by omega))).1;have hst:stepB p l i=(movB p m&&(decide (i=0)||follB p (l[i-1]?.getD default) m)):=by unfold stepB;rw[hgm];rfl
  generalize l[i-1]?.getD default=m' at hprev hpm hst;refine awp_skip ?_;simp only[zT,reduceIte,Nat.reduceEqDiff];refine hK2 _ _ ?_;refine awp_prune [1,2,5] ?_;simp only[zP,Nat.reduceEqDiff,reduceIte];refine awp_seq_k fun K3 hK3=>?_;refine awp_block ?_;refine awp_sd mixed rfl fun K hK=>?_;simp -dsimp [hgm,w1];refine callK_intro _ (hmo m) (by simp) ?_;simp -dsimp [hgm,w1];refine⟨fun _ h=>by omega,?_⟩
  try simp -dsimp
  refine idxK_intro m'.cells (fun hq=>by simp at hq;rw[List.getElem?_map,hprev hq.2];rfl) ?_;simp -dsimp [hgm,w1];refine idxK_intro m.cells (fun _=>by rw[List.getElem?_map,hgm];rfl) ?_;simp -dsimp [hgm,w1];refine callK_may _ (fun hm=>(hfol m' m (hpm (by simp at hm;exact hm.2)) (by simp at hm;exact hm.1))) (by simp) ?_;simp -dsimp [hgm,w1];refine hK _ _ _ (by decide+kernel) ?_;clear hK K;refine awp_cond rfl (fun hc1=>?_) (fun hc1=>?_)
  ·rw[step_neg,←hst]at hc1;have hsf:stepB p l i=false:=by simpa using hc1
   have hb:wayB p l=false:=by unfold wayB;rw[show(List.range l.length).all (stepB p l)=false from by rw[List.all_eq_false];exact⟨i,List.mem_range.2 hc0,by simp[hsf]⟩];rfl
   refine aS fun K hK=>?_;simp -dsimp;apply hK;clear hK K;exact awp_ret (by simp[hb])
  ·rw[step_neg,←hst]at hc1;have hst1:stepB p l i=true:=by simpa using hc1
   refine awp_skip ?_;simp only[zT,reduceIte,Nat.reduceEqDiff];refine hK3 _ _ ?_;refine awp_prune [1,2,5] ?_;simp only[zP,Nat.reduceEqDiff,reduceIte];refine aR fun K hK=>?_;simp -dsimp [wi];apply hK;clear hK K;simp only[zT,reduceIte,Nat.reduceEqDiff];exact⟨i+1,⟨by omega,by rw[allR_succ,i2,hst1];rfl⟩,by omega,sub_rb [some 0] rfl (by simp) (by simp)⟩
 ·skip
  try simp at hc0
  have hie:i=l.length:=by omega
  subst hie;refine awp_exit ?_;simp only[zT,reduceIte,Nat.reduceEqDiff];refine hK1 _ _ ?_;refine awp_prune [1] ?_;simp only[zP,Nat.reduceEqDiff,reduceIte];refine aS fun K hK=>?_;simp -dsimp;refine callK_intro _ (c_in l.length 1 2000) (by simp) ?_;simp -dsimp;apply hK;clear hK K;exact awp_ret (by simp[wayB,i2])
end Go.Tram
end
section
namespace Go.Tram
open Go.AM Go.Proofs
attribute [-simp] minI maxI
end Go.Tram
end
section
namespace Go.Tram
open Go.AM Go.Proofs
theorem c_rLength (p:Plan) (r:Int) (h0:0≤r) (h1:r<p.Rails.length) (ro:RailOk p r):PureCall Tryz.prog 21 [p.av,I r] (I (p.len r)):=
 c_Length p r h0 h1 ro.f ro.t (by have:=ro.s;omega) ro.spots
end Go.Tram
end
section
namespace Go.Tram
open Go.AM Go.Proofs
theorem c_rWayLength (p:Plan) (l:List Move) (hv:validB p=true) (hw:wayB p l=true):PureCall Tryz.prog 96 [p.av,mLst l] (I (begTo p l l.length)):=by
 have hl:=way_len hw;refine PureCall.of_body Tryz.func96 rfl (by decide) (by simp[Tryz.ntmps96]) ?_;simp only[Tryz.ntmps96,Tryz.results96];refine aS fun K hK=>?_;simp -dsimp;apply hK;clear hK K;refine aS fun K hK=>?_;simp -dsimp;apply hK;clear hK K;refine awp_seq_k fun K1 hK1=>?_;refine aS fun K hK=>?_;simp -dsimp;apply hK;clear hK K;refine awp_block ?_;refine awp_prune [1,2,5,6] ?_;simp only[zP,Nat.reduceEqDiff,reduceIte];refine awp_loop_l [1,2] (α:=Nat) (fun i=>[(6,I i),(5,I (begTo p l i))]) (fun i=>[some (.els 2 [p.cells])]) (fun i=>i≤l.length) (fun i=>l.length-i) 0 ?_ ?_ ?_
 ·simp
 ·exact sub_same (by simp[begTo])
 rintro i i1;simp only[zP,Nat.reduceEqDiff,reduceIte];refine awp_seq_k fun K2 hK2=>?_;refine aS fun K hK=>?_;simp -dsimp;apply hK;clear hK K;refine awp_cond rfl (fun hc0=>?_) (fun hc0=>?_)
 ·skip
  try simp at hc0
  obtain⟨m,hgm⟩:∃m,l[i]?=some m:=⟨_,List.getElem?_eq_getElem hc0⟩;have wi:=zW i (by omega);have hma:mvAt l i=m:=by simp[mvAt,hgm]
  have hmv:=way_mov hw i hc0;have hb1:=begTo_bd hv hw (i+1) (by omega);have hbs:begTo p l (i+1)=begTo p l i+p.len m.Rail:=by simp only[begTo];rw[hma]
  rw[hma]at hmv;have hmr:=movB_iff.1 hmv;have ro:=rail_ok hv hmr.1 hmr.2;have ws:IntKind.i64.wrap (begTo p l i+p.len m.Rail)=begTo p l (i+1):=by rw[←hbs];exact wrap_in (by omega) (by omega)
  refine awp_skip ?_;simp only[zT,reduceIte,Nat.reduceEqDiff];refine hK2 _ _ ?_;refine awp_prune [1,2,5,6] ?_;simp only[zP,Nat.reduceEqDiff,reduceIte];refine awp_seq_k fun K3 hK3=>?_;refine awp_block ?_;refine awp_draw mixed rfl fun K hK=>?_;simp -dsimp [hgm,ws];refine callK_intro _ (c_rLength p m.Rail hmr.1 hmr.2 ro) (by simp) ?_;simp -dsimp [hgm,ws];refine hK _ _ _ (by decide+kernel) ?_;clear hK K;simp only[zT,reduceIte,Nat.reduceEqDiff];refine hK3 _ _ ?_;refine awp_prune [1,2,5,6] ?_;simp only[zP,Nat.reduceEqDiff,reduceIte];refine aR fun K hK=>?_;simp -dsimp [wi];apply hK;clear hK K;simp only[zT,reduceIte,Nat.reduceEqDiff];exact⟨i+1,by omega,by omega,sub_same (by simp)⟩
 ·skip
  try simp at hc0
  have hie:i=l.length:=by omega
  subst hie;refine awp_exit ?_;simp only[zT,reduceIte,Nat.reduceEqDiff];refine hK1 _ _ ?_;refine awp_prune [5] ?_;simp only[zP,Nat.reduceEqDiff,reduceIte];refine aS fun K hK=>?_;simp -dsimp;apply hK;clear hK K;exact awp_ret (by simp)
end Go.Tram
end
section
namespace Go.Mo
open Go.AM Go.Cur Go.Proofs
open Go.Tram (Plan validB wayB begTo mvAt movB mLst begTo_bd way_mov way_len len_bd movB_iff c_Valid c_rWay c_rWayLength valid_parts)
theorem c_in3 (x lo hi:Int):PureCall Tryz.prog 217 [I x,I lo,I hi] (Bo (inr x lo hi)):=by
 refine PureCall.of_body Tryz.func217 rfl (by decide) (by simp[Tryz.ntmps217]) ?_;simp only[Tryz.ntmps217,Tryz.results217];refine aS fun K hK=>?_;simp -dsimp;apply hK;clear hK K;refine aS fun K hK=>?_;simp -dsimp;apply hK;clear hK K;exact awp_ret (by simp[inr])
theorem c_rTrain (t:Tn):PureCall Tryz.prog 216 [t.av] (Bo (okT t)):=by
 refine PureCall.of_body Tryz.func216 rfl (by decide) (by simp[Tryz.ntmps216]) ?_;simp only[Tryz.ntmps216,Tryz.results216];refine aS fun K hK=>?_;simp -dsimp;apply hK;clear hK K;refine awp_seq_k fun K1 hK1=>?_;refine aS fun K hK=>?_;simp -dsimp;refine callK_intro _ (c_in3 t.Mass 1000 80000) (by simp) ?_;simp -dsimp;refine callK_may _ (fun hm=>c_in3 t.Length 1 60000) (by simp) ?_;simp -dsimp;refine callK_may _ (fun hm=>c_in3 t.Speed 1 25000) (by simp) ?_;simp -dsimp;refine callK_may _ (fun hm=>c_in3 t.Effort 1 200000) (by simp) ?_;simp -dsimp;refine callK_may _ (fun hm=>c_in3 t.Brake 1 200000) (by simp) ?_;simp -dsimp;refine callK_may _ (fun hm=>c_in3 t.Power 1 2000000) (by simp) ?_;simp -dsimp;refine callK_may _ (fun hm=>c_in3 t.Resist 0 100000) (by simp) ?_;simp -dsimp;refine callK_may _ (fun hm=>c_in3 t.Rise 0 10000) (by simp) ?_;simp -dsimp;refine callK_may _ (fun hm=>c_in3 t.Back 0 100) (by simp) ?_;simp -dsimp;refine callK_may _ (fun hm=>c_in3 t.Grip.length 1 8) (by simp) ?_;simp -dsimp;apply hK;clear hK K;refine awp_cond rfl (fun hc0=>?_) (fun hc0=>?_)
 ·refine aS fun K hK=>?_;simp -dsimp;apply hK;clear hK K;have h0:okT t=false:=by
   simp only[okT];generalize inr t.Mass 1000 80000=b1 at*
   generalize inr t.Length 1 60000=b2 at*
   generalize inr t.Speed 1 25000=b3 at*
   generalize inr t.Effort 1 200000=b4 at*
   generalize inr t.Brake 1 200000=b5 at*
   generalize inr t.Power 1 2000000=b6 at*
   generalize inr t.Resist 0 100000=b7 at*
   generalize inr t.Rise 0 10000=b8 at*
   generalize inr t.Back 0 100=b9 at*
   generalize inr t.Grip.length 1 8=b10 at*
   revert hc0;cases b1<;>cases b2<;>cases b3<;>cases b4<;>cases b5<;>cases b6<;>cases b7<;>cases b8<;>cases b9<;>cases b10<;>simp
  exact awp_ret (by simp[h0])
 ·have hoh:(okT t=t.Grip.all fun x=>inr x 1 1000)∧inr t.Grip.length 1 8=true:=by
   simp only[okT];generalize inr t.Mass 1000 80000=b1 at*
   generalize inr t.Length 1 60000=b2 at*
   generalize inr t.Speed 1 25000=b3 at*
   generalize inr t.Effort 1 200000=b4 at*
   generalize inr t.Brake 1 200000=b5 at*
   generalize inr t.Power 1 2000000=b6 at*
   generalize inr t.Resist 0 100000=b7 at*
   generalize inr t.Rise 0 10000=b8 at*
   generalize inr t.Back 0 100=b9 at*
   generalize inr t.Grip.length 1 8=b10 at*
   revert hc0;cases b1<;>cases b2<;>cases b3<;>cases b4<;>cases b5<;>cases b6<;>cases b7<;>cases b8<;>cases b9<;>cases b10<;>simp
  obtain⟨ho,hn8⟩:=hoh;have hn:=(inr_iff.1 hn8).2;refine awp_skip ?_;simp only[zT,reduceIte,Nat.reduceEqDiff];refine hK1 _ _ ?_;refine awp_prune [1] ?_;simp only[zP,Nat.reduceEqDiff,reduceIte];refine awp_seq_k fun K2 hK2=>?_;refine aS fun K hK=>?_;simp -dsimp;apply hK;clear hK K;refine awp_block ?_;refine awp_prune [1,3] ?_;simp only[zP,Nat.reduceEqDiff,reduceIte];refine awp_loop_l [1] (α:=Nat) (fun k=>[(3,I k)]) (fun _=>[some (.els 10 [t.cells])]) (fun k=>k≤t.Grip.length∧(t.Grip.take k).all (fun x=>inr x 1 1000)=true) (fun k=>t.Grip.length-k) 0 ?_ ?_ ?_
  ·exact⟨Nat.zero_le _,by simp⟩
  ·exact sub_rb [some 0] rfl (by simp) (by simp)
  rintro k ⟨k1,k2⟩;simp only[zP,Nat.reduceEqDiff,reduceIte];refine awp_seq_k fun K3 hK3=>?_;refine aS fun K hK=>?_;simp -dsimp;apply hK;clear hK K;refine awp_cond rfl (fun hc1=>?_) (fun hc1=>?_)
  ·have hkl:k<t.Grip.length:=by simpa using hc1
   have wk:=zW k (by omega);have gk:=at0_nat hkl;refine awp_skip ?_;simp only[zT,reduceIte,Nat.reduceEqDiff];refine hK3 _ _ ?_;refine awp_prune [1,3] ?_;simp only[zP,Nat.reduceEqDiff,reduceIte];refine awp_seq_k fun K4 hK4=>?_;refine awp_block ?_;refine aS fun K hK=>?_;simp -dsimp [gk];refine callK_intro _ (c_in3 (at0 t.Grip k) 1 1000) (by simp) ?_;simp -dsimp [gk];apply hK;clear hK K;refine awp_cond rfl (fun hc2=>?_) (fun hc2=>?_)
   ·have hb:inr (at0 t.Grip k) 1 1000=false:=by simpa using hc2
    have h0:okT t=false:=by rw[ho,List.all_eq_false];exact⟨_,List.mem_of_getElem? gk,by simp[hb]⟩
    refine aS fun K hK=>?_;simp -dsimp;apply hK;clear hK K;exact awp_ret (by simp[h0])
   ·have hb:inr (at0 t.Grip k) 1 1000=true:=by simpa using hc2
    refine awp_skip ?_;simp only[zT,reduceIte,Nat.reduceEqDiff];refine hK4 _ _ ?_;refine awp_prune [1,3] ?_;simp only[zP,Nat.reduceEqDiff,reduceIte];refine aR fun K hK=>?_;simp -dsimp [wk];apply hK;clear hK K;simp only[zT,reduceIte,Nat.reduceEqDiff];exact⟨k+1,⟨by omega,by rw[List.take_add_one,gk,List.all_append,k2];simp[hb]⟩,by omega,sub_rb [some 0] rfl (by simp) (by simp)⟩
  ·have hkl:¬k<t.Grip.length:=by simpa using hc1
   rw[List.take_of_length_le (by omega)]at k2;refine awp_exit ?_;simp only[zT,reduceIte,Nat.reduceEqDiff];refine hK2 _ _ ?_;refine awp_prune [] ?_;simp only[zP,Nat.reduceEqDiff,reduceIte];refine aS fun K hK=>?_;simp -dsimp;apply hK;clear hK K;exact awp_ret (by simp[ho,k2])
end Go.Mo
end
section
namespace Go.Mo
open Go.AM Go.Cur Go.Proofs
open Go.Tram (Plan validB wayB begTo mvAt movB mLst begTo_bd way_mov way_len len_bd movB_iff)
def shX (t:Tn) (n:Int) (x:Ms):Ms:=⟨x.P,x.W+10*t.Mass*n⟩
def Lg.sh (n:Int) (o:Lg):Lg:={o with At:=o.At+n}
theorem plF_sh {t:Tn} {x:Ms} {n:Int} (hm:1000≤t.Mass) (hw:0≤x.W) (hn:0≤n):plF t (shX t n x)=plF t x+n:=by
 unfold plF shX;simp only;have h0:=Int.mul_nonneg (a:=10*t.Mass) (b:=n) (by omega) hn;rw[Int.tdiv_eq_ediv_of_nonneg (by omega),Int.tdiv_eq_ediv_of_nonneg hw,Int.add_mul_ediv_left _ _ (by omega)]
structure Sim (r1 r2:Rn) (n S:Int):Prop where
 ok:RnOk r1
 t:r2.t=r1.t
 st:r2.st=r1.st
 nn:0≤n
 ss:S+n≤400000000
 see:∀x,MsB r1.t x→r1.t.Length≤plF r1.t x→plF r1.t x≤S→r2.slF (shX r1.t n x)=r1.slF x∧r2.liF (shX r1.t n x)=r1.liF x
theorem plF_after {t:Tn} {st:Int} {x:Ms} {d sl:Int} (ha:Ask t st x d sl):plF t x≤plF t (afterX t st x d sl):=by
 have hn:=next_bd ha;have hw:=ha.x.w;have hm:=ha.b.ma;unfold plF afterX;simp only;rw[Int.tdiv_eq_ediv_of_nonneg hw.1,Int.tdiv_eq_ediv_of_nonneg (by omega)];exact Int.ediv_le_ediv (by omega) (by omega)
section
variable {r1 r2:Rn} {n S:Int} (h:Sim r1 r2 n S)
include h
theorem Sim.w {x:Ms} (hx:MsB r1.t x) (hp:plF r1.t x≤S):x.W+10*r1.t.Mass*n≤10000000000000000∧x.W≤10000000000000000∧0≤10*r1.t.Mass*n:=by
 have hm:=h.ok.b.ma;have hw:=hx.w;have hn:=h.nn;have hs:=h.ss;have h0:=Int.mul_nonneg (a:=10*r1.t.Mass) (b:=n) (by omega) hn;unfold plF at hp;rw[Int.tdiv_eq_ediv_of_nonneg hw.1]at hp;have h1:x.W<10*r1.t.Mass*(S+1):=by
  have:=Int.lt_mul_ediv_self_add (x:=x.W) (k:=10*r1.t.Mass) (by omega);have h2:=Int.mul_le_mul_of_nonneg_left hp (show 0≤10*r1.t.Mass by omega);rw[Int.mul_add];omega
 have h3:10*r1.t.Mass*(S+1)+10*r1.t.Mass*n=10*r1.t.Mass*(S+1+n):=by rw[←Int.mul_add]
 have hS:0≤S:=by
  have:=Int.ediv_nonneg hw.1 (show 0≤10*r1.t.Mass by omega);omega
 have h4:=Int.mul_le_mul (a:=10*r1.t.Mass) (b:=S+1+n) (c:=800000) (d:=400000001) (by omega) (by omega) (by omega) (by omega);omega
theorem Sim.next {x:Ms} (hx:MsB r1.t x) (hl:r1.t.Length≤plF r1.t x) (hp:plF r1.t x≤S) (d:Int):nextP r1.t r1.st (shX r1.t n x) d (r2.slF (shX r1.t n x))=nextP r1.t r1.st x d (r1.slF x)∧afterX r1.t r1.st (shX r1.t n x) d (r2.slF (shX r1.t n x))=shX r1.t n (afterX r1.t r1.st x d (r1.slF x)):=by
 have hs:=(h.see x hx hl hp).1;have e1:nextP r1.t r1.st (shX r1.t n x) d (r2.slF (shX r1.t n x))=nextP r1.t r1.st x d (r1.slF x):=by
  rw[hs];rfl
 refine⟨e1,?_⟩;unfold afterX;rw[e1];unfold shX;simp only[Ms.mk.injEq,true_and];omega
theorem Sim.fit {x:Ms} (hx:MsB r1.t x) (hl:r1.t.Length≤plF r1.t x) {stop:Int} (hs:stop≤S):r2.fitB (stop+n) (shX r1.t n x)=r1.fitB stop x:=by
 have hm:=h.ok.b.ma;have hp:=plF_sh (t:=r1.t) (x:=x) hm.1 hx.w.1 h.nn;unfold Rn.fitB;rw[h.t,hp]
 by_cases hc:plF r1.t x≤stop
 ·have h2:=(h.see x hx hl (by omega)).2;rw[h2,decide_eq_true hc,decide_eq_true (show plF r1.t x+n≤stop+n by omega)]
  rfl
 ·rw[decide_eq_false hc,decide_eq_false (show¬plF r1.t x+n≤stop+n by omega)]
  rfl
theorem Sim.stop {stop:Int} (hs:stop≤S):∀(k:Nat) (x:Ms),MsB r1.t x→r1.t.Length≤plF r1.t x→plF r1.t x≤stop→
  ((stopN r1.t r1.st r2.slF k (shX r1.t n x)).all (r2.fitB (stop+n))=(stopN r1.t r1.st r1.slF k x).all (r1.fitB stop))∧
  ((stopN r1.t r1.st r1.slF k x).all (r1.fitB stop)=true→stopN r1.t r1.st r2.slF k (shX r1.t n x)=(stopN r1.t r1.st r1.slF k x).map (shX r1.t n))
 |0,x,_,_,_=>⟨rfl,fun _=>rfl⟩
 | k +1,x,hx,hl,hp=>by
  have hw:=h.w hx (by omega);obtain⟨e1,e2⟩:=h.next hx hl (by omega) (-4);have ha:Ask r1.t r1.st x (-4) (r1.slF x):=⟨h.ok.b,hx,by omega,slF_bd h.ok x⟩;rw[stopN,stopN];have ep:(shX r1.t n x).P=x.P:=rfl;rw[ep]
  split
  ·exact⟨rfl,fun _=>rfl⟩
  ·rw [e1,e2]
   split
   ·rename_i hq;have hy:=step_ok ha (by omega) hq;have hly:=Int.le_trans hl (plF_after ha);have hf:=h.fit hy hly hs;generalize afterX r1.t r1.st x (-4) (r1.slF x)=y at*
    rw[List.all_cons,List.all_cons,hf,List.map_cons]
    cases hfy:r1.fitB stop y with
    |false=>exact⟨rfl,fun e=>by simp at e⟩
    | true=>
     have hpy:plF r1.t y≤stop:=by
      unfold Rn.fitB at hfy;simp only[Bool.and_eq_true,decide_eq_true_eq]at hfy;exact hfy.1
     obtain⟨i1,i2⟩:=Sim.stop hs k y hy hly hpy;exact⟨by rw[i1],fun e=>by rw[i2 (by simpa using e)]⟩
   ·exact⟨rfl,fun _=>rfl⟩
theorem Sim.safe {x:Ms} (hx:MsB r1.t x) (hl:r1.t.Length≤plF r1.t x) {stop:Int} (hs:stop≤S):r2.safeB (stop+n) (shX r1.t n x)=r1.safeB stop x:=by
 have hf:=h.fit hx hl hs;unfold Rn.safeB;rw[hf]
 cases hfx:r1.fitB stop x with
 |false=>rfl
 | true=>
  have hpx:plF r1.t x≤stop:=by
   unfold Rn.fitB at hfx;simp only[Bool.and_eq_true,decide_eq_true_eq]at hfx;exact hfx.1
  obtain⟨i1,i2⟩:=h.stop hs 36000 x hx hl hpx;unfold Rn.stpL;rw[h.t,h.st,i1,Bool.true_and,Bool.true_and]
  cases ha:(stopN r1.t r1.st r1.slF 36000 x).all (r1.fitB stop)with
  |false=>rfl
  | true=>
   rw[i2 ha];have e:((((stopN r1.t r1.st r1.slF 36000 x).map (shX r1.t n)).getLastD (shX r1.t n x)).P)=((stopN r1.t r1.st r1.slF 36000 x).getLastD x).P:=by
    rw[List.getLastD_eq_getLast?,List.getLastD_eq_getLast?,List.getLast?_map]
    cases (stopN r1.t r1.st r1.slF 36000 x).getLast?<;>rfl
   rw[e]
theorem Sim.choose {x:Ms} (hx:MsB r1.t x) (hl:r1.t.Length≤plF r1.t x) {stop:Int} (hs:stop≤S) (hp:plF r1.t x≤stop):r2.chF (stop+n) (shX r1.t n x)=r1.chF stop x:=by
 have hw:=h.w hx (by omega);have e:∀i∈List.range 9,r2.okI (stop+n) (shX r1.t n x) i=r1.okI stop x i:=by
  intro i hi;have hi9:=List.mem_range.1 hi;obtain⟨e1,e2⟩:=h.next hx hl (by omega) (4-i);have ha:Ask r1.t r1.st x (4-i) (r1.slF x):=⟨h.ok.b,hx,by omega,slF_bd h.ok x⟩;unfold Rn.okI;rw[h.t,h.st,e1,e2]
  by_cases hq:nextP r1.t r1.st x (4-i) (r1.slF x)≤25000*r1.t.Mass
  ·rw[h.safe (step_ok ha (by omega) hq) (Int.le_trans hl (plF_after ha)) hs]
  ·rw[decide_eq_false hq];rfl
 unfold Rn.chF;have gen:∀(L:List Nat),(∀i∈L,r2.okI (stop+n) (shX r1.t n x) i=r1.okI stop x i)→L.find? (r2.okI (stop+n) (shX r1.t n x))=L.find? (r1.okI stop x):=by
  intro L
  induction L with
  |nil=>intro _;rfl
  |cons a L ih=>
   intro hL;rw[List.find?_cons,List.find?_cons,hL a (by simp),ih (fun i hi=>hL i (by simp[hi]))]
 exact gen _ e
theorem Sim.arr {x:Ms} (hx:MsB r1.t x) (stop:Int):r2.arrB (stop+n) (shX r1.t n x)=r1.arrB stop x:=by
 have hm:=h.ok.b.ma;unfold Rn.arrB;rw[h.t,plF_sh hm.1 hx.w.1 h.nn];have e:stop+n-(plF r1.t x+n)=stop-plF r1.t x:=by omega
 rw[e]
 rfl
theorem Sim.add {x:Ms} (hx:MsB r1.t x) (hl:r1.t.Length≤plF r1.t x) (hp:plF r1.t x≤S) (o:Lg) (d:Int):o.add r2 (shX r1.t n x) d=o.add r1 x d:=by
 have hs:=(h.see x hx hl hp).1;unfold Lg.add;rw[h.t,h.st,hs]
 rfl
end
end Go.Mo
end
section
namespace Go.Mo
open Go.AM Go.Cur Go.Proofs
open Go.Tram (Plan validB wayB begTo mvAt movB mLst begTo_bd way_mov way_len len_bd movB_iff)
theorem lbI_app (a b:List Int) (x:Int):lbI (a++b) x=lbI a x+lbI b x:=by unfold lbI;rw[List.countP_append]
theorem lbI_ge {l:List Int} {x:Int} (h:∀y∈l,x≤y):lbI l x=0:=by
 unfold lbI;rw[List.countP_eq_zero];intro y hy;have:=h y hy;simp;omega
theorem BegOk.x0 {p:Plan} {l:List Mv} {t:Tn} {st:Int} {sp:List Int} (h:BegOk p l t st sp):MsB t (runOf p l t st sp).x0∧(runOf p l t st sp).x0.W≤90000000000000000∧plF t (runOf p l t st sp).x0=at0 sp 0:=by
 have hm:=(okT_b h.ok h.s0 h.s1).ma;have hlen:1≤t.Length:=(runOf_ok h).len.1;have hn:=h.n;have hb0:=h.bd (i:=0) (by omega);have e0:((0:Nat):Int)=0:=rfl;rw[e0]at hb0;have e:(runOf p l t st sp).x0=⟨0,10*t.Mass*at0 sp 0⟩:=rfl;have hq1:=Int.mul_le_mul (a:=10*t.Mass) (b:=at0 sp 0) (c:=800000) (d:=62000000000) (by omega) hb0.2 (by omega) (by omega);have hq0:=Int.mul_nonneg (a:=10*t.Mass) (b:=at0 sp 0) (by omega) (by omega);rw[e];refine⟨⟨⟨Int.le_refl _,by show 0≤25000*t.Mass;omega⟩,⟨hq0,by show 10*t.Mass*at0 sp 0≤_;omega⟩⟩,by show 10*t.Mass*at0 sp 0≤_;omega,?_⟩;unfold plF;simp only;rw[Int.mul_tdiv_cancel_left _ (by omega)]
theorem BegOk.stops {p:Plan} {l:List Mv} {t:Tn} {st:Int} {sp:List Int} (h:BegOk p l t st sp):(∀s∈sp.drop 1,at0 sp 0≤s∧s≤at0 sp (sp.length-1:Nat))∧(sp.drop 1).Pairwise (· ≤ ·):=by
 have hn:=h.n;constructor
 ·intro s hs;obtain⟨i,hi⟩:=List.getElem?_of_mem hs;rw[List.getElem?_drop]at hi;have hil:=(List.getElem?_eq_some_iff.1 hi).1;have:=h.mono (1+i) 0 (by omega) hil;have h2:=h.mono (sp.length-1) (1+i) (by omega) (by omega);rw[at0_of hi]at this h2;exact⟨this,h2⟩
 ·rw[List.pairwise_iff_getElem];intro i j hi hj hij;simp only[List.length_drop]at hi hj;have h1:=h.mono (1+j) (1+i) (by omega) (by omega);have gi:=at0_nat (l:=sp) (k:=1+i) (by omega);have gj:=at0_nat (l:=sp) (k:=1+j) (by omega);rw[List.getElem?_eq_getElem (by omega)]at gi gj;simp only[Option.some.injEq]at gi gj;simp only[List.getElem_drop,gi,gj];exact h1
end Go.Mo
end
section
namespace Go.Mo
open Go.AM Go.Cur Go.Proofs
open Go.Tram (Plan Cover validB wayB begTo mvAt movB mLst begTo_bd way_mov way_len len_bd movB_iff cvTo cvStep cvF cvT cvTo_succ)
def Rn.safeR (r:Rn) (stop:Int):Nat→Ms→Bool
 |0,x=>r.fitB stop x&&decide (x.P=0)
 |k+1,x=>r.fitB stop x&&(decide (x.P=0)||(decide (nextP r.t r.st x (-4) (r.slF x)≤25000*r.t.Mass)&&r.safeR stop k (afterX r.t r.st x (-4) (r.slF x))))
theorem safeR_eq (r:Rn) (stop:Int):∀(k:Nat) (x:Ms),r.safeR stop k x=(r.fitB stop x&&((stopN r.t r.st r.slF k x).all (r.fitB stop)&&decide (((stopN r.t r.st r.slF k x).getLastD x).P=0)))
 |0,x=>by simp[Rn.safeR,stopN]
 | k+1,x=>by
  rw[Rn.safeR,stopN]
  by_cases hp:x.P=0
  ·rw[if_pos hp];simp[hp]
  ·rw[if_neg hp,decide_eq_false hp,Bool.false_or]
   by_cases hq:nextP r.t r.st x (-4) (r.slF x)≤25000*r.t.Mass
   ·rw[if_pos hq,decide_eq_true hq,Bool.true_and,safeR_eq r stop k]
    congr 1
    rw[List.all_cons,Bool.and_assoc]
    congr 2
    congr 2
    cases stopN r.t r.st r.slF k (afterX r.t r.st x (-4) (r.slF x))<;>rfl
   ·rw[if_neg hq,decide_eq_false hq,Bool.false_and];simp[hp]
theorem safeR_safe (r:Rn) (stop:Int) (x:Ms):r.safeR stop 36000 x=r.safeB stop x:=safeR_eq r stop 36000 x
def Rn.legR (r:Rn) (stop:Int) (add:Lg→Ms→Int→Lg):Nat→Ms→Lg→Option (Lg×Ms)
 |0,x,o=>if 0<x.P∨plF r.t x<stop-1000 then none else some ({o with At:=plF r.t x},x)
 | f+1,x,o=>if 0<x.P∨plF r.t x<stop-1000 then
   if 10000000000000000<x.W then none else match r.chF stop x with
    |none=>none
    |some i=>r.legR stop add f (afterX r.t r.st x (4-i) (r.slF x)) (add o x (4-i))
  else some ({o with At:=plF r.t x},x)
def Rn.legsR (r:Rn) (add:Lg→Ms→Int→Lg):List Int→Ms→Option (List Lg×Ms)
 |[],x=>some ([],x)
 |s::q,x=>match r.legR s add 36000 x lg0 with
  |none=>none
  |some (o,y)=>(r.legsR add q y).map fun z=>(o::z.1,z.2)
theorem legR_up {r:Rn} (h:RnOk r) {stop:Int} {add:Lg→Ms→Int→Lg}:∀(f:Nat) (x:Ms) (o:Lg) (q:Lg×Ms),MsB r.t x→x.W≤90000000000000000→plF r.t x≤stop→r.legR stop add f x o=some q→
  MsB r.t q.2∧x.W≤q.2.W∧q.2.W≤90000000000000000∧plF r.t q.2≤stop∧plF r.t x≤plF r.t q.2:=by
 intro f
 induction f with
 |zero=>
  intro x o q hx hw hp hl;rw[Rn.legR]at hl
  split at hl
  ·cases hl
  ·simp only[Option.some.injEq]at hl;subst hl;exact⟨hx,Int.le_refl _,hw,hp,Int.le_refl _⟩
 | succ f ih=>
  intro x o q hx hw hp hl;rw[Rn.legR]at hl
  split at hl
  ·split at hl
   ·cases hl
   ·rename_i hW
    cases hc:r.chF stop x with
    |none=>rw[hc]at hl;cases hl
    | some i=>
     rw[hc]at hl;simp only at hl;obtain⟨hi9,hax,hsf⟩:=chF_ok h hx hw hc;have ha:Ask r.t r.st x (4-i) (r.slF x):=⟨h.b,hx,by omega,slF_bd h x⟩;have hn:=next_bd ha;have e:(afterX r.t r.st x (4-i) (r.slF x)).W=x.W+nextP r.t r.st x (4-i) (r.slF x):=rfl;have hpy:plF r.t (afterX r.t r.st x (4-i) (r.slF x))≤stop:=by
      unfold Rn.safeB Rn.fitB at hsf;simp only[Bool.and_eq_true,decide_eq_true_eq]at hsf;exact hsf.1.1
     obtain⟨k1,k2,k3,k4,k5⟩:=ih _ _ q hax (by rw[e];omega) hpy hl;have hpa:=plF_after ha;exact⟨k1,by rw[e]at k2;omega,k3,k4,by omega⟩
  ·simp only[Option.some.injEq]at hl;subst hl;exact⟨hx,Int.le_refl _,hw,hp,Int.le_refl _⟩
theorem legR_N {r:Rn} (h:RnOk r) {stop:Int} {add:Lg→Ms→Int→Lg} (hadd:∀o x d,(add o x d).Mi=IntKind.i64.wrap (o.Mi+100)):∀(f:Nat) (x:Ms) (o o':Lg) (q:Lg×Ms),MsB r.t x→x.W≤90000000000000000→plF r.t x≤stop→o'.Mi=o.Mi→r.legR stop add f x o=some q→q.2.W≤10000000000000000→
  (r.legN stop f x o').2.2=true∧(r.legN stop f x o').2.1=q.2∧(r.legN stop f x o').1.Mi=q.1.Mi:=by
 intro f
 induction f with
 | zero=>
  intro x o o' q hx hw hp ho hl hq;rw[Rn.legR]at hl
  split at hl
  ·cases hl
  ·rename_i hn;simp only[Option.some.injEq]at hl;subst hl;have hp0:=hx.p.1;have hat:r.arrB stop x=true:=by unfold Rn.arrB;simp only[Bool.and_eq_true,decide_eq_true_eq,inr_iff];omega
   rw[legN_arr hat];exact⟨rfl,rfl,ho⟩
 | succ f ih=>
  intro x o o' q hx hw hp ho hl hq;have hl0:=hl;rw[Rn.legR]at hl;have hp0:=hx.p.1
  split at hl
  ·rename_i hc0
   split at hl
   ·cases hl
   ·rename_i hW;have hat:¬r.arrB stop x=true:=by unfold Rn.arrB;simp only[Bool.and_eq_true,decide_eq_true_eq,inr_iff];omega
    rw[Rn.legN,if_neg hat]
    cases hc:r.chF stop x with
    |none=>rw[hc]at hl;cases hl
    | some i=>
     rw[hc]at hl;simp only at hl ⊢;obtain⟨hi9,hax,hsf⟩:=chF_ok h hx hw hc;have ha:Ask r.t r.st x (4-i) (r.slF x):=⟨h.b,hx,by omega,slF_bd h x⟩;have hn:=next_bd ha;have e:(afterX r.t r.st x (4-i) (r.slF x)).W=x.W+nextP r.t r.st x (4-i) (r.slF x):=rfl;have hpy:plF r.t (afterX r.t r.st x (4-i) (r.slF x))≤stop:=by
      unfold Rn.safeB Rn.fitB at hsf;simp only[Bool.and_eq_true,decide_eq_true_eq]at hsf;exact hsf.1.1
     have hup:=(legR_up h f _ _ q hax (by rw[e];omega) hpy hl).2.1;rw[if_neg (by omega)];exact ih _ _ _ q hax (by rw[e];omega) hpy (by rw[hadd];unfold Lg.add;simp only;rw[ho]) hl hq
  ·rename_i hn;simp only[Option.some.injEq]at hl;subst hl;have hat:r.arrB stop x=true:=by unfold Rn.arrB;simp only[Bool.and_eq_true,decide_eq_true_eq,inr_iff];omega
   rw[legN_arr hat];exact⟨rfl,rfl,ho⟩
theorem legsR_up {r:Rn} (h:RnOk r) {add:Lg→Ms→Int→Lg}:∀(q:List Int) (x:Ms) (z:List Lg×Ms),MsB r.t x→x.W≤90000000000000000→(∀s∈q,plF r.t x≤s)→q.Pairwise (· ≤ ·)→r.legsR add q x=some z→x.W≤z.2.W
 |[],x,z,_,_,_,_,hl=>by simp[Rn.legsR]at hl;subst hl;exact Int.le_refl _
 | s::q,x,z,hx,hw,hp,ho,hl=>by
  rw[Rn.legsR]at hl
  cases hc:r.legR s add 36000 x lg0 with
  |none=>rw[hc]at hl;cases hl
  | some y=>
   rw[hc]at hl;simp only at hl;obtain⟨k1,k2,k3,k4,k5⟩:=legR_up h 36000 x lg0 y hx hw (hp s (by simp)) hc;rw[List.pairwise_cons]at ho
   cases hr:r.legsR add q y.2 with
   |none=>rw[hr]at hl;cases hl
   |some w=>
    rw[hr]at hl;simp only[Option.map_some,Option.some.injEq]at hl;subst hl;have:=legsR_up h q y.2 w k1 k3 (fun s' hs'=>Int.le_trans k4 (ho.1 s' hs')) ho.2 hr;simp only;omega
theorem legsR_N {r:Rn} (h:RnOk r) {add:Lg→Ms→Int→Lg} (hadd:∀o x d,(add o x d).Mi=IntKind.i64.wrap (o.Mi+100)):∀(q:List Int) (x:Ms) (z:List Lg×Ms),MsB r.t x→x.W≤90000000000000000→(∀s∈q,plF r.t x≤s)→q.Pairwise (· ≤ ·)→r.legsR add q x=some z→z.2.W≤10000000000000000→
  ∃L,r.legsN q x=some L∧L.map (·.Mi)=z.1.map (·.Mi)
 |[],x,z,_,_,_,_,hl,_=>by simp[Rn.legsR]at hl;subst hl;exact⟨[],rfl,rfl⟩
 | s::q,x,z,hx,hw,hp,ho,hl,hz=>by
  have hxz:=legsR_up h (s::q) x z hx hw hp ho hl;rw[Rn.legsR]at hl
  cases hc:r.legR s add 36000 x lg0 with
  |none=>rw[hc]at hl;cases hl
  | some y=>
   rw[hc]at hl;simp only at hl;obtain⟨k1,k2,k3,k4,k5⟩:=legR_up h 36000 x lg0 y hx hw (hp s (by simp)) hc;rw[List.pairwise_cons]at ho
   cases hr:r.legsR add q y.2 with
   |none=>rw[hr]at hl;cases hl
   |some w=>
    rw[hr]at hl;simp only[Option.map_some,Option.some.injEq]at hl;subst hl;have hpq:=fun s' hs'=>Int.le_trans k4 (ho.1 s' hs');have hyw:=legsR_up h q y.2 w k1 k3 hpq ho.2 hr;simp only at hz hxz;obtain⟨n1,n2,n3⟩:=legR_N h hadd 36000 x lg0 lg0 y hx hw (hp s (by simp)) rfl hc (by omega);obtain⟨L,hL,hm⟩:=legsR_N h hadd q y.2 w k1 k3 hpq ho.2 hr hz;refine⟨(r.legN s 36000 x lg0).1::L,?_,by rw[List.map_cons,List.map_cons,n3,hm]⟩;rw[Rn.legsN,n1,n2,hL,if_neg (by simp;omega)]
    rfl
end Go.Mo
end
section
namespace Go.Mo
open Go.AM Go.Cur Go.Proofs
open Go.Tram (Plan Cover validB wayB begTo mvAt movB mLst begTo_bd way_mov way_len len_bd movB_iff cvTo cvStep cvF cvT cvTo_succ)
theorem flatMap_eq {α β:Type} {f g:α→List β}:∀{l:List α},(∀x∈l,f x=g x)→l.flatMap f=l.flatMap g
 |[],_=>rfl
 |a::l,h=>by rw[List.flatMap_cons,List.flatMap_cons,h a (by simp),flatMap_eq fun x hx=>h x (by simp[hx])]
theorem lbI_spec:∀{l:List Int} (v:Int),l.Pairwise (· ≤ ·)→(∀i:Nat,i<lbI l v→at0 l i<v)∧(∀i:Nat,lbI l v≤i→i<l.length→v≤at0 l i)
 |[],v,_=>⟨fun i h=>by simp[lbI]at h,fun i _ h=>by simp at h⟩
 | a::l,v,hs=>by
  rw[List.pairwise_cons]at hs;have h0:at0 (a::l) (0:Nat)=a:=rfl;have hS:∀i:Nat,at0 (a::l) (i+1:Nat)=at0 l i:=fun i=>by unfold at0;rw[Int.toNat_natCast,Int.toNat_natCast,List.getElem?_cons_succ]
  obtain⟨i1,i2⟩:=lbI_spec (l:=l) v hs.2
  by_cases ha:a<v
  ·have e:lbI (a::l) v=lbI l v+1:=by unfold lbI;rw[List.countP_cons_of_pos (by simpa using ha)]
   rw[e];constructor
   ·intro i hi
    cases i with
    |zero=>rw[h0];exact ha
    |succ i=>rw[hS];exact i1 i (by omega)
   ·intro i hi hl;obtain⟨j,rfl⟩:∃j,i=j+1:=⟨i-1,by omega⟩;rw[hS];exact i2 j (by omega) (by simpa using hl)
  ·have e:lbI (a::l) v=0:=lbI_ge fun y hy=>by
    rcases List.mem_cons.1 hy with rfl|hy
    ·omega
    ·have:=hs.1 y hy;omega
   rw[e];refine⟨fun i hi=>absurd hi (by omega),fun i _ hl=>?_⟩
   cases i with
   |zero=>rw[h0];omega
   |succ i=>
    rw[hS];have hl':i<l.length:=by simpa using hl
    have:=hs.1 _ (List.mem_of_getElem? (at0_nat hl'));omega
structure WayOk (p:Plan) (l:List Mv):Prop where
 v:validB p=true
 w:wayB p l=true
theorem WayOk.step {p:Plan} {l:List Mv} (h:WayOk p l) {i:Nat} (hi:i<l.length):begTo p l (i+1)=begTo p l i+p.len (mvAt l i).Rail∧1≤p.len (mvAt l i).Rail:=by
 have h2:=movB_iff.1 (way_mov h.w i hi);exact⟨rfl,(len_bd h.v h2.1 h2.2).1⟩
theorem WayOk.mono {p:Plan} {l:List Mv} (h:WayOk p l):∀(d i:Nat),i+d≤l.length→begTo p l i≤begTo p l (i+d):=by
 intro d
 induction d with
 |zero=>intro i _;exact Int.le_refl _
 |succ d ih=>
  intro i hi;have h1:=ih i (by omega);have h2:=h.step (i:=i+d) (by omega);rw[show i+(d+1)=i+d+1 by omega];omega
theorem at0_end (p:Plan) (l:List Mv) {i n:Nat} (hi:i<n):at0 (endTo p l n) i=begTo p l (i+1):=at0_of (by unfold endTo;rw[List.getElem?_map,List.getElem?_range hi];rfl)
theorem at0_slp (p:Plan) (l:List Mv) {i n:Nat} (hi:i<n):at0 (slpTo p l n) i=slpM p (mvAt l i):=at0_of (by unfold slpTo;rw[List.getElem?_map,List.getElem?_range hi];rfl)
def foldLim (p:Plan) (lim:Int) (c:List Cover):Int:=c.foldl (fun a c=>mnI a (p.rail c.Rail).Limit) lim
section
variable {p:Plan} {l:List Mv} {pl L:Int}
def restC (p:Plan) (l:List Mv) (pl L:Int) (i:Nat):List Cover:=(List.range (l.length-i)).flatMap fun j=>cvStep p pl L (begTo p l (i+j)) (mvAt l (i+j))
theorem restC_cons {i:Nat} (hi:i<l.length):restC p l pl L i=cvStep p pl L (begTo p l i) (mvAt l i)++restC p l pl L (i+1):=by
 unfold restC;obtain⟨d,hd⟩:∃d,l.length-i=d+1:=⟨l.length-i-1,by omega⟩;rw[hd,show l.length-(i+1)=d by omega,List.range_succ_eq_map,List.flatMap_cons,List.flatMap_map]
 congr 1
 refine flatMap_eq fun j _=>?_;simp only[Nat.succ_eq_add_one,Function.comp_def];rw[show i+(j+1)=i+1+j by omega]
theorem restC_far (h:WayOk p l) (hL:1≤L) {i:Nat} (hi:i≤l.length) (hp:pl≤begTo p l i):restC p l pl L i=[]:=by
 unfold restC;rw[List.flatMap_eq_nil_iff];intro j hj;have hj':=List.mem_range.1 hj;have:=h.mono j i (by omega);have hs:=h.step (i:=i+j) (by omega);unfold cvStep cvF cvT;rw[if_pos]
 split<;>split<;>omega
theorem restC_lim (h:WayOk p l) (hL:1≤L) (hn:pl≤begTo p l l.length):∀(d i:Nat) (lim:Int),i+d=l.length→pl-L<begTo p l (i+1)→begTo p l i<pl→foldLim p lim (restC p l pl L i)=limL pl lim (((endTo p l l.length).zip (limTo p l l.length)).drop i):=by
 intro d
 induction d with
 |zero=>
  intro i lim hi _ hb;exfalso;rw[show i=l.length by omega]at hb;omega
 | succ d ih=>
  intro i lim hi hr hb;have hil:i<l.length:=by omega
  have hs:=h.step hil;have hzl:((endTo p l l.length).zip (limTo p l l.length)).length=l.length:=by rw[List.length_zip,endTo_len,limTo_len];omega
  have hz:((endTo p l l.length).zip (limTo p l l.length)).drop i=(begTo p l (i+1),(p.rail (mvAt l i).Rail).Limit)::((endTo p l l.length).zip (limTo p l l.length)).drop (i+1):=by
   rw[List.drop_eq_getElem_cons (by omega)]
   congr 1
   rw[List.getElem_zip];simp only[endTo,limTo,List.getElem_map,List.getElem_range]
  rw[restC_cons hil,hz,limL];have hc:∃c:Cover,cvStep p pl L (begTo p l i) (mvAt l i)=[c]∧c.Rail=(mvAt l i).Rail:=by
   unfold cvStep;rw[if_neg (by unfold cvF cvT;split<;>split<;>omega)]
   split
   ·exact⟨_,rfl,rfl⟩
   ·exact⟨_,rfl,rfl⟩
  obtain⟨c,hc,hcr⟩:=hc;rw[hc];unfold foldLim;rw[List.foldl_append,List.foldl_cons,List.foldl_nil,hcr]
  split
  ·rename_i he;rw[restC_far h hL (by omega) he];rfl
  ·rename_i he;have hi1:i+1<l.length:=by
    rcases Nat.lt_or_ge (i+1) l.length with h1|h1
    ·exact h1
    ·rw[show i+1=l.length by omega]at he;omega
   have hs2:=h.step hi1;exact ih (i+1) _ (by omega) (by omega) (by omega)
theorem lim_cov {t:Tn} {st:Int} {sp:List Int} (h:WayOk p l) (hok:RnOk (runOf p l t st sp)) {x:Ms} (hL:t.Length≤plF t x) (hn:plF t x≤begTo p l l.length):foldLim p t.Speed (cvTo p l (plF t x) t.Length l.length)=(runOf p l t st sp).liF x:=by
 have hlen:1≤t.Length:=hok.len.1;unfold Rn.liF;show _=limL (plF t x) t.Speed (((endTo p l l.length).zip (limTo p l l.length)).drop (lbI (endTo p l l.length) (plF t x-t.Length+1)));generalize plF t x=pl at*
 generalize t.Length=L at*
 obtain⟨s1,s2⟩:=lbI_spec (l:=endTo p l l.length) (pl-L+1) hok.so;rw[endTo_len]at s2;have hkl:=lbI_le (endTo p l l.length) (pl-L+1);rw[endTo_len]at hkl;generalize lbI (endTo p l l.length) (pl-L+1)=k at*
 have hk:k<l.length:=by
  rcases Nat.lt_or_ge k l.length with h1|h1
  ·exact h1
  ·have hl1:=(way_len h.w).1;have:=s1 (l.length-1) (by omega);rw[at0_end p l (by omega),show l.length-1+1=l.length by omega]at this;omega
 have hb:begTo p l k<pl:=by
  rcases Nat.eq_zero_or_pos k with h0|h0
  ·rw[h0];show(0:Int)<_;omega
  ·have:=s1 (k-1) (by omega);rw[at0_end p l (by omega),show k-1+1=k by omega]at this;omega
 have hr:pl-L<begTo p l (k+1):=by
  have:=s2 k (Nat.le_refl _) hk;rw[at0_end p l hk]at this;omega
 rw [←restC_lim h hlen hn (l.length-k) k t.Speed (by omega) hr hb];have hrest:∀d i:Nat,i+d=k→restC p l pl L i=restC p l pl L k:=by
  intro d
  induction d with
  |zero=>intro i hi;rw[show i=k by omega]
  | succ d ih=>
   intro i hi;rw[restC_cons (by omega),ih (i+1) (by omega)];have hs:=h.step (i:=i) (by omega);have h1:=s1 i (by omega);rw[at0_end p l (by omega)]at h1;have e:cvStep p pl L (begTo p l i) (mvAt l i)=[]:=by
    unfold cvStep cvF cvT;rw[if_pos]
    split<;>split<;>omega
   rw[e,List.nil_append]
 have e0:cvTo p l pl L l.length=restC p l pl L 0:=by
  unfold cvTo restC;rw[Nat.sub_zero];exact flatMap_eq fun j _=>by rw[Nat.zero_add]
 rw[e0,hrest k 0 (by omega)]
theorem slope_at {t:Tn} {st:Int} {sp:List Int} (h:WayOk p l) {x:Ms} {i:Nat} (hi:i<l.length) (hlo:∀k,k<i→begTo p l (k+1)≤plF t x) (hhi:plF t x<begTo p l (i+1)∨i+1=l.length):(runOf p l t st sp).slF x=slpM p (mvAt l i):=by
 unfold Rn.slF;show at0 (slpTo p l l.length) ((min (lbI (endTo p l l.length) (plF t x+1)) ((slpTo p l l.length).length-1):Nat):Int)=_;rw[slpTo_len];have hlow:∀j:Nat,j<i→∀y,(endTo p l l.length)[j]?=some y→y<plF t x+1:=by
  intro j hj y hy;have:=hlo j hj;unfold endTo at hy;rw[List.getElem?_map,List.getElem?_range (by omega)]at hy;simp only[Option.map_some,Option.some.injEq]at hy;omega
 have key:min (lbI (endTo p l l.length) (plF t x+1)) (l.length-1)=i:=by
  by_cases hx:plF t x<begTo p l (i+1)
  ·have e:lbI (endTo p l l.length) (plF t x+1)=i:=by
    refine lbI_of (by rw[endTo_len];omega) (fun y hy=>?_) (fun y hy=>?_)
    ·obtain⟨j,hj⟩:=List.getElem?_of_mem hy;have hjl:=(List.getElem?_eq_some_iff.1 hj).1;rw[List.length_take]at hjl;rw[List.getElem?_take,if_pos (by omega)]at hj;exact hlow j (by omega) y hj
    ·obtain⟨j,hj⟩:=List.getElem?_of_mem hy;rw[List.getElem?_drop]at hj;have hjl:=(List.getElem?_eq_some_iff.1 hj).1;rw[endTo_len]at hjl;unfold endTo at hj;rw[List.getElem?_map,List.getElem?_range hjl]at hj;simp only[Option.map_some,Option.some.injEq]at hj;have:=h.mono j (i+1) (by omega);rw[show i+1+j=i+j+1 by omega]at this;omega
   rw[e];omega
  ·have hil:=hhi.resolve_left hx;have e:i≤lbI (endTo p l l.length) (plF t x+1):=by
    have h1:lbI (endTo p l l.length) (plF t x+1)=lbI ((endTo p l l.length).take i) (plF t x+1)+lbI ((endTo p l l.length).drop i) (plF t x+1):=by rw[←lbI_app,List.take_append_drop]
    have h2:lbI ((endTo p l l.length).take i) (plF t x+1)=((endTo p l l.length).take i).length:=by
     unfold lbI;rw[List.countP_eq_length];intro y hy;obtain⟨j,hj⟩:=List.getElem?_of_mem hy;have hjl:=(List.getElem?_eq_some_iff.1 hj).1;rw[List.length_take]at hjl;rw[List.getElem?_take,if_pos (by omega)]at hj;simpa using hlow j (by omega) y hj
    rw[List.length_take,endTo_len]at h2;omega
   omega
 rw[key];exact at0_slp p l hi
end
end Go.Mo
end
section
namespace Go.Mo
open Go.AM Go.Cur Go.Proofs
open Go.Tram (Plan Cover validB wayB begTo mvAt movB mLst begTo_bd way_mov way_len len_bd movB_iff cvTo)
theorem c_rforces (t:Tn) (st v d sl:Int) (hb:TnB t st) (v0:0≤v) (v1:v≤25000) (d0:-4≤d) (d1:d≤4) (s0:-120≤sl) (s1:sl≤120):PureCall Tryz.prog 229 [t.av,I v,I d,I sl,I st] (.tup [I (pullF t st v d),I (brakeF t st v d),I (dragF t v),I (hillF t sl)]):=by
 obtain⟨x,h0,hx,x1,x2⟩:=hb.gr;have hm:=hb.ma;have e:t.Grip.getD st.toNat 0=x:=by rw[List.getD_eq_getElem?_getD,hx];rfl
 have ha:=adh_bd hb;have had:adh t st=(x*t.Mass*981).tdiv 100000:=by unfold adh;rw[e]
 have h1:=Int.mul_nonneg (show 0≤x by omega) (show 0≤t.Mass by omega);have h2:=Int.mul_le_mul x2 hm.2 (by omega) (by omega);have w1:IntKind.i64.wrap (x*t.Mass)=x*t.Mass:=wrap_in (by omega) (by omega);have w2:IntKind.i64.wrap (x*t.Mass*981)=x*t.Mass*981:=wrap_in (by omega) (by omega);have w3:IntKind.i64.wrap ((x*t.Mass*981).tdiv 100000)=adh t st:=by rw[←had];exact wrap_in (by omega) (by omega)
 have hr:=rise_bd hb v0 v1;have hd:=drag_bd hb v0 v1;have hre:=hb.re;have hs:=slope_bd hb s0 s1;have hh:=hill_bd hb s0 s1;unfold dragF at hd ⊢;unfold hillF at hh ⊢;have w4:IntKind.i64.wrap (t.Rise*v)=t.Rise*v:=wrap_in (by omega) (by omega);have w5:IntKind.i64.wrap ((t.Rise*v).tdiv 1000)=(t.Rise*v).tdiv 1000:=wrap_in (by omega) (by omega);have w6:IntKind.i64.wrap (t.Resist+(t.Rise*v).tdiv 1000)=t.Resist+(t.Rise*v).tdiv 1000:=wrap_in (by omega) (by omega);have w7:IntKind.i64.wrap (t.Mass*sl)=t.Mass*sl:=wrap_in (by omega) (by omega);have w8:IntKind.i64.wrap (t.Mass*sl*981)=t.Mass*sl*981:=wrap_in (by omega) (by omega);have w9:IntKind.i64.wrap ((t.Mass*sl*981).tdiv 100000)=(t.Mass*sl*981).tdiv 100000:=wrap_in (by omega) (by omega);have hef:=hb.ef;have hbr:=hb.br;have hpo:=hb.po;refine PureCall.of_body Tryz.func229 rfl (by decide) (by simp[Tryz.ntmps229]) ?_;simp only[Tryz.ntmps229,Tryz.results229];refine aS fun K hK=>?_;simp -dsimp;apply hK;clear hK K;refine awp_sd mixed rfl fun K hK=>?_;simp -dsimp [hx,h0,w1,w2,w3];refine hK _ _ _ (by decide+kernel) ?_;clear hK K;refine aS fun K hK=>?_;simp -dsimp;apply hK;clear hK K;refine awp_seq_k fun K1 hK1=>?_;refine aS fun K hK=>?_;simp -dsimp;apply hK;clear hK K;refine awp_cond rfl (fun hc0=>?_) (fun hc0=>?_)
 ·have hd1:¬d≤0:=by have h:=(by simpa using hc0:0<d);omega
  have hm4:=mul4 (x:=t.Effort) (d:=d) (by omega) (by omega) (by omega) d1;have hq:(t.Effort*d).tdiv 4≤200000∧0≤(t.Effort*d).tdiv 4:=by rw[Int.tdiv_eq_ediv_of_nonneg hm4.1];omega
  have y1:IntKind.i64.wrap (t.Effort*d)=t.Effort*d:=wrap_in (by omega) (by omega);have y2:IntKind.i64.wrap ((t.Effort*d).tdiv 4)=(t.Effort*d).tdiv 4:=wrap_in (by omega) (by omega);have y3:IntKind.i64.wrap (1000*t.Power)=1000*t.Power:=wrap_in (by omega) (by omega);have hn2:¬d<0:=by omega
  have hb0:brakeF t st v d=0:=by unfold brakeF;rw[if_pos (by omega)]
  refine aS fun K hK=>?_;simp -dsimp [y1,y2];apply hK;clear hK K;refine aS fun K hK=>?_;simp -dsimp;apply hK;clear hK K;refine awp_cond rfl (fun hc1=>?_) (fun hc1=>?_)
  ·have hv:0<v:=by simpa using hc1
   have hp:=tdiv_bd (a:=1000*t.Power) (b:=v) (B:=2000000000) (by omega) hv (by omega);have y4:IntKind.i64.wrap ((1000*t.Power).tdiv v)=(1000*t.Power).tdiv v:=wrap_in (by omega) (by omega);have hvn:¬v=0:=by omega
   have hpf:pullF t st v d=mnI (mnI ((t.Effort*d).tdiv 4) (adh t st)) ((1000*t.Power).tdiv v):=by unfold pullF;rw[if_neg hd1,if_pos hv]
   unfold mnI at hpf;refine aR fun K hK=>?_;simp -dsimp [y3,y4,hvn];apply hK;clear hK K;simp only[zT,reduceIte,Nat.reduceEqDiff];refine hK1 _ _ ?_;refine awp_prune [1,2,3,5,14,15,16] ?_;simp only[zP,Nat.reduceEqDiff,reduceIte];refine awp_seq_k fun K2 hK2=>?_;refine aS fun K hK=>?_;simp -dsimp;apply hK;clear hK K;refine awp_cond rfl (fun hc2=>?_) (fun hc2=>?_)
   ·exact absurd (by simpa using hc2) hn2
   ·refine awp_skip ?_;simp only[zT,reduceIte,Nat.reduceEqDiff];refine hK2 _ _ ?_;refine awp_prune [1,3,5,15,16] ?_;simp only[zP,Nat.reduceEqDiff,reduceIte];refine awp_sd mixed rfl fun K hK=>?_;simp -dsimp [w4,w5,w6,w7,w8,w9];refine hK _ _ _ (by decide+kernel) ?_;clear hK K;exact awp_ret (by simp[hpf,hb0])
  ·have hv:¬0<v:=by simpa using hc1
   have hpf:pullF t st v d=mnI ((t.Effort*d).tdiv 4) (adh t st):=by unfold pullF;rw[if_neg hd1,if_neg hv]
   unfold mnI at hpf;refine awp_skip ?_;simp only[zT,reduceIte,Nat.reduceEqDiff];refine hK1 _ _ ?_;refine awp_prune [1,2,3,5,14,15,16] ?_;simp only[zP,Nat.reduceEqDiff,reduceIte];refine awp_seq_k fun K3 hK3=>?_;refine aS fun K hK=>?_;simp -dsimp;apply hK;clear hK K;refine awp_cond rfl (fun hc2=>?_) (fun hc2=>?_)
   ·exact absurd (by simpa using hc2) hn2
   ·refine awp_skip ?_;simp only[zT,reduceIte,Nat.reduceEqDiff];refine hK3 _ _ ?_;refine awp_prune [1,3,5,15,16] ?_;simp only[zP,Nat.reduceEqDiff,reduceIte];refine awp_sd mixed rfl fun K hK=>?_;simp -dsimp [w4,w5,w6,w7,w8,w9];refine hK _ _ _ (by decide+kernel) ?_;clear hK K;exact awp_ret (by simp[hpf,hb0])
 ·have hd1:d≤0:=by have h:¬0<d:=(by simpa using hc0);omega
  have hp0:pullF t st v d=0:=by unfold pullF;rw[if_pos hd1]
  refine awp_skip ?_;simp only[zT,reduceIte,Nat.reduceEqDiff];refine hK1 _ _ ?_;refine awp_prune [1,2,3,5,14,15,16] ?_;simp only[zP,Nat.reduceEqDiff,reduceIte];refine awp_seq_k fun K4 hK4=>?_;refine aS fun K hK=>?_;simp -dsimp;apply hK;clear hK K;refine awp_cond rfl (fun hc2=>?_) (fun hc2=>?_)
  ·have hn:d<0:=by simpa using hc2
   have hm4:=mul4 (x:=t.Brake) (d:=-d) (by omega) (by omega) (by omega) (by omega);have hq:(t.Brake* -d).tdiv 4≤200000∧0≤(t.Brake* -d).tdiv 4:=by rw[Int.tdiv_eq_ediv_of_nonneg hm4.1];omega
   have y0:IntKind.i64.wrap (-d)=-d:=wrap_in (by omega) (by omega);have y1:IntKind.i64.wrap (t.Brake* -d)=t.Brake* -d:=wrap_in (by omega) (by omega);have y2:IntKind.i64.wrap ((t.Brake* -d).tdiv 4)=(t.Brake* -d).tdiv 4:=wrap_in (by omega) (by omega);have hbf:brakeF t st v d=mnI ((t.Brake* -d).tdiv 4) (adh t st):=by unfold brakeF;rw[if_neg (by omega)]
   unfold mnI at hbf;refine aR fun K hK=>?_;simp -dsimp [y0,y1,y2];apply hK;clear hK K;simp only[zT,reduceIte,Nat.reduceEqDiff];refine hK4 _ _ ?_;refine awp_prune [1,3,5,15,16] ?_;simp only[zP,Nat.reduceEqDiff,reduceIte];refine awp_sd mixed rfl fun K hK=>?_;simp -dsimp [w4,w5,w6,w7,w8,w9];refine hK _ _ _ (by decide+kernel) ?_;clear hK K;exact awp_ret (by simp[hp0,hbf])
  ·have hn2:¬d<0:=by simpa using hc2
   have hb0:brakeF t st v d=0:=by unfold brakeF;rw[if_pos (by omega)]
   refine awp_skip ?_;simp only[zT,reduceIte,Nat.reduceEqDiff];refine hK4 _ _ ?_;refine awp_prune [1,3,5,15,16] ?_;simp only[zP,Nat.reduceEqDiff,reduceIte];refine awp_sd mixed rfl fun K hK=>?_;simp -dsimp [w4,w5,w6,w7,w8,w9];refine hK _ _ _ (by decide+kernel) ?_;clear hK K;exact awp_ret (by simp[hp0,hb0])
def ledC (t:Tn) (st:Int) (x:Ms) (d sl:Int):List AV:=
 [I (200*pullF t st (spd t x) d*nextP t st x d sl),I (200*brakeF t st (spd t x) d*nextP t st x d sl),I (200*dragF t (spd t x)*nextP t st x d sl),I (200*hillF t sl*nextP t st x d sl),
  I (if stops t st x d sl=true then 0 else 10000*sumF t st x d sl*sumF t st x d sl),I (if stops t st x d sl=true then x.P*x.P else 0)]
theorem c_rStep (t:Tn) (st:Int) (x:Ms) (d sl:Int) (h:Ask t st x d sl):PureCall Tryz.prog 222 [t.av,x.av,I d,I sl,I st] (.tup [(afterX t st x d sl).av, .agg (ledC t st x d sl),Bo (decide (nextP t st x d sl≤25000*t.Mass))]):=by
 have hv:=spd_bd h.b h.x;have h1:=pull_bd (v:=spd t x) h.b hv.1 h.d.1 h.d.2;have h2:=brake_bd (v:=spd t x) h.b h.d.1 h.d.2;have h3:=drag_bd h.b hv.1 hv.2;have h4:=hill_bd h.b h.s.1 h.s.2;have hsm:=sum_bd h;have hnx:=next_bd h;have hm:=h.b.ma;have hp:=h.x.p;have hw:=h.x.w;have hfo:=c_rforces t st (spd t x) d sl h.b hv.1 hv.2 h.d.1 h.d.2 h.s.1 h.s.2;have hsd:sumF t st x d sl=pullF t st (spd t x) d-brakeF t st (spd t x) d-dragF t (spd t x)-hillF t sl:=rfl;have hnd:nextP t st x d sl=if stops t st x d sl=true then 0 else x.P+100*sumF t st x d sl:=rfl;have hst:stops t st x d sl=(decide (x.P+100*sumF t st x d sl<0)||(decide (x.P=0)&&decide (sumF t st x d sl≤0))):=rfl;have hax:afterX t st x d sl=⟨nextP t st x d sl,x.W+nextP t st x d sl⟩:=rfl;rw[hax];unfold ledC;unfold spd at hfo hsd h1 h2 h3 hv ⊢;generalize nextP t st x d sl=q at hnx hnd ⊢;generalize stops t st x d sl=b at hnd hst ⊢;generalize sumF t st x d sl=sm at hsm hsd hnd hst ⊢;generalize pullF t st (x.P.tdiv t.Mass) d=f1 at h1 hfo hsd ⊢;generalize brakeF t st (x.P.tdiv t.Mass) d=f2 at h2 hfo hsd ⊢;generalize dragF t (x.P.tdiv t.Mass)=f3 at h3 hfo hsd ⊢;generalize hillF t sl=f4 at h4 hfo hsd ⊢;have e3:(200*f1*q).natAbs≤40000000*2100000000:=mul_bd' (by omega) (by omega);have e4:(200*f2*q).natAbs≤40000000*2100000000:=mul_bd' (by omega) (by omega);have e5:(200*f3*q).natAbs≤70000000*2100000000:=mul_bd' (by omega) (by omega);have e6:(200*f4*q).natAbs≤20000000*2100000000:=mul_bd' (by omega) (by omega);have e8:(x.P*x.P).natAbs≤2000000000*2000000000:=mul_bd' (by omega) (by omega);have e9:(10000*sm*sm).natAbs≤10000000000*1000000:=mul_bd' (by omega) hsm;have w0:IntKind.i64.wrap 0=0:=rfl;have ws:IntKind.i64.wrap (x.P.tdiv t.Mass)=x.P.tdiv t.Mass:=wrap_in (by omega) (by omega);have w1:IntKind.i64.wrap (f1-f2)=f1-f2:=wrap_in (by omega) (by omega);have w2:IntKind.i64.wrap (f1-f2-f3)=f1-f2-f3:=wrap_in (by omega) (by omega);have w3:IntKind.i64.wrap (f1-f2-f3-f4)=sm:=by rw[hsd];exact wrap_in (by omega) (by omega)
 have w4:IntKind.i64.wrap (100*sm)=100*sm:=wrap_in (by omega) (by omega);have w5:IntKind.i64.wrap (x.P+100*sm)=x.P+100*sm:=wrap_in (by omega) (by omega);have w6:IntKind.i64.wrap (x.P*x.P)=x.P*x.P:=wrap_in (by omega) (by omega);have w7:IntKind.i64.wrap (10000*sm)=10000*sm:=wrap_in (by omega) (by omega);have w8:IntKind.i64.wrap (10000*sm*sm)=10000*sm*sm:=wrap_in (by omega) (by omega);have w9:IntKind.i64.wrap (x.W+q)=x.W+q:=wrap_in (by omega) (by omega);have w10:IntKind.i64.wrap (200*f1)=200*f1:=wrap_in (by omega) (by omega);have w11:IntKind.i64.wrap (200*f2)=200*f2:=wrap_in (by omega) (by omega);have w12:IntKind.i64.wrap (200*f3)=200*f3:=wrap_in (by omega) (by omega);have w13:IntKind.i64.wrap (200*f4)=200*f4:=wrap_in (by omega) (by omega);have w14:IntKind.i64.wrap (200*f1*q)=200*f1*q:=wrap_in (by omega) (by omega);have w15:IntKind.i64.wrap (200*f2*q)=200*f2*q:=wrap_in (by omega) (by omega);have w16:IntKind.i64.wrap (200*f3*q)=200*f3*q:=wrap_in (by omega) (by omega);have w17:IntKind.i64.wrap (200*f4*q)=200*f4*q:=wrap_in (by omega) (by omega);have w27:IntKind.i64.wrap (25000*t.Mass)=25000*t.Mass:=wrap_in (by omega) (by omega);have z3:¬t.Mass=0:=by omega
 clear hp hw e3 e4 e5 e6 e8 e9 h1 h2 h3 h4 hv;refine PureCall.of_body Tryz.func222 rfl (by decide) (by simp[Tryz.ntmps222]) ?_;simp only[Tryz.ntmps222,Tryz.results222];refine aS fun K hK=>?_;simp -dsimp;apply hK;clear hK K;refine awp_sd mixed rfl fun K hK=>?_;simp -dsimp [z3,ws];refine callK_intro _ (hfo) (by simp) ?_;simp -dsimp [z3,ws];refine hK _ _ _ (by decide+kernel) ?_;clear hK K;refine aS fun K hK=>?_;simp -dsimp [w1,w2,w3];apply hK;clear hK K;refine aS fun K hK=>?_;simp -dsimp [w4,w5];apply hK;clear hK K;refine aS fun K hK=>?_;simp -dsimp;apply hK;clear hK K;refine awp_seq_k fun K1 hK1=>?_;refine aS fun K hK=>?_;simp -dsimp;apply hK;clear hK K;refine awp_cond rfl (fun hc0=>?_) (fun hc0=>?_)
 ·have hbt:b=true:=by rw[hst];simpa using hc0
  rw[hbt,if_pos rfl]at hnd;subst hnd;simp only[Int.mul_zero,Int.zero_add,Int.add_zero,Int.zero_mul]at w9;refine aS fun K hK=>?_;simp -dsimp;apply hK;clear hK K;refine aR fun K hK=>?_;simp -dsimp [w6];apply hK;clear hK K;simp only[zT,reduceIte,Nat.reduceEqDiff];refine hK1 _ _ ?_;refine awp_prune [5,6,10,11,18,19] ?_;simp only[zP,Nat.reduceEqDiff,reduceIte];refine awp_sd mixed rfl fun K hK=>?_;simp -dsimp [w9,w27];refine hK _ _ _ (by decide+kernel) ?_;clear hK K;exact awp_ret (by simp[hbt,w0,w9])
 ·have hbt:b=false:=by rw[hst];simpa using hc0
  rw[hbt,if_neg (by decide)]at hnd;rw[←hnd]at*
  refine aR fun K hK=>?_;simp -dsimp [w7,w8,w10,w11,w12,w13,w14,w15,w16,w17];apply hK;clear hK K;simp only[zT,reduceIte,Nat.reduceEqDiff];refine hK1 _ _ ?_;refine awp_prune [5,6,10,11,18,19] ?_;simp only[zP,Nat.reduceEqDiff,reduceIte];refine awp_sd mixed rfl fun K hK=>?_;simp -dsimp [w9,w27];refine hK _ _ _ (by decide+kernel) ?_;clear hK K;exact awp_ret (by simp[hbt,w0,w9])
theorem c_rPlc3 (t:Tn) (st:Int) (x:Ms) (hb:TnB t st) (hx:MsB t x):PureCall Tryz.prog 218 [t.av,x.av] (I (plF t x)):=by
 have hm:=hb.ma;have hp:=plF_bd hb hx;have hw:=hx.w;unfold plF at hp ⊢;have w1:IntKind.i64.wrap (10*t.Mass)=10*t.Mass:=wrap_in (by omega) (by omega);have w2:IntKind.i64.wrap (x.W.tdiv (10*t.Mass))=x.W.tdiv (10*t.Mass):=wrap_in (by omega) (by omega);have z:¬10*t.Mass=0:=by omega
 refine PureCall.of_body Tryz.func218 rfl (by decide) (by simp[Tryz.ntmps218]) ?_;simp only[Tryz.ntmps218,Tryz.results218];refine aS fun K hK=>?_;simp -dsimp;apply hK;clear hK K;refine aS fun K hK=>?_;simp -dsimp [w1,w2,z];apply hK;clear hK K;exact awp_ret (by simp)
theorem c_rPowers (t:Tn) (st:Int) (x:Ms) (d sl:Int) (h:Ask t st x d sl):PureCall Tryz.prog 221 [t.av,x.av,I d,I sl,I st] (.tup [I (tookF t st x d sl),I (gaveF t st x d sl)]):=by
 have hv:=spd_bd h.b h.x;have h1:=pull_bd (v:=spd t x) h.b hv.1 h.d.1 h.d.2;have h2:=brake_bd (v:=spd t x) h.b h.d.1 h.d.2;have hnx:=next_bd h;have hm:=h.b.ma;have hp:=h.x.p;have hbk:=h.b.ba;have hfo:=c_rforces t st (spd t x) d sl h.b hv.1 hv.2 h.d.1 h.d.2 h.s.1 h.s.2;have hstp:=c_rStep t st x d sl h;have hax:afterX t st x d sl=⟨nextP t st x d sl,x.W+nextP t st x d sl⟩:=rfl;rw[hax]at hstp;unfold tookF gaveF;obtain⟨l1,l2,l3,l4,l5,l6,hLD⟩:∃l1 l2 l3 l4 l5 l6,ledC t st x d sl=[I l1,I l2,I l3,I l4,I l5,I l6]:=⟨_,_,_,_,_,_,rfl⟩;rw[hLD]at hstp;unfold spd at hfo h1 h2 hv ⊢;generalize nextP t st x d sl=q at hnx hstp ⊢;generalize pullF t st (x.P.tdiv t.Mass) d=f1 at h1 hfo ⊢;generalize brakeF t st (x.P.tdiv t.Mass) d=f2 at h2 hfo ⊢;have e1:(f1*q).natAbs≤200000*2100000000:=mul_bd' (by omega) (by omega);have e2:(f2*q).natAbs≤200000*2100000000:=mul_bd' (by omega) (by omega);have e7:(f2*q*t.Back).natAbs≤200000*2100000000*100:=mul_bd' e2 (by omega);have p1:=Int.mul_nonneg h1.1 hnx.1;have p2:=Int.mul_nonneg (Int.mul_nonneg h2.1 hnx.1) hbk.1;have t1:=tdiv_bd (a:=f1*q+1000*t.Mass-1) (b:=1000*t.Mass) (B:=f1*q+1000*t.Mass-1) (by omega) (by omega) (Int.le_refl _);have t2:=tdiv_bd (a:=f2*q*t.Back) (b:=100000*t.Mass) (B:=f2*q*t.Back) (by omega) (by omega) (Int.le_refl _);have ws:IntKind.i64.wrap (x.P.tdiv t.Mass)=x.P.tdiv t.Mass:=wrap_in (by omega) (by omega);have w18:IntKind.i64.wrap (f1*q)=f1*q:=wrap_in (by omega) (by omega);have w19:IntKind.i64.wrap (1000*t.Mass)=1000*t.Mass:=wrap_in (by omega) (by omega);have w20:IntKind.i64.wrap (f1*q+1000*t.Mass)=f1*q+1000*t.Mass:=wrap_in (by omega) (by omega);have w21:IntKind.i64.wrap (f1*q+1000*t.Mass-1)=f1*q+1000*t.Mass-1:=wrap_in (by omega) (by omega);have w22:IntKind.i64.wrap ((f1*q+1000*t.Mass-1).tdiv (1000*t.Mass))=(f1*q+1000*t.Mass-1).tdiv (1000*t.Mass):=wrap_in (by omega) (by omega);have w23:IntKind.i64.wrap (f2*q)=f2*q:=wrap_in (by omega) (by omega);have w24:IntKind.i64.wrap (f2*q*t.Back)=f2*q*t.Back:=wrap_in (by omega) (by omega);have w25:IntKind.i64.wrap (100000*t.Mass)=100000*t.Mass:=wrap_in (by omega) (by omega);have w26:IntKind.i64.wrap ((f2*q*t.Back).tdiv (100000*t.Mass))=(f2*q*t.Back).tdiv (100000*t.Mass):=wrap_in (by omega) (by omega);have z1:¬1000*t.Mass=0:=by omega
 have z2:¬100000*t.Mass=0:=by omega
 have z3:¬t.Mass=0:=by omega
 clear hp e1 e2 e7 t1 t2 h1 h2 hv;refine PureCall.of_body Tryz.func221 rfl (by decide) (by simp[Tryz.ntmps221]) ?_;simp only[Tryz.ntmps221,Tryz.results221];refine aS fun K hK=>?_;simp -dsimp;apply hK;clear hK K;refine awp_sd mixed rfl fun K hK=>?_;simp -dsimp [z3,ws];refine callK_intro _ (hfo) (by simp) ?_;simp -dsimp [z3,ws];refine hK _ _ _ (by decide+kernel) ?_;clear hK K;refine aS fun K hK=>?_;simp -dsimp;refine callK_intro _ (hstp) (by simp) ?_;simp -dsimp;apply hK;clear hK K;refine awp_sd mixed rfl fun K hK=>?_;simp -dsimp [w18,w19,w20,w21,w22,w23,w24,w25,w26,z1,z2,z3];refine hK _ _ _ (by decide+kernel) ?_;clear hK K;exact awp_ret (by simp)
end Go.Mo
end
section
namespace Go.Tram
open Go.AM Go.Proofs
theorem c_rCov (p:Plan) (l:List Move) (front long:Int) (hv:validB p=true) (hw:wayB p l=true) (h1:1≤long) (h2:long≤front) (h3:front≤begTo p l l.length):
  PureCall Tryz.prog 233 [p.av,mLst l,I front,I long] (.lst 3 ((cvTo p l front long l.length).map Cover.cells)):=by
 have hl:=way_len hw;have hbl:=begTo_bd hv hw l.length (Nat.le_refl _);refine PureCall.of_body Tryz.func233 rfl (by decide) (by simp[Tryz.ntmps233]) ?_;simp only[Tryz.ntmps233,Tryz.results233];refine aS fun K hK=>?_;simp -dsimp;apply hK;clear hK K;refine aS fun K hK=>?_;simp -dsimp;apply hK;clear hK K;refine aS fun K hK=>?_;simp -dsimp;apply hK;clear hK K;refine awp_seq_k fun K1 hK1=>?_;refine aS fun K hK=>?_;simp -dsimp;apply hK;clear hK K;refine awp_block ?_;refine awp_prune [1,2,3,4,9,10,11] ?_;simp only[zP,Nat.reduceEqDiff,reduceIte];refine awp_loop_l [1,2,3,4] (α:=Nat) (fun i=>[(11,I i),(10,I (begTo p l i)),(9, .row 1 0 (cvTo p l front long i).length)]) (fun i=>[some (.els 2 [p.cells]),some (.els 3 ((cvTo p l front long i).map Cover.cells))]) (fun i=>i≤l.length) (fun i=>l.length-i) 0 ?_ ?_ ?_
 ·simp
 ·exact(sub_nil 9 3 (by simp)).trans (sub_rb [some 0,some 1] rfl (by simp[cvTo,begTo]) (by simp[cvTo]))
 rintro i i1;have hcl:=cvTo_len p l front long i;have hcs:=cvTo_succ p l front long i;simp only[zP,Nat.reduceEqDiff,reduceIte];refine awp_seq_k fun K2 hK2=>?_;refine aS fun K hK=>?_;simp -dsimp;apply hK;clear hK K;refine awp_cond rfl (fun hc0=>?_) (fun hc0=>?_)
 ·skip
  try simp at hc0
  obtain⟨m,hgm⟩:∃m,l[i]?=some m:=⟨_,List.getElem?_eq_getElem hc0⟩;have wi:=zW i (by omega);have hma:mvAt l i=m:=by simp[mvAt,hgm]
  have hmv:=way_mov hw i hc0;have hb0:=begTo_bd hv hw i (by omega);have hb1:=begTo_bd hv hw (i+1) (by omega);have hbs:begTo p l (i+1)=begTo p l i+p.len m.Rail:=by simp only[begTo];rw[hma]
  rw[hma]at hmv hcs;have hmr:=movB_iff.1 hmv;have hlb:=len_bd hv hmr.1 hmr.2;have ro:=rail_ok hv hmr.1 hmr.2;have hrl:=c_rLength p m.Rail hmr.1 hmr.2 ro;generalize hB:begTo p l i=B at hb0 hbs hcs ⊢;have ws:IntKind.i64.wrap (B+p.len m.Rail)=B+p.len m.Rail:=wrap_in (by omega) (by omega);have wa:IntKind.i64.wrap (front-long)=front-long:=wrap_in (by omega) (by omega);have hF:IntKind.i64.wrap (maxI (front-long) B-B)=cvF front long B:=by unfold maxI cvF;rw[wrap_in (by split<;>omega) (by split<;>omega)];split<;>split<;>omega
  have hT:IntKind.i64.wrap (minI front (B+p.len m.Rail)-B)=cvT front B (p.len m.Rail):=by unfold minI cvT;rw[wrap_in (by split<;>omega) (by split<;>omega)];split<;>split<;>omega
  simp only[maxI,minI]at hF hT;have hFb:0≤cvF front long B∧cvF front long B≤100000000000:=by unfold cvF;split<;>omega
  have hTb:-100000000000≤cvT front B (p.len m.Rail)∧cvT front B (p.len m.Rail)≤100000000000:=by unfold cvT;split<;>omega
  generalize hO:cvTo p l front long i=O at hcl hcs ⊢;have f1:Fits (O.length+1) 25:=fits_of (by omega) (by omega);have hot:=cov_take O;unfold cvStep at hcs;generalize cvF front long B=F at hF hFb hcs;generalize cvT front B (p.len m.Rail)=TT at hT hTb hcs;have wd:IntKind.i64.wrap (p.len m.Rail-TT)=p.len m.Rail-TT:=wrap_in (by omega) (by omega);have we:IntKind.i64.wrap (p.len m.Rail-F)=p.len m.Rail-F:=wrap_in (by omega) (by omega);refine awp_skip ?_;simp only[zT,reduceIte,Nat.reduceEqDiff];refine hK2 _ _ ?_;refine awp_prune [1,2,3,4,9,10,11] ?_;simp only[zP,Nat.reduceEqDiff,reduceIte];refine awp_seq_k fun K3 hK3=>?_;refine awp_block ?_;refine awp_sd mixed rfl fun K hK=>?_;simp -dsimp [hgm];refine callK_intro _ (hrl) (by simp) ?_;simp -dsimp [hgm];refine hK _ _ _ (by decide+kernel) ?_;clear hK K;refine aS fun K hK=>?_;simp -dsimp [wa,ws,hF,hT];apply hK;clear hK K;refine aS fun K hK=>?_;simp -dsimp [ws];apply hK;clear hK K;refine awp_seq_k fun K4 hK4=>?_;refine aS fun K hK=>?_;simp -dsimp;apply hK;clear hK K;refine awp_cond rfl (fun hc1=>?_) (fun hc1=>?_)
  ·skip
   try simp at hc1
   rw[if_pos hc1,List.append_nil]at hcs;refine awp_exit ?_;simp only[zT,reduceIte,Nat.reduceEqDiff];refine hK3 _ _ ?_;refine awp_prune [1,2,3,4,9,10,11] ?_;simp only[zP,Nat.reduceEqDiff,reduceIte];refine aR fun K hK=>?_;simp -dsimp [wi];apply hK;clear hK K;simp only[zT,reduceIte,Nat.reduceEqDiff];exact⟨i+1,by omega,by omega,sub_rb [some 0,some 1] rfl (by simp[hcs,hbs,hB]) (by simp[hcs])⟩
  ·skip
   try simp at hc1
   rw[if_neg (by omega)]at hcs;refine awp_skip ?_;simp only[zT,reduceIte,Nat.reduceEqDiff];refine hK4 _ _ ?_;refine awp_prune [1,2,3,4,9,10,11,12,13,14] ?_;simp only[zP,Nat.reduceEqDiff,reduceIte];refine awp_seq_k fun K5 hK5=>?_;refine aS fun K hK=>?_;simp -dsimp [hgm];apply hK;clear hK K;refine awp_cond rfl (fun hc2=>?_) (fun hc2=>?_)
   ·skip
    try simp at hc2
    rw[hc2,if_pos rfl]at hcs;refine aR fun K hK=>?_;simp -dsimp [wd,we];apply hK;clear hK K;simp only[zT,reduceIte,Nat.reduceEqDiff];refine hK5 _ _ ?_;refine awp_prune [1,2,3,4,9,10,11,13,14] ?_;simp only[zP,Nat.reduceEqDiff,reduceIte];refine aR fun K hK=>?_;simp -dsimp [f1,hgm];apply hK;clear hK K;simp only[zT,reduceIte,Nat.reduceEqDiff];refine hK3 _ _ ?_;refine awp_prune [1,2,3,4,9,10,11] ?_;simp only[zP,Nat.reduceEqDiff,reduceIte];refine aR fun K hK=>?_;simp -dsimp [wi];apply hK;clear hK K;simp only[zT,reduceIte,Nat.reduceEqDiff];exact⟨i+1,by omega,by omega,sub_rb [some 0,some 2] rfl (by simp[hcs,hbs,hB]) (by simp[hcs,hot])⟩
   ·skip
    try simp at hc2
    rw[hc2,if_neg (by simp)]at hcs;refine awp_skip ?_;simp only[zT,reduceIte,Nat.reduceEqDiff];refine hK5 _ _ ?_;refine awp_prune [1,2,3,4,9,10,11,13,14] ?_;simp only[zP,Nat.reduceEqDiff,reduceIte];refine aR fun K hK=>?_;simp -dsimp [f1,hgm];apply hK;clear hK K;simp only[zT,reduceIte,Nat.reduceEqDiff];refine hK3 _ _ ?_;refine awp_prune [1,2,3,4,9,10,11] ?_;simp only[zP,Nat.reduceEqDiff,reduceIte];refine aR fun K hK=>?_;simp -dsimp [wi];apply hK;clear hK K;simp only[zT,reduceIte,Nat.reduceEqDiff];exact⟨i+1,by omega,by omega,sub_rb [some 0,some 2] rfl (by simp[hcs,hbs,hB]) (by simp[hcs,hot])⟩
 ·skip
  try simp at hc0
  have hie:i=l.length:=by omega
  subst hie;refine awp_exit ?_;simp only[zT,reduceIte,Nat.reduceEqDiff];refine hK1 _ _ ?_;refine awp_prune [9] ?_;simp only[zP,Nat.reduceEqDiff,reduceIte];refine aS fun K hK=>?_;simp -dsimp;apply hK;clear hK K;exact awp_ret (by simp[cov_take])
end Go.Tram
end
section
namespace Go.Mo
open Go.AM Go.Cur Go.Proofs
open Go.Tram (Plan Cover validB wayB begTo mvAt movB mLst begTo_bd way_mov way_len len_bd movB_iff cvTo c_rCov c_rLength rail_ok)
@[simp] def rrC (p:Plan) (l:List Mv) (t:Tn) (st stop:Int):List AV:=p.cells++(mLst l::(t.cells++[I st,I stop]))
section
variable {p:Plan} {l:List Mv} {t:Tn} {st:Int} {sp:List Int}
theorem c_rslope (h:WayOk p l) (stop:Int) (x:Ms) (hb:TnB t st) (hx:MsB t x):PureCall Tryz.prog 220 [.agg (rrC p l t st stop),I (plF t x)] (I ((runOf p l t st sp).slF x)):=by
 have hl:=way_len h.w;have hpl:=plF_bd hb hx;have hs:=fun i hi hlo hhi=>slope_at (t:=t) (st:=st) (sp:=sp) h (x:=x) (i:=i) hi hlo hhi;generalize (runOf p l t st sp).slF x=S at hs ⊢;generalize plF t x=pl at hs hpl ⊢;have wl:IntKind.i64.wrap ((l.length:Int)-1)=(l.length:Int)-1:=wrap_in (by omega) (by omega);refine PureCall.of_body Tryz.func220 rfl (by decide) (by simp[Tryz.ntmps220]) ?_;simp only[Tryz.ntmps220,Tryz.results220];refine aS fun K hK=>?_;simp -dsimp;apply hK;clear hK K;refine aS fun K hK=>?_;simp -dsimp;apply hK;clear hK K;refine awp_seq_k fun K1 hK1=>?_;refine aS fun K hK=>?_;simp -dsimp;apply hK;clear hK K;refine awp_block ?_;refine awp_prune [1,2,5,6] ?_;simp only[zP,Nat.reduceEqDiff,reduceIte];refine awp_loop_l [1,2] (α:=Nat) (fun k=>[(6,I k),(5,I (begTo p l k))]) (fun _=>[some (.els 15 [rrC p l t st stop])]) (fun k=>k≤l.length∧(k=l.length→False)∧∀j,j<k→begTo p l (j+1)≤pl) (fun k=>l.length-k) 0 ?_ ?_ ?_
 ·exact⟨Nat.zero_le _,by omega,fun j hj=>absurd hj (by omega)⟩
 ·exact sub_rb [some 0] rfl (by simp[begTo]) (by simp)
 rintro k ⟨k1,k2,k3⟩;simp only[zP,Nat.reduceEqDiff,reduceIte];refine awp_seq_k fun K2 hK2=>?_;refine aS fun K hK=>?_;simp -dsimp;apply hK;clear hK K;refine awp_cond rfl (fun hc0=>?_) (fun hc0=>?_)
 ·have hkl:k<l.length:=by simpa using hc0
  have wk:=zW k (by omega);have gm:l[k]?=some (mvAt l k):=by unfold mvAt;rw[List.getElem?_eq_getElem hkl];rfl
  have hmb:=movB_iff.1 (way_mov h.w k hkl);have hln:=c_rLength p (mvAt l k).Rail hmb.1 hmb.2 (rail_ok h.v hmb.1 hmb.2);obtain⟨gr,r1,r2,r3,r4⟩:=rail_bd h.v hmb.1 hmb.2;have hb1:=begTo_bd h.v h.w (k+1) (by omega);have hbs:begTo p l (k+1)=begTo p l k+p.len (mvAt l k).Rail:=rfl;have wb:IntKind.i64.wrap (begTo p l k+p.len (mvAt l k).Rail)=begTo p l (k+1):=by rw[←hbs];exact wrap_in (by omega) (by omega)
  refine awp_skip ?_;simp only[zT,reduceIte,Nat.reduceEqDiff];refine hK2 _ _ ?_;refine awp_prune [1,2,5,6] ?_;simp only[zP,Nat.reduceEqDiff,reduceIte];refine awp_seq_k fun K3 hK3=>?_;refine awp_block ?_;refine awp_sd mixed rfl fun K hK=>?_;simp -dsimp [gm,wb];refine callK_intro _ (hln) (by simp) ?_;simp -dsimp [gm,wb];refine hK _ _ _ (by decide+kernel) ?_;clear hK K;refine aS fun K hK=>?_;simp -dsimp [wl];apply hK;clear hK K;refine awp_cond rfl (fun hc1=>?_) (fun hc1=>?_)
  ·have hhi:pl<begTo p l (k+1)∨k+1=l.length:=by
    rcases(by simpa using hc1:pl<begTo p l (k+1)∨(k:Int)=(l.length:Int)-1)with h1|h1
    ·exact Or.inl h1
    ·exact Or.inr (by omega)
   have hS:=hs k hkl k3 hhi;refine awp_seq_k fun K4 hK4=>?_;refine aS fun K hK=>?_;simp -dsimp [gm];apply hK;clear hK K;refine awp_cond rfl (fun hc2=>?_) (fun hc2=>?_)
   ·have hbk:(mvAt l k).Back=true:=by simpa using hc2
    have hsl:slpM p (mvAt l k)=-(p.rail (mvAt l k).Rail).Slope:=by unfold slpM;rw[if_pos hbk]
    have wn:IntKind.i64.wrap (-(p.rail (mvAt l k).Rail).Slope)=-(p.rail (mvAt l k).Rail).Slope:=wrap_in (by omega) (by omega);refine awp_sd mixed rfl fun K hK=>?_;simp -dsimp [gm,gr,hmb.1,wn];refine hK _ _ _ (by decide+kernel) ?_;clear hK K;exact awp_ret (by simp[hS,hsl])
   ·have hbk:¬(mvAt l k).Back=true:=by simpa using hc2
    have hsl:slpM p (mvAt l k)=(p.rail (mvAt l k).Rail).Slope:=by unfold slpM;rw[if_neg hbk]
    refine awp_skip ?_;simp only[zT,reduceIte,Nat.reduceEqDiff];refine hK4 _ _ ?_;refine awp_prune [2,6] ?_;simp only[zP,Nat.reduceEqDiff,reduceIte];refine awp_sd mixed rfl fun K hK=>?_;simp -dsimp [gm,gr,hmb.1];refine hK _ _ _ (by decide+kernel) ?_;clear hK K;exact awp_ret (by simp[hS,hsl])
  ·have hn:¬pl<begTo p l (k+1)∧¬(k:Int)=(l.length:Int)-1:=by simpa using hc1
   refine awp_skip ?_;simp only[zT,reduceIte,Nat.reduceEqDiff];refine hK3 _ _ ?_;refine awp_prune [1,2,5,6] ?_;simp only[zP,Nat.reduceEqDiff,reduceIte];refine aR fun K hK=>?_;simp -dsimp [wk];apply hK;clear hK K;simp only[zT,reduceIte,Nat.reduceEqDiff];exact⟨k+1,⟨by omega,fun e=>hn.2 (by omega),fun j hj=>by rcases Nat.lt_or_ge j k with h1|h1;exact k3 j h1;rw[show j=k by omega];omega⟩,by omega,sub_rb [some 0] rfl (by simp) (by simp)⟩
 ·exact absurd (show k=l.length by have h:¬k<l.length:=(by simpa using hc0);omega) (fun e=>k2 e)
theorem cv_rail (h:WayOk p l) (pl L:Int):∀c∈cvTo p l pl L l.length,0≤c.Rail∧c.Rail<p.Rails.length:=by
 intro c hc;unfold cvTo at hc;obtain⟨i,hi,hc⟩:=List.mem_flatMap.1 hc;have hmb:=movB_iff.1 (way_mov h.w i (List.mem_range.1 hi));unfold Go.Tram.cvStep at hc
 split at hc
 ·cases hc
 ·split at hc
  ·simp only[List.mem_singleton]at hc;subst hc;exact hmb
  ·simp only[List.mem_singleton]at hc;subst hc;exact hmb
theorem c_rLimit (h:WayOk p l) (pl:Int) (h1:1≤t.Length) (h2:t.Length≤pl) (h3:pl≤begTo p l l.length):PureCall Tryz.prog 231 [p.av,mLst l,t.av,I pl] (I (foldLim p t.Speed (cvTo p l pl t.Length l.length))):=by
 have hl:=way_len h.w;have hcv:=c_rCov p l pl t.Length h.v h.w h1 h2 h3;have hra:=cv_rail h pl t.Length;have hcl:=Go.Tram.cvTo_len p l pl t.Length l.length;generalize cvTo p l pl t.Length l.length=C at hcv hra hcl ⊢;refine PureCall.of_body Tryz.func231 rfl (by decide) (by simp[Tryz.ntmps231]) ?_;simp only[Tryz.ntmps231,Tryz.results231];refine aS fun K hK=>?_;simp -dsimp;apply hK;clear hK K;refine aS fun K hK=>?_;simp -dsimp;refine callK_intro _ (hcv) (by simp) ?_;simp -dsimp;apply hK;clear hK K;refine aS fun K hK=>?_;simp -dsimp;apply hK;clear hK K;refine awp_seq_k fun K1 hK1=>?_;refine aS fun K hK=>?_;simp -dsimp;apply hK;clear hK K;refine awp_block ?_;refine awp_prune [4,9,10,11] ?_;simp only[zP,Nat.reduceEqDiff,reduceIte];refine awp_loop_l [4,9] (α:=Nat) (fun k=>[(11,I k),(10,I (foldLim p t.Speed (C.take k)))]) (fun _=>[some (.els 2 [p.cells]),some (.els 10 [t.cells])]) (fun k=>k≤C.length) (fun k=>C.length-k) 0 ?_ ?_ ?_
 ·exact Nat.zero_le _
 ·exact sub_rb [some 0,some 1] rfl (by simp[foldLim]) (by simp)
 rintro k k1;simp only[zP,Nat.reduceEqDiff,reduceIte];refine awp_seq_k fun K2 hK2=>?_;refine aS fun K hK=>?_;simp -dsimp;apply hK;clear hK K;refine awp_cond rfl (fun hc0=>?_) (fun hc0=>?_)
 ·have hkl:k<C.length:=by simpa using hc0
  have wk:=zW k (by omega);obtain⟨c,gc⟩:∃c,C[k]?=some c:=⟨_,List.getElem?_eq_getElem hkl⟩;have hcr:=hra c (List.mem_of_getElem? gc);obtain⟨gr,r1,r2,r3,r4⟩:=rail_bd h.v hcr.1 hcr.2;have hst:foldLim p t.Speed (C.take (k+1))=if (p.rail c.Rail).Limit<foldLim p t.Speed (C.take k)then(p.rail c.Rail).Limit else foldLim p t.Speed (C.take k):=by
   unfold foldLim;rw[List.take_add_one,gc,List.foldl_append];rfl
  refine awp_skip ?_;simp only[zT,reduceIte,Nat.reduceEqDiff];refine hK2 _ _ ?_;refine awp_prune [4,9,10,11] ?_;simp only[zP,Nat.reduceEqDiff,reduceIte];refine awp_seq_k fun K3 hK3=>?_;refine awp_block ?_;refine awp_draw mixed rfl fun K hK=>?_;simp -dsimp [gc,gr,hcr.1];refine hK _ _ _ (by decide+kernel) ?_;clear hK K;simp only[zT,reduceIte,Nat.reduceEqDiff];refine hK3 _ _ ?_;refine awp_prune [4,9,10,11] ?_;simp only[zP,Nat.reduceEqDiff,reduceIte];refine aR fun K hK=>?_;simp -dsimp [wk];apply hK;clear hK K;simp only[zT,reduceIte,Nat.reduceEqDiff];exact⟨k+1,by omega,by omega,sub_rb [some 0,some 1] rfl (by simp[hst]) (by simp)⟩
 ·have hkl:¬k<C.length:=by simpa using hc0
  rw[List.take_of_length_le (by omega)];refine awp_exit ?_;simp only[zT,reduceIte,Nat.reduceEqDiff];refine hK1 _ _ ?_;refine awp_prune [10] ?_;simp only[zP,Nat.reduceEqDiff,reduceIte];refine aS fun K hK=>?_;simp -dsimp;apply hK;clear hK K;exact awp_ret (by simp)
structure InR (p:Plan) (l:List Mv) (t:Tn) (st:Int) (stop:Int):Prop where
 y:WayOk p l
 b:TnB t st
 len:1≤t.Length
 st:stop≤begTo p l l.length
theorem c_rsafe {stop:Int} (hr:InR p l t st stop) (hok:RnOk (runOf p l t st sp)) (x:Ms) (hx:MsB t x) (hw:x.W≤100000000000000000) (hL:t.Length≤plF t x):PureCall Tryz.prog 228 [.agg (rrC p l t st stop),x.av] (Bo ((runOf p l t st sp).safeB stop x)):=by
 rw[←safeR_safe];have hm:=hr.b.ma;have hSl:=fun y hy=>c_rslope (sp:=sp) hr.y stop y hr.b hy;have hsb:=fun y=>slF_bd hok y;have hrt:(runOf p l t st sp).t=t:=rfl;have hrs:(runOf p l t st sp).st=st:=rfl;have hfit:∀y:Ms,MsB t y→t.Length≤plF t y→plF t y≤stop→PureCall Tryz.prog 231 [p.av,mLst l,t.av,I (plF t y)] (I ((runOf p l t st sp).liF y)):=by
  intro y hy h1 h2;have:=c_rLimit hr.y (plF t y) hr.len h1 (by have:=hr.st;omega)
  rwa [lim_cov hr.y hok h1 (by have:=hr.st;omega)]at this
 generalize hR:runOf p l t st sp=r at*
 refine PureCall.of_body Tryz.func228 rfl (by decide) (by simp[Tryz.ntmps228]) ?_;simp only[Tryz.ntmps228,Tryz.results228];refine aS fun K hK=>?_;simp -dsimp;apply hK;clear hK K;refine aS fun K hK=>?_;simp -dsimp;apply hK;clear hK K;refine awp_block ?_;refine awp_prune [2,3,5] ?_;simp only[zP,Nat.reduceEqDiff,reduceIte];refine awp_loop_l [2,3] (α:=Nat×Ms) (fun q=>[(5,I q.1)]) (fun q=>[some (.els 15 [rrC p l t st stop]),some (.els 2 [q.2.cells])]) (fun q=>q.1≤36000∧MsB t q.2∧q.2.W≤100000000000000000+3000000000*(q.1:Int)∧t.Length≤plF t q.2∧r.safeR stop (36000-q.1) q.2=r.safeR stop 36000 x) (fun q=>36001-q.1) (0,x) ?_ ?_ ?_
 ·exact⟨Nat.zero_le _,hx,by simpa using hw,hL,rfl⟩
 ·exact sub_rb [some 0,some 1] rfl (by simp) (by simp)
 rintro⟨k,y⟩ ⟨i1,i2,i3,i4,i5⟩;simp only at i1 i2 i3 i4 i5 ⊢;have hpl:=c_rPlc3 t st y hr.b i2;have hplb:=plF_bd hr.b i2;have hfy:=hfit y i2 i4;have hv:=spd_bd hr.b i2;have hfB:r.fitB stop y=(decide (plF t y≤stop)&&decide (spd t y≤r.liF y)):=by unfold Rn.fitB;rw[hrt]
 have hSy:=hSl y i2;have hsy:=hsb y;have ha:Ask t st y (-4) (r.slF y):=⟨hr.b,i2,by omega,hsy⟩;have hstp:=c_rStep t st y (-4) (r.slF y) ha;have hnx:=next_bd ha;have hpa:=plF_after ha;unfold spd at hfB hv;have wv:IntKind.i64.wrap (y.P.tdiv t.Mass)=y.P.tdiv t.Mass:=wrap_in (by omega) (by omega);have zm:¬t.Mass=0:=by omega
 simp only[zP,Nat.reduceEqDiff,reduceIte];refine awp_seq_k fun K1 hK1=>?_;refine awp_block ?_;refine awp_seq_k fun K2 hK2=>?_;refine awp_sd mixed rfl fun K hK=>?_;simp -dsimp [wv,zm];refine callK_intro _ (hpl) (by simp) ?_;simp -dsimp [wv,zm];refine callK_may _ (fun hm=>(by simp at hm;exact hpl)) (by simp) ?_;simp -dsimp [wv,zm];refine callK_may _ (fun hm=>(by simp at hm;exact hfy hm)) (by simp) ?_;simp -dsimp [wv,zm];refine hK _ _ _ (by decide+kernel) ?_;clear hK K;refine awp_cond rfl (fun hc0=>?_) (fun hc0=>?_)
 ·have hff:r.fitB stop y=false:=by
   rw[hfB]
   rcases(by simpa using hc0:stop<plF t y∨r.liF y<y.P.tdiv t.Mass)with h1|h1
   ·rw[decide_eq_false (by omega),Bool.false_and]
   ·rw[decide_eq_false (p:=y.P.tdiv t.Mass≤r.liF y) (by omega),Bool.and_false]
  have hres:r.safeR stop 36000 x=false:=by rw[←i5];cases 36000-k<;>rw[Rn.safeR,hff,Bool.false_and]
  refine aS fun K hK=>?_;simp -dsimp;apply hK;clear hK K;exact awp_ret (by simp[hres])
 ·have hnn:=(by simpa using hc0:¬stop<plF t y∧¬r.liF y<y.P.tdiv t.Mass);have hff:r.fitB stop y=true:=by rw[hfB,decide_eq_true (by omega),decide_eq_true (by omega)];rfl
  refine awp_skip ?_;simp only[zT,reduceIte,Nat.reduceEqDiff];refine hK2 _ _ ?_;refine awp_prune [2,3,5] ?_;simp only[zP,Nat.reduceEqDiff,reduceIte];refine awp_seq_k fun K3 hK3=>?_;refine aS fun K hK=>?_;simp -dsimp;apply hK;clear hK K;refine awp_cond rfl (fun hc1=>?_) (fun hc1=>?_)
  ·have hp0:y.P=0:=by simpa using hc1
   have hres:r.safeR stop 36000 x=true:=by rw[←i5];cases 36000-k<;>rw[Rn.safeR,hff,decide_eq_true hp0]<;>rfl
   refine aS fun K hK=>?_;simp -dsimp;apply hK;clear hK K;exact awp_ret (by simp[hres])
  ·have hp0:¬y.P=0:=by simpa using hc1
   refine awp_skip ?_;simp only[zT,reduceIte,Nat.reduceEqDiff];refine hK3 _ _ ?_;refine awp_prune [2,3,5] ?_;simp only[zP,Nat.reduceEqDiff,reduceIte];refine awp_seq_k fun K4 hK4=>?_;refine aS fun K hK=>?_;simp -dsimp;apply hK;clear hK K;refine awp_cond rfl (fun hc2=>?_) (fun hc2=>?_)
   ·have hk:k=36000:=by have h:=(by simpa using hc2:(k:Int)=36000);omega
    have hres:r.safeR stop 36000 x=false:=by rw[←i5,hk];show r.safeR stop 0 y=false;rw[Rn.safeR,decide_eq_false hp0,Bool.and_false]
    refine aS fun K hK=>?_;simp -dsimp;apply hK;clear hK K;exact awp_ret (by simp[hres])
   ·have hk:k<36000:=by have h:¬(k:Int)=36000:=(by simpa using hc2);omega
    have wk:=zW k (by omega);have i6:(r.fitB stop y&&(decide (y.P=0)||(decide (nextP r.t r.st y (-4) (r.slF y)≤25000*r.t.Mass)&&r.safeR stop (36000-(k+1)) (afterX r.t r.st y (-4) (r.slF y)))))=r.safeR stop 36000 x:=by
     rw[←i5,show 36000-k=36000-(k+1)+1 by omega,Rn.safeR]
    rw[hff,decide_eq_false hp0,Bool.true_and,Bool.false_or,hrt,hrs]at i6;refine awp_skip ?_;simp only[zT,reduceIte,Nat.reduceEqDiff];refine hK4 _ _ ?_;refine awp_prune [2,3,5] ?_;simp only[zP,Nat.reduceEqDiff,reduceIte];refine aS fun K hK=>?_;simp -dsimp;apply hK;clear hK K;refine awp_sd mixed rfl fun K hK=>?_;simp -dsimp;refine callK_intro _ (hpl) (by simp) ?_;simp -dsimp;refine callK_intro _ (hSy) (by simp) ?_;simp -dsimp;refine callK_intro _ (hstp) (by simp) ?_;simp -dsimp;refine hK _ _ _ (by decide+kernel) ?_;clear hK K;refine aS fun K hK=>?_;simp -dsimp;apply hK;clear hK K;refine awp_cond rfl (fun hc3=>?_) (fun hc3=>?_)
    ·have hq:¬nextP t st y (-4) (r.slF y)≤25000*t.Mass:=by simpa using hc3
     rw[decide_eq_false hq,Bool.false_and]at i6;refine aS fun K hK=>?_;simp -dsimp;apply hK;clear hK K;exact awp_ret (by simp[←i6])
    ·have hq:nextP t st y (-4) (r.slF y)≤25000*t.Mass:=by simpa using hc3
     rw[decide_eq_true hq,Bool.true_and]at i6;refine awp_skip ?_;simp only[zT,reduceIte,Nat.reduceEqDiff];refine hK1 _ _ ?_;refine awp_prune [2,3,5] ?_;simp only[zP,Nat.reduceEqDiff,reduceIte];refine aR fun K hK=>?_;simp -dsimp [wk];apply hK;clear hK K;simp only[zT,reduceIte,Nat.reduceEqDiff];exact⟨(k+1,afterX t st y (-4) (r.slF y)),⟨by simp only;omega,⟨⟨hnx.1,hq⟩,⟨by show 0≤y.W+_;have:=i2.w.1;omega,by show y.W+_≤_;omega⟩⟩,by show y.W+_≤_;simp only;omega,by simp only;omega,i6⟩,by simp only;omega,sub_rb [some 0,some 1] rfl (by simp) (by simp)⟩
def rdrAV (r:Rn) (stop:Int) (x:Ms):AV:=match r.chF stop x with
 |some i=> .tup [I (4-(i:Int)),Bo true]
 |none=> .tup [I 0,Bo false]
theorem c_rdrive {stop:Int} (hr:InR p l t st stop) (hok:RnOk (runOf p l t st sp)) (x:Ms) (hx:MsB t x) (hw:x.W≤90000000000000000) (hL:t.Length≤plF t x):PureCall Tryz.prog 219 [.agg (rrC p l t st stop),x.av] (rdrAV (runOf p l t st sp) stop x):=by
 have hm:=hr.b.ma;have hpl:=c_rPlc3 t st x hr.b hx;have hSl:=c_rslope (sp:=sp) hr.y stop x hr.b hx;have hsb:=slF_bd hok x;have hrt:(runOf p l t st sp).t=t:=rfl;have hrs:(runOf p l t st sp).st=st:=rfl;have hsf:=fun y hy hw' hL'=>c_rsafe (sp:=sp) hr hok y hy hw' hL';unfold rdrAV;generalize hR:runOf p l t st sp=r at*
 refine PureCall.of_body Tryz.func219 rfl (by decide) (by simp[Tryz.ntmps219]) ?_;simp only[Tryz.ntmps219,Tryz.results219];refine aS fun K hK=>?_;simp -dsimp;apply hK;clear hK K;refine awp_seq_k fun K1 hK1=>?_;refine aS fun K hK=>?_;simp -dsimp;apply hK;clear hK K;refine awp_block ?_;refine awp_prune [2,3,6] ?_;simp only[zP,Nat.reduceEqDiff,reduceIte];refine awp_loop_l [2,3] (α:=Nat) (fun i=>[(6,I (4-(i:Int)))]) (fun _=>[some (.els 15 [rrC p l t st stop]),some (.els 2 [x.cells])]) (fun i=>i≤9∧∀j,j<i→r.okI stop x j=false) (fun i=>9-i) 0 ?_ ?_ ?_
 ·exact⟨Nat.zero_le _,fun j hj=>absurd hj (by omega)⟩
 ·exact sub_rb [some 0,some 1] rfl (by simp) (by simp)
 rintro i ⟨i1,i2⟩;simp only[zP,Nat.reduceEqDiff,reduceIte];refine awp_seq_k fun K2 hK2=>?_;refine aS fun K hK=>?_;simp -dsimp;apply hK;clear hK K;refine awp_cond rfl (fun hc0=>?_) (fun hc0=>?_)
 ·have hi:i<9:=by have h:=(by simpa using hc0:(-4:Int)≤4-(i:Int));omega
  have ha:Ask t st x (4-(i:Int)) (r.slF x):=⟨hr.b,hx,by omega,hsb⟩;have hstp:=c_rStep t st x (4-(i:Int)) (r.slF x) ha;unfold ledC at hstp;have hnx:=next_bd ha;have hpa:=plF_after ha;have wi:IntKind.i64.wrap (4-(i:Int)-1)=4-((i+1:Nat):Int):=by rw[wrap_in (by omega) (by omega)];omega
  have hoI:r.okI stop x i=(decide (nextP t st x (4-(i:Int)) (r.slF x)≤25000*t.Mass)&&r.safeB stop (afterX t st x (4-(i:Int)) (r.slF x))):=by unfold Rn.okI;rw[hrt,hrs]
  have hsy:=fun hq:nextP t st x (4-(i:Int)) (r.slF x)≤25000*t.Mass=>hsf (afterX t st x (4-(i:Int)) (r.slF x)) ⟨⟨hnx.1,hq⟩,⟨by show 0≤x.W+_;have:=hx.w.1;omega,by show x.W+_≤_;omega⟩⟩ (by show x.W+_≤_;omega) (by omega);refine awp_skip ?_;simp only[zT,reduceIte,Nat.reduceEqDiff];refine hK2 _ _ ?_;refine awp_prune [2,3,6] ?_;simp only[zP,Nat.reduceEqDiff,reduceIte];refine awp_seq_k fun K3 hK3=>?_;refine awp_block ?_;refine awp_sd mixed rfl fun K hK=>?_;simp -dsimp;refine callK_intro _ (hpl) (by simp) ?_;simp -dsimp;refine callK_intro _ (hSl) (by simp) ?_;simp -dsimp;refine callK_intro _ (hstp) (by simp) ?_;simp -dsimp;refine hK _ _ _ (by decide+kernel) ?_;clear hK K;refine aS fun K hK=>?_;simp -dsimp;refine callK_may _ (fun hm=>(hsy (by simpa using hm))) (by simp) ?_;simp -dsimp;apply hK;clear hK K;refine awp_cond rfl (fun hc1=>?_) (fun hc1=>?_)
  ·have hoi:r.okI stop x i=true:=by rw[hoI];simpa using hc1
   have hch:r.chF stop x=some i:=range_find_some hi i2 hoi;refine aS fun K hK=>?_;simp -dsimp;apply hK;clear hK K;exact awp_ret (by simp[hch])
  ·have hoi:r.okI stop x i=false:=by rw[hoI];simpa using hc1
   refine awp_skip ?_;simp only[zT,reduceIte,Nat.reduceEqDiff];refine hK3 _ _ ?_;refine awp_prune [2,3,6] ?_;simp only[zP,Nat.reduceEqDiff,reduceIte];refine aR fun K hK=>?_;simp -dsimp [wi];apply hK;clear hK K;simp only[zT,reduceIte,Nat.reduceEqDiff];exact⟨i+1,⟨by omega,fun j hj=>by rcases Nat.lt_or_ge j i with h1|h1;exact i2 j h1;rw[show j=i by omega];exact hoi⟩,by omega,sub_rb [some 0,some 1] rfl (by simp) (by simp)⟩
 ·have hi:i=9:=by have h:¬(-4:Int)≤4-(i:Int):=(by simpa using hc0);omega
  subst hi;have hch:r.chF stop x=none:=range_find_none i2;refine awp_exit ?_;simp only[zT,reduceIte,Nat.reduceEqDiff];refine hK1 _ _ ?_;refine awp_prune [] ?_;simp only[zP,Nat.reduceEqDiff,reduceIte];refine aS fun K hK=>?_;simp -dsimp;apply hK;clear hK K;exact awp_ret (by simp[hch])
end
end Go.Mo
end
section
namespace Go.Mo
open Go.AM Go.Cur Go.Proofs
open Go.Tram (Plan validB wayB begTo mvAt movB mLst begTo_bd way_mov way_len len_bd movB_iff c_Valid c_rWay c_rWayLength valid_parts)
def upB (sp:List Int):Bool:=(List.range (sp.length-1)).all fun k=> !decide (at0 sp (k+1:Nat)≤at0 sp k)
def stpB (p:Plan) (l:List Mv) (t:Tn) (st:Int) (sp:List Int):Bool:=validB p&&(wayB p l&&(okT t&&(inr st 0 (t.Grip.length-1)&&(inr sp.length 2 100&&(!decide (at0 sp 0<t.Length)&&(upB sp&&decide (at0 sp (sp.length-1)≤begTo p l l.length)))))))
theorem stpB_ok {p:Plan} {l:List Mv} {t:Tn} {st:Int} {sp:List Int} (h:stpB p l t st sp=true):BegOk p l t st sp:=by
 unfold stpB upB at h;simp only[Bool.and_eq_true,inr_iff,Bool.not_eq_true',decide_eq_true_eq,decide_eq_false_iff_not,List.all_eq_true,List.mem_range]at h;obtain⟨h1,h2,h3,h4,h5,h6,h7,h8⟩:=h;exact⟨h3,by omega,by omega,h1,h2,by omega,by omega,h8,fun i hi=>by have:=h7 i (by omega);omega⟩
theorem c_rStops (p:Plan) (l:List Mv) (t:Tn) (st:Int) (sp:List Int) (hl:l.length≤100000) (hg:t.Grip.length≤maxLen) (hs:sp.length≤maxLen):PureCall Tryz.prog 195 [p.av,mLst l,t.av,I st,iL sp] (Bo (stpB p l t st sp)):=by
 have hml:maxLen=9223372036854775807:=rfl;rw[hml]at hg hs;have hva:=c_Valid p;have hwy:=fun h=>c_rWay p l h hl;have htr:=c_rTrain t;have wg:IntKind.i64.wrap ((t.Grip.length:Int)-1)=(t.Grip.length:Int)-1:=wrap_in (by omega) (by omega);refine PureCall.of_body Tryz.func195 rfl (by decide) (by simp[Tryz.ntmps195]) ?_;simp only[Tryz.ntmps195,Tryz.results195];refine aS fun K hK=>?_;simp -dsimp;apply hK;clear hK K;refine awp_seq_k fun K1 hK1=>?_;refine awp_sd mixed rfl fun K hK=>?_;simp -dsimp [wg];refine callK_intro _ (hva) (by simp) ?_;simp -dsimp [wg];refine callK_may _ (fun hm=>(hwy (by simpa using hm))) (by simp) ?_;simp -dsimp [wg];refine callK_may _ (fun hm=>htr) (by simp) ?_;simp -dsimp [wg];refine callK_may _ (fun hm=>c_in3 st 0 ((t.Grip.length:Int)-1)) (by simp) ?_;simp -dsimp [wg];refine callK_may _ (fun hm=>c_in3 (sp.length:Int) 2 100) (by simp) ?_;simp -dsimp [wg];refine idxK_intro (nCell (at0 sp 0)) (fun hm=>by simp at hm;have h2:=inr_iff.1 hm.2;have g0:sp[0]?=some (at0 sp 0):=at0_nat (l:=sp) (k:=0) (by omega);simp[g0]) ?_;simp -dsimp [wg];refine hK _ _ _ (by decide+kernel) ?_;clear hK K;refine awp_cond rfl (fun hc0=>?_) (fun hc0=>?_)
 ·refine aS fun K hK=>?_;simp -dsimp;apply hK;clear hK K;have h0:stpB p l t st sp=false:=by
   unfold stpB;generalize validB p=b1 at*
   generalize wayB p l=b2 at*
   generalize okT t=b3 at*
   generalize inr st 0 (t.Grip.length-1)=b4 at*
   generalize inr (sp.length:Int) 2 100=b5 at*
   generalize decide (at0 sp 0<t.Length)=b6 at*
   generalize (upB sp&&decide (at0 sp (sp.length-1)≤begTo p l l.length))=b7 at*
   revert hc0;clear hva hwy htr;cases b1<;>cases b2<;>cases b3<;>cases b4<;>cases b5<;>cases b6<;>cases b7<;>simp
  exact awp_ret (by simp[h0])
 ·have hcond:(validB p=true∧wayB p l=true)∧(inr (sp.length:Int) 2 100=true∧stpB p l t st sp=(upB sp&&decide (at0 sp (sp.length-1)≤begTo p l l.length))):=by
   unfold stpB;generalize validB p=b1 at*
   generalize wayB p l=b2 at*
   generalize okT t=b3 at*
   generalize inr st 0 (t.Grip.length-1)=b4 at*
   generalize inr (sp.length:Int) 2 100=b5 at*
   generalize decide (at0 sp 0<t.Length)=b6 at*
   generalize (upB sp&&decide (at0 sp (sp.length-1)≤begTo p l l.length))=b7 at*
   revert hc0;clear hva hwy htr;cases b1<;>cases b2<;>cases b3<;>cases b4<;>cases b5<;>cases b6<;>cases b7<;>simp
  obtain⟨⟨hv,hw⟩,hn,hst⟩:=hcond;have hn2:=inr_iff.1 hn;have hrl:=c_rWayLength p l hv hw;refine awp_skip ?_;simp only[zT,reduceIte,Nat.reduceEqDiff];refine hK1 _ _ ?_;refine awp_prune [1,4,5] ?_;simp only[zP,Nat.reduceEqDiff,reduceIte];refine awp_seq_k fun K2 hK2=>?_;refine aS fun K hK=>?_;simp -dsimp;apply hK;clear hK K;refine awp_block ?_;refine awp_prune [1,4,5,11] ?_;simp only[zP,Nat.reduceEqDiff,reduceIte];refine awp_loop_l [1,4,5] (α:=Nat) (fun k=>[(11,I ((k:Int)+1))]) (fun _=>[some (.els 2 [p.cells]),some (.els 10 [t.cells])]) (fun k=>k+1≤sp.length∧(List.range k).all (fun k=> !decide (at0 sp (k+1:Nat)≤at0 sp k))=true) (fun k=>sp.length-k) 0 ?_ ?_ ?_
  ·exact⟨by omega,rfl⟩
  ·exact sub_rb [some 0,some 1] rfl (by simp) (by simp)
  rintro k ⟨k1,k2⟩;simp only[zP,Nat.reduceEqDiff,reduceIte];refine awp_seq_k fun K3 hK3=>?_;refine aS fun K hK=>?_;simp -dsimp;apply hK;clear hK K;refine awp_cond rfl (fun hc1=>?_) (fun hc1=>?_)
  ·have hkl:k+1<sp.length:=by have h:=(by simpa using hc1:(k:Int)+1<sp.length);omega
   have wk:IntKind.i64.wrap (k:Int)=k:=wrap_in (by omega) (by omega);have k0:(0:Int)≤(k:Int)+1:=by omega
   have wk2:IntKind.i64.wrap ((k:Int)+1+1)=(k:Int)+1+1:=wrap_in (by omega) (by omega);have gk:=at0_nat (l:=sp) (k:=k) (by omega);have gk1:=at0_nat (l:=sp) (k:=k+1) hkl;refine awp_skip ?_;simp only[zT,reduceIte,Nat.reduceEqDiff];refine hK3 _ _ ?_;refine awp_prune [1,4,5,11] ?_;simp only[zP,Nat.reduceEqDiff,reduceIte];refine awp_seq_k fun K4 hK4=>?_;refine awp_block ?_;refine awp_sd mixed rfl fun K hK=>?_;simp -dsimp [wk,k0,gk,gk1];refine hK _ _ _ (by decide+kernel) ?_;clear hK K;refine awp_cond rfl (fun hc2=>?_) (fun hc2=>?_)
   ·have hle:at0 sp (k+1:Nat)≤at0 sp k:=by simpa using hc2
    have hup:upB sp=false:=by unfold upB;rw[List.all_eq_false];exact⟨k,List.mem_range.2 (by omega),by simpa using hle⟩
    refine aS fun K hK=>?_;simp -dsimp;apply hK;clear hK K;exact awp_ret (by simp[hst,hup])
   ·have hle:¬at0 sp (k+1:Nat)≤at0 sp k:=by simpa using hc2
    refine awp_skip ?_;simp only[zT,reduceIte,Nat.reduceEqDiff];refine hK4 _ _ ?_;refine awp_prune [1,4,5,11] ?_;simp only[zP,Nat.reduceEqDiff,reduceIte];refine aR fun K hK=>?_;simp -dsimp [wk2];apply hK;clear hK K;simp only[zT,reduceIte,Nat.reduceEqDiff];exact⟨k+1,⟨by omega,by rw[List.range_succ,List.all_append,k2];simpa using hle⟩,by omega,sub_rb [some 0,some 1] rfl (by simp) (by simp)⟩
  ·have hkl:k=sp.length-1:=by have h:¬(k:Int)+1<sp.length:=(by simpa using hc1);omega
   have hup:upB sp=true:=by unfold upB;rw[←hkl];exact k2
   have gz:=at0_nat (l:=sp) (k:=sp.length-1) (by omega);have ez:((sp.length-1:Nat):Int)=(sp.length:Int)-1:=by omega
   rw[ez]at gz;have l1:(1:Int)≤sp.length:=by omega
   have wz:IntKind.i64.wrap ((sp.length:Int)-1)=(sp.length:Int)-1:=wrap_in (by omega) (by omega);refine awp_exit ?_;simp only[zT,reduceIte,Nat.reduceEqDiff];refine hK2 _ _ ?_;refine awp_prune [1,4,5] ?_;simp only[zP,Nat.reduceEqDiff,reduceIte];refine awp_sd mixed rfl fun K hK=>?_;simp -dsimp [wz,l1,gz];refine callK_intro _ (hrl) (by simp) ?_;simp -dsimp [wz,l1,gz];refine hK _ _ _ (by decide+kernel) ?_;clear hK K;exact awp_ret (by simp[hst,hup])
end Go.Mo
end
section
namespace Go.Mo
open Go.AM Go.Cur Go.Proofs
open Go.Tram (Plan Cover validB wayB begTo mvAt movB mLst begTo_bd way_mov way_len len_bd movB_iff)
theorem c_rSum (a1 a2 a3 a4 a5 a6 b1 b2 b3 b4 b5 b6:Int):PureCall Tryz.prog 223 [.agg [I a1,I a2,I a3,I a4,I a5,I a6], .agg [I b1,I b2,I b3,I b4,I b5,I b6]] (.agg [I (IntKind.i64.wrap (a1+b1)),I (IntKind.i64.wrap (a2+b2)),I (IntKind.i64.wrap (a3+b3)),I (IntKind.i64.wrap (a4+b4)),I (IntKind.i64.wrap (a5+b5)),I (IntKind.i64.wrap (a6+b6))]):=by
 refine PureCall.of_body Tryz.func223 rfl (by decide) (by simp[Tryz.ntmps223]) ?_;simp only[Tryz.ntmps223,Tryz.results223];refine aS fun K hK=>?_;simp -dsimp;apply hK;clear hK K;refine aS fun K hK=>?_;simp -dsimp;apply hK;clear hK K;exact awp_ret (by simp[resP,tupOf])
def addR (r:Rn) (o:Lg) (x:Ms) (d:Int):Lg:=
 ⟨IntKind.i64.wrap (o.Mi+100),o.At,IntKind.i64.wrap (o.Pu+200*pullF r.t r.st (spd r.t x) d*nextP r.t r.st x d (r.slF x)),IntKind.i64.wrap (o.Br+200*brakeF r.t r.st (spd r.t x) d*nextP r.t r.st x d (r.slF x)),
  IntKind.i64.wrap (o.Dr+200*dragF r.t (spd r.t x)*nextP r.t r.st x d (r.slF x)),IntKind.i64.wrap (o.Hi+200*hillF r.t (r.slF x)*nextP r.t r.st x d (r.slF x)),
  IntKind.i64.wrap (o.Ro+if stops r.t r.st x d (r.slF x)=true then 0 else 10000*sumF r.t r.st x d (r.slF x)*sumF r.t r.st x d (r.slF x)),IntKind.i64.wrap (o.Ho+if stops r.t r.st x d (r.slF x)=true then x.P*x.P else 0),
  mxI o.Tk (tookF r.t r.st x d (r.slF x)),mxI o.Gv (gaveF r.t r.st x d (r.slF x))⟩
def rlgAV:Option (List Lg×Ms)→AV
 |none=> .tup [.v (.slice none 0 0),Bo false]
 |some z=> .tup [.lst 10 (z.1.map Lg.cells),Bo (decide (z.2.W≤10000000000000000))]
theorem c_rDriveR (p:Plan) (l:List Mv) (t:Tn) (st:Int) (sp:List Int) (h:BegOk p l t st sp):
  PureCall Tryz.prog 196 [p.av,mLst l,t.av,I st,iL sp] (rlgAV ((runOf p l t st sp).legsR (addR (runOf p l t st sp)) (sp.drop 1) (runOf p l t st sp).x0)):=by
 have hok:=runOf_ok h;have hn:=h.n;have g0:sp[0]?=some (at0 sp 0):=at0_nat (l:=sp) (k:=0) (by omega);have hB:=okT_b h.ok h.s0 h.s1;have hm:1000≤t.Mass∧t.Mass≤80000:=hB.ma;have hb0:=h.bd (i:=0) (by omega);have hlen:1≤t.Length:=by have:=h.ok;simp only[okT,Bool.and_eq_true,inr_iff]at this;omega
 have e0:((0:Nat):Int)=0:=rfl;rw[e0]at hb0;have hq1:=Int.mul_le_mul (a:=10*t.Mass) (b:=at0 sp 0) (c:=800000) (d:=62000000000) (by omega) hb0.2 (by omega) (by omega);have hq0:=Int.mul_nonneg (a:=10*t.Mass) (b:=at0 sp 0) (by omega) (by omega);have w1:IntKind.i64.wrap (10*t.Mass)=10*t.Mass:=wrap_in (by omega) (by omega);have w2:IntKind.i64.wrap (10*t.Mass*at0 sp 0)=10*t.Mass*at0 sp 0:=wrap_in (by omega) (by omega);have hx0:(runOf p l t st sp).x0=⟨0,10*t.Mass*at0 sp 0⟩:=rfl;have hst:∀i,i+1<sp.length→InR p l t st (at0 sp (i+1:Nat)):=fun i hi=>⟨⟨h.v,h.w⟩,hB,hlen,by
  have h1:=h.mono (sp.length-1) (i+1) (by omega) (by omega);have h2:=h.z;have ez:((sp.length-1:Nat):Int)=(sp.length:Int)-1:=by omega
  rw[ez]at h1;omega⟩
 have hlo:∀i,i+1<sp.length→at0 sp i≤at0 sp (i+1:Nat):=fun i hi=>h.mono (i+1) i (by omega) hi;have hbd:∀i,i+1<sp.length→at0 sp (i+1:Nat)≤62000000000∧0≤at0 sp (i+1:Nat):=fun i hi=>by have:=h.bd hi;omega
 have hms:MsB t (⟨0,10*t.Mass*at0 sp 0⟩:Ms):=⟨⟨Int.le_refl _,by show 0≤25000*t.Mass;omega⟩,⟨hq0,by show 10*t.Mass*at0 sp 0≤_;omega⟩⟩;have hpl0:plF t (⟨0,10*t.Mass*at0 sp 0⟩:Ms)=at0 sp 0:=by unfold plF;exact Int.mul_tdiv_cancel_left _ (by omega)
 rw[hx0];generalize hR:(runOf p l t st sp).legsR (addR (runOf p l t st sp)) (sp.drop 1) ⟨0,10*t.Mass*at0 sp 0⟩=R;have hdrv:=fun stop (hr:InR p l t st stop) x hx hw hL=>c_rdrive (sp:=sp) hr hok x hx hw hL;have hslp:=fun stop x hx=>c_rslope (sp:=sp) ⟨h.v,h.w⟩ stop x hB hx;have hrt:(runOf p l t st sp).t=t:=rfl;have hrs:(runOf p l t st sp).st=st:=rfl;obtain⟨r,hr⟩:∃r,r=runOf p l t st sp:=⟨_,rfl⟩;rw[←hr]at hok hR hdrv hslp hrt hrs;clear hr;have hsb:=fun y=>slF_bd hok y;have hn1:1≤sp.length:=by omega
 refine PureCall.of_body Tryz.func196 rfl (by decide) (by simp[Tryz.ntmps196]) ?_;simp only[Tryz.ntmps196,Tryz.results196];refine aS fun K hK=>?_;simp -dsimp;apply hK;clear hK K;refine awp_sd mixed rfl fun K hK=>?_;simp -dsimp [w1,w2,g0];refine hK _ _ _ (by decide+kernel) ?_;clear hK K;refine aS fun K hK=>?_;simp -dsimp;apply hK;clear hK K;refine awp_seq_k fun K1 hK1=>?_;refine aS fun K hK=>?_;simp -dsimp;apply hK;clear hK K;refine awp_block ?_;refine awp_prune [1,3,4,5,7,12,13,14] ?_;simp only[zP,Nat.reduceEqDiff,reduceIte];refine awp_loop_l [1,3,4,5,7,12] (α:=Nat×Ms×List Lg) (fun q=>[(13, .row 3 0 q.2.2.length),(14,I ((q.1:Int)+1))]) (fun q=>[some (.els 2 [p.cells]),some (.els 10 [t.cells]),some (.els 2 [q.2.1.cells]),some (.els 10 (q.2.2.map Lg.cells))]) (fun q=>q.2.2.length=q.1∧q.1+1≤sp.length∧MsB t q.2.1∧q.2.1.W≤90000000000000000∧t.Length≤plF t q.2.1∧plF t q.2.1≤at0 sp (q.1:Nat)∧(r.legsR (addR r) (sp.drop (q.1+1)) q.2.1).map (fun z=>(q.2.2++z.1,z.2))=R) (fun q=>sp.length-q.1) (0,⟨0,10*t.Mass*at0 sp 0⟩,[]) ?_ ?_ ?_
 ·exact⟨rfl,by omega,hms,by simp only;omega,by simp only;omega,by simp only[hpl0];exact Int.le_refl _,by simp only[List.nil_append,Nat.zero_add];rw[hR];cases R<;>rfl⟩
 ·exact(sub_nil 13 10 (by simp)).trans (sub_same (by simp))
 rintro⟨k,x,L⟩ ⟨i1,i2,i3,i4,i5,i6,i7⟩;simp only at i1 i2 i3 i4 i5 i6 i7 ⊢;subst i1;simp only[zP,Nat.reduceEqDiff,reduceIte];refine awp_seq_k fun K2 hK2=>?_;refine aS fun K hK=>?_;simp -dsimp;apply hK;clear hK K;refine awp_cond rfl (fun hc0=>?_) (fun hc0=>?_)
 ·have hkl:L.length+1<sp.length:=by have h:=(by simpa using hc0:(L.length:Int)+1<sp.length);omega
  have wk:IntKind.i64.wrap ((L.length:Int)+1+1)=(L.length:Int)+1+1:=wrap_in (by omega) (by omega);have wj:IntKind.i64.wrap ((L.length:Int)+1)=(L.length:Int)+1:=wrap_in (by omega) (by omega);have k0:(0:Int)≤(L.length:Int)+1:=by omega
  have gk:=at0_nat (l:=sp) (k:=L.length+1) hkl;have hbk:=hbd L.length hkl;have hin:=hst L.length hkl;have hlk:=hlo L.length hkl;have hdr:sp.drop (L.length+1)=at0 sp (L.length+1:Nat)::sp.drop (L.length+1+1):=by
   rw[List.drop_eq_getElem_cons hkl];rw[List.getElem?_eq_getElem hkl]at gk;simp only[Option.some.injEq]at gk;rw[gk]
  rw[hdr,Rn.legsR]at i7;have ff:Fits (L.length+1) 81:=fits_of (by omega) (by omega);have tk:((L.length:Int)+1).toNat=L.length+1:=by omega
  generalize hstp:at0 sp (L.length+1:Nat)=stop at*
  have wm:IntKind.i64.wrap (stop-1000)=stop-1000:=wrap_in (by omega) (by omega);have hup:=fun z hz=>legR_up hok (stop:=stop) (add:=addR r) 36000 x lg0 z (by rw[hrt];exact i3) i4 (by rw[hrt];omega) hz;generalize hQ:r.legR stop (addR r) 36000 x lg0=Q at i7 hup;refine awp_skip ?_;simp only[zT,reduceIte,Nat.reduceEqDiff];refine hK2 _ _ ?_;refine awp_prune [1,3,4,5,7,12,13,14] ?_;simp only[zP,Nat.reduceEqDiff,reduceIte];refine awp_seq_k fun K3 hK3=>?_;refine awp_block ?_;refine awp_sd mixed rfl fun K hK=>?_;simp -dsimp [gk,k0,tk];refine hK _ _ _ (by decide+kernel) ?_;clear hK K;refine aS fun K hK=>?_;simp -dsimp;apply hK;clear hK K;refine awp_seq_k fun K4 hK4=>?_;refine aS fun K hK=>?_;simp -dsimp;apply hK;clear hK K;refine awp_block ?_;refine awp_prune [1,3,4,5,7,12,13,14,15,16,17] ?_;simp only[zP,Nat.reduceEqDiff,reduceIte];refine awp_loop_l [1,3,4,5,7,12,13,14,15,16] (α:=Nat×Ms×Lg) (fun q=>[(17,I q.1)]) (fun q=>[some (.els 2 [p.cells]),some (.els 10 [t.cells]),some (.els 2 [q.2.1.cells]),some (.els 10 (L.map Lg.cells)),some (.els 15 [rrC p l t st stop]),some (.els 10 [q.2.2.cells])]) (fun q=>q.1≤36000∧MsB t q.2.1∧q.2.1.W≤90000000000000000∧t.Length≤plF t q.2.1∧r.legR stop (addR r) (36000-q.1) q.2.1 q.2.2=Q) (fun q=>36000-q.1) (0,x,lg0) ?_ ?_ ?_
  ·exact⟨Nat.zero_le _,i3,i4,i5,hQ⟩
  ·exact sub_rb [some 0,some 1,some 2,some 3,some 4,some 5] rfl (by simp) (by simp)
  rintro⟨n,y,o⟩ ⟨j1,j2,j3,j4,j5⟩;simp only at j1 j2 j3 j4 j5 ⊢;have hpl:=c_rPlc3 t st y hB j2;have hplb:=plF_bd hB j2;have hPn:=j2.p.1;simp only[zP,Nat.reduceEqDiff,reduceIte];refine awp_seq_k fun K5 hK5=>?_;refine awp_sd mixed rfl fun K hK=>?_;simp -dsimp [gk,k0,tk,wm];refine callK_may _ (fun hm=>hpl) (by simp) ?_;simp -dsimp [gk,k0,tk,wm];refine idxK_intro (nCell stop) (fun _=>by simp[gk,tk]) ?_;simp -dsimp [gk,k0,tk,wm];refine hK _ _ _ (by decide+kernel) ?_;clear hK K;refine awp_cond rfl (fun hc1=>?_) (fun hc1=>?_)
  ·have hgo:0<y.P∨plF t y<stop-1000:=by simpa using hc1
   have hS0:n=36000→Q=none:=fun e=>by rw[←j5,e,Nat.sub_self,Rn.legR,hrt,if_pos hgo]
   have hS1:n<36000→(if 10000000000000000<y.W then none else match r.chF stop y with
    |none=>none
    |some i=>r.legR stop (addR r) (36000-(n+1)) (afterX r.t r.st y (4-i) (r.slF y)) (addR r o y (4-i)))=Q:=fun e=>by
    rw[←j5,show 36000-n=36000-(n+1)+1 by omega,Rn.legR,hrt,if_pos hgo]<;>rfl
   refine awp_skip ?_;simp only[zT,reduceIte,Nat.reduceEqDiff];refine hK5 _ _ ?_;refine awp_prune [1,3,4,5,7,12,13,14,15,16,17] ?_;simp only[zP,Nat.reduceEqDiff,reduceIte];refine awp_seq_k fun K6 hK6=>?_;refine awp_block ?_;refine awp_seq_k fun K7 hK7=>?_;refine aS fun K hK=>?_;simp -dsimp;apply hK;clear hK K;refine awp_cond rfl (fun hc2=>?_) (fun hc2=>?_)
   ·have hq:Q=none:=by
     rcases Nat.lt_or_ge n 36000 with hn'|hn'
     ·rw[←hS1 hn',if_pos]
      rcases(by simpa using hc2:(n:Int)=36000∨10000000000000000<y.W)with h1|h1
      ·omega
      ·exact h1
     ·exact hS0 (by omega)
    rw[hq]at i7;refine aS fun K hK=>?_;simp -dsimp;apply hK;clear hK K;exact awp_ret (by simp[resP,tupOf,←i7,rlgAV])
   ·have hnn:=(by simpa using hc2:¬(n:Int)=36000∧¬10000000000000000<y.W);have hn3:n<36000:=by omega
    have hS:=hS1 hn3;rw[if_neg hnn.2]at hS;have hdv:=hdrv stop hin y j2 (by omega) j4;unfold rdrAV at hdv;refine awp_skip ?_;simp only[zT,reduceIte,Nat.reduceEqDiff];refine hK7 _ _ ?_;refine awp_prune [1,3,4,5,7,12,13,14,15,16,17] ?_;simp only[zP,Nat.reduceEqDiff,reduceIte]
    rcases hcf:r.chF stop y with _|i<;>rw[hcf]at hdv hS<;>simp only at hdv hS
    ·refine aS fun K hK=>?_;simp -dsimp;refine callK_intro _ (hdv) (by simp) ?_;simp -dsimp;apply hK;clear hK K;refine awp_seq_k fun K8 hK8=>?_;refine aS fun K hK=>?_;simp -dsimp;apply hK;clear hK K;refine awp_cond rfl (fun hc3=>?_) (fun hc3=>?_)
     ·refine aS fun K hK=>?_;simp -dsimp;apply hK;clear hK K;have hq:Q=none:=hS.symm;rw[hq]at i7;exact awp_ret (by simp[resP,tupOf,←i7,rlgAV])
     ·simp at hc3
    ·refine aS fun K hK=>?_;simp -dsimp;refine callK_intro _ (hdv) (by simp) ?_;simp -dsimp;apply hK;clear hK K;refine awp_seq_k fun K9 hK9=>?_;refine aS fun K hK=>?_;simp -dsimp;apply hK;clear hK K;refine awp_cond rfl (fun hc3=>?_) (fun hc3=>?_)
     ·simp at hc3
     ·obtain⟨hi9,hax,hsf⟩:=chF_ok hok (by rw[hrt];exact j2) j3 hcf;rw[hrt,hrs]at hax hS;have ha:Ask t st y (4-(i:Int)) (r.slF y):=⟨hB,j2,by omega,hsb y⟩;have hnx:=next_bd ha;have hpa:=plF_after ha;have hsl:=hslp stop y j2;have hpw:=c_rPowers t st y (4-(i:Int)) (r.slF y) ha;have hst2:=c_rStep t st y (4-(i:Int)) (r.slF y) ha;unfold ledC at hst2;have wn:=zW n (by omega);refine awp_skip ?_;simp only[zT,reduceIte,Nat.reduceEqDiff];refine hK9 _ _ ?_;refine awp_prune [1,3,4,5,7,12,13,14,15,16,17,18] ?_;simp only[zP,Nat.reduceEqDiff,reduceIte];refine awp_sd mixed rfl fun K hK=>?_;simp -dsimp;refine callK_intro _ (hpl) (by simp) ?_;simp -dsimp;refine callK_intro _ (hsl) (by simp) ?_;simp -dsimp;refine hK _ _ _ (by decide+kernel) ?_;clear hK K;refine aS fun K hK=>?_;simp -dsimp;refine callK_intro _ (hpw) (by simp) ?_;simp -dsimp;apply hK;clear hK K;refine aS fun K hK=>?_;simp -dsimp;refine callK_intro _ (hst2) (by simp) ?_;simp -dsimp;apply hK;clear hK K;refine aS fun K hK=>?_;simp -dsimp;apply hK;clear hK K;refine aS fun K hK=>?_;simp -dsimp;apply hK;clear hK K;refine aS fun K hK=>?_;simp -dsimp;apply hK;clear hK K;refine aR fun K hK=>?_;simp -dsimp;refine callK_intro _ (c_rSum _ _ _ _ _ _ _ _ _ _ _ _) (by simp) ?_;simp -dsimp;apply hK;clear hK K;simp only[zT,reduceIte,Nat.reduceEqDiff];refine hK6 _ _ ?_;refine awp_prune [1,3,4,5,7,12,13,14,15,16,17] ?_;simp only[zP,Nat.reduceEqDiff,reduceIte];refine aR fun K hK=>?_;simp -dsimp [wn];apply hK;clear hK K;simp only[zT,reduceIte,Nat.reduceEqDiff];exact⟨(n+1,afterX t st y (4-i) (r.slF y),addR r o y (4-i)),⟨by simp only;omega,hax,by show y.W+_≤_;omega,by simp only;omega,hS⟩,by simp only;omega,sub_rb [some 0,some 1,some 2,some 3,some 4,some 5] rfl (by simp) (by simp[addR,mxI,hrt,hrs])⟩
  ·have hst':¬(0<y.P∨plF t y<stop-1000):=by simpa using hc1
   have hq:Q=some ({o with At:=plF t y},y):=by rw[←j5];cases 36000-n<;>rw[Rn.legR,hrt,if_neg hst']
   have hup2:=hup _ hq;rw[hrt]at hup2;rw[hq]at i7;refine awp_exit ?_;simp only[zT,reduceIte,Nat.reduceEqDiff];refine hK4 _ _ ?_;refine awp_prune [1,3,4,5,7,12,13,14,16] ?_;simp only[zP,Nat.reduceEqDiff,reduceIte];refine aS fun K hK=>?_;simp -dsimp;refine callK_intro _ (hpl) (by simp) ?_;simp -dsimp;apply hK;clear hK K;refine aR fun K hK=>?_;simp -dsimp [ff];apply hK;clear hK K;simp only[zT,reduceIte,Nat.reduceEqDiff];refine hK3 _ _ ?_;refine awp_prune [1,3,4,5,7,12,13,14] ?_;simp only[zP,Nat.reduceEqDiff,reduceIte];refine aR fun K hK=>?_;simp -dsimp [wk];apply hK;clear hK K;simp only[zT,reduceIte,Nat.reduceEqDiff];exact⟨(L.length+1,y,L++[{o with At:=plF t y}]),⟨by simp,by simp only;omega,j2,j3,j4,by simp only;rw[hstp];exact hup2.2.2.2.1,by simp only at i7 ⊢;rw[←i7,Option.map_map];congr 1;funext q;simp⟩,by simp only;omega,sub_rb [some 0,some 1,some 2,some 6] rfl (by simp) (by simp)⟩
 ·have hkl:L.length+1=sp.length:=by have h:¬(L.length:Int)+1<sp.length:=(by simpa using hc0);omega
  rw[hkl,List.drop_length,Rn.legsR]at i7;refine awp_exit ?_;simp only[zT,reduceIte,Nat.reduceEqDiff];refine hK1 _ _ ?_;refine awp_prune [12,13] ?_;simp only[zP,Nat.reduceEqDiff,reduceIte];refine awp_sd mixed rfl fun K hK=>?_;simp -dsimp;refine hK _ _ _ (by decide+kernel) ?_;clear hK K;exact awp_ret (by simp[resP,tupOf,←i7,rlgAV])
end Go.Mo
end
section
namespace Go.Mo
open Go.AM Go.Cur Go.Proofs
open Go.Tram (Plan Cover validB wayB begTo mvAt movB mLst begTo_bd way_mov way_len len_bd movB_iff c_Valid c_rWay c_rWayLength)
structure Crs where
 W:List Mv
 S:List Int
 D:List Int
 deriving Inhabited
structure Lin where
 o:Crs
 h:Crs
 t:Tn
 st:Int
 la:Int
 deriving Inhabited
structure Srv where
 L:List Lin
 H:List Int
 O:List Int
 deriving Inhabited
@[simp] def Crs.cells (c:Crs):List AV:=[mLst c.W,iL c.S,iL c.D]
@[simp] def Lin.cells (l:Lin):List AV:=[mLst l.o.W,iL l.o.S,iL l.o.D,mLst l.h.W,iL l.h.S,iL l.h.D]++(l.t.cells++[I l.st,I l.la])
@[simp] def Srv.cells (s:Srv):List AV:=[.lst 18 (s.L.map Lin.cells),iL s.H,iL s.O]
abbrev Crs.av (c:Crs):AV:= .agg c.cells
abbrev Lin.av (l:Lin):AV:= .agg l.cells
abbrev Srv.av (s:Srv):AV:= .agg s.cells
def Lin.c (l:Lin) (home:Bool):Crs:=if home then l.h else l.o
structure LinS (l:Lin):Prop where
 ow:l.o.W.length≤100000
 hw:l.h.W.length≤100000
 os:l.o.S.length≤maxLen
 hs:l.h.S.length≤maxLen
 od:l.o.D.length≤maxLen
 hd:l.h.D.length≤maxLen
 g:l.t.Grip.length≤maxLen
theorem LinS.c {l:Lin} (h:LinS l) (home:Bool):(l.c home).W.length≤100000∧(l.c home).S.length≤maxLen∧(l.c home).D.length≤maxLen:=by
 cases home
 ·exact⟨h.ow,h.os,h.od⟩
 ·exact⟨h.hw,h.hs,h.hd⟩
def runZ (p:Plan) (l:List Mv) (t:Tn) (st:Int) (sp:List Int):Option (List Lg×Ms):=if stpB p l t st sp=true then(runOf p l t st sp).legsR (addR (runOf p l t st sp)) (sp.drop 1) (runOf p l t st sp).x0 else none
def runO (p:Plan) (l:List Mv) (t:Tn) (st:Int) (sp:List Int):Option (List Int):=match runZ p l t st sp with
 |none=>none
 |some z=>if z.2.W≤10000000000000000 then some (z.1.map (·.Mi))else none
def runZAV:Option (List Lg×Ms)→AV
 |none=> .tup [.v (.slice none 0 0),Bo false]
 |some z=> .tup [iL (z.1.map (·.Mi)),Bo (decide (z.2.W≤10000000000000000))]
theorem legsR_len (r:Rn) (add:Lg→Ms→Int→Lg):∀(q:List Int) (x:Ms) (z:List Lg×Ms),r.legsR add q x=some z→z.1.length=q.length
 |[],x,z,h=>by simp[Rn.legsR]at h;subst h;rfl
 |s::q,x,z,h=>by
  rw[Rn.legsR]at h
  split at h
  ·cases h
  ·rw[Option.map_eq_some_iff]at h;obtain⟨w,hw,rfl⟩:=h;simp[legsR_len r add q _ w hw]
theorem c_rRun (p:Plan) (l:List Mv) (t:Tn) (st:Int) (sp:List Int) (hl:l.length≤100000) (hg:t.Grip.length≤maxLen) (hs:sp.length≤maxLen):PureCall Tryz.prog 151 [p.av,mLst l,t.av,I st,iL sp] (runZAV (runZ p l t st sp)):=by
 have hst:=c_rStops p l t st sp hl hg hs;unfold runZ
 cases hb:stpB p l t st sp
 ·rw[hb]at hst;rw[if_neg (by simp)];refine PureCall.of_body Tryz.func151 rfl (by decide) (by simp[Tryz.ntmps151]) ?_;simp only[Tryz.ntmps151,Tryz.results151];refine aS fun K hK=>?_;simp -dsimp;apply hK;clear hK K;refine awp_seq_k fun K1 hK1=>?_;refine aS fun K hK=>?_;simp -dsimp;refine callK_intro _ (hst) (by simp) ?_;simp -dsimp;apply hK;clear hK K;refine awp_cond rfl (fun hc0=>?_) (fun hc0=>?_)
  ·refine aS fun K hK=>?_;simp -dsimp;apply hK;clear hK K;exact awp_ret (by simp[runZAV])
  ·simp at hc0
 ·rw [hb]at hst;rw[if_pos rfl];have hbg:=stpB_ok hb;have hdr:=c_rDriveR p l t st sp hbg;have hn:=hbg.n;have hln:=fun z=>legsR_len (runOf p l t st sp) (addR (runOf p l t st sp)) (sp.drop 1) (runOf p l t st sp).x0 z;generalize (runOf p l t st sp).legsR (addR (runOf p l t st sp)) (sp.drop 1) (runOf p l t st sp).x0=R at hdr hln ⊢
  cases R with
  | none=>
   simp only[rlgAV]at hdr;refine PureCall.of_body Tryz.func151 rfl (by decide) (by simp[Tryz.ntmps151]) ?_;simp only[Tryz.ntmps151,Tryz.results151];refine aS fun K hK=>?_;simp -dsimp;apply hK;clear hK K;refine awp_seq_k fun K1 hK1=>?_;refine aS fun K hK=>?_;simp -dsimp;refine callK_intro _ (hst) (by simp) ?_;simp -dsimp;apply hK;clear hK K;refine awp_cond rfl (fun hc0=>?_) (fun hc0=>?_)
   ·simp at hc0
   ·refine awp_skip ?_;simp only[zT,reduceIte,Nat.reduceEqDiff];refine hK1 _ _ ?_;refine awp_prune [1,3,4,5,7] ?_;simp only[zP,Nat.reduceEqDiff,reduceIte];refine aS fun K hK=>?_;simp -dsimp;refine callK_intro _ (hdr) (by simp) ?_;simp -dsimp;apply hK;clear hK K;refine aS fun K hK=>?_;simp -dsimp;apply hK;clear hK K;refine awp_seq_k fun K2 hK2=>?_;refine aS fun K hK=>?_;simp -dsimp;apply hK;clear hK K;refine awp_block ?_;refine awp_prune [12,13,14,15] ?_;simp only[zP,Nat.reduceEqDiff,reduceIte];refine awp_loop_l [12,13] (α:=Nat) (fun k=>[(14, .v (.slice none 0 0)),(15,I k)]) (fun _=>[some (.els 2 [p.cells]),some (.els 10 [t.cells])]) (fun k=>k=0) (fun k=>0) 0 ?_ ?_ ?_
    ·exact rfl
    ·exact sub_rb [some 0,some 1] rfl (by simp) (by simp)
    rintro k rfl;simp only[zP,Nat.reduceEqDiff,reduceIte];refine awp_seq_k fun K3 hK3=>?_;refine aS fun K hK=>?_;simp -dsimp;apply hK;clear hK K;refine awp_cond rfl (fun hc1=>?_) (fun hc1=>?_)
    ·simp at hc1
    ·refine awp_exit ?_;simp only[zT,reduceIte,Nat.reduceEqDiff];refine hK2 _ _ ?_;refine awp_prune [13,14] ?_;simp only[zP,Nat.reduceEqDiff,reduceIte];refine aS fun K hK=>?_;simp -dsimp;apply hK;clear hK K;exact awp_ret (by simp[runZAV])
  | some z=>
   obtain⟨Z,y⟩:=z;have hlz:=hln _ rfl;rw[List.length_drop]at hlz;simp only at hlz;simp only[rlgAV]at hdr;obtain⟨M,hM⟩:∃M:List Int,M=Z.map (·.Mi):=⟨_,rfl⟩
   have hMl:M.length=Z.length:=by rw[hM,List.length_map]
   simp only[runZAV,←hM];refine PureCall.of_body Tryz.func151 rfl (by decide) (by simp[Tryz.ntmps151]) ?_;simp only[Tryz.ntmps151,Tryz.results151];refine aS fun K hK=>?_;simp -dsimp;apply hK;clear hK K;refine awp_seq_k fun K1 hK1=>?_;refine aS fun K hK=>?_;simp -dsimp;refine callK_intro _ (hst) (by simp) ?_;simp -dsimp;apply hK;clear hK K;refine awp_cond rfl (fun hc0=>?_) (fun hc0=>?_)
   ·simp at hc0
   ·refine awp_skip ?_;simp only[zT,reduceIte,Nat.reduceEqDiff];refine hK1 _ _ ?_;refine awp_prune [1,3,4,5,7] ?_;simp only[zP,Nat.reduceEqDiff,reduceIte];refine aS fun K hK=>?_;simp -dsimp;refine callK_intro _ (hdr) (by simp) ?_;simp -dsimp;apply hK;clear hK K;refine aS fun K hK=>?_;simp -dsimp;apply hK;clear hK K;refine awp_seq_k fun K2 hK2=>?_;refine aS fun K hK=>?_;simp -dsimp;apply hK;clear hK K;refine awp_block ?_;refine awp_prune [12,13,14,15] ?_;simp only[zP,Nat.reduceEqDiff,reduceIte];refine awp_loop_l [12,13] (α:=Nat) (fun k=>[(14, .row 2 0 k),(15,I k)]) (fun k=>[some (.els 2 [p.cells]),some (.els 10 [t.cells]),some (.els 1 ((M.take k).map nCell))]) (fun k=>k≤Z.length) (fun k=>Z.length-k) 0 ?_ ?_ ?_
    ·exact Nat.zero_le _
    ·exact(sub_nil 14 1 (by simp)).trans (sub_same (by simp))
    rintro k k1;simp only[zP,Nat.reduceEqDiff,reduceIte];refine awp_seq_k fun K3 hK3=>?_;refine aS fun K hK=>?_;simp -dsimp;apply hK;clear hK K;refine awp_cond rfl (fun hc1=>?_) (fun hc1=>?_)
    ·have hkl:k<Z.length:=by simpa using hc1
     have wk:=zW k (by omega);obtain⟨o,go⟩:∃o,Z[k]?=some o:=⟨_,List.getElem?_eq_getElem hkl⟩;have ff:Fits (k+1) 9:=fits_of (by omega) (by omega);have hml:min k M.length=k:=by omega
     have gM:M[k]?=some o.Mi:=by rw[hM,List.getElem?_map,go];rfl
     refine awp_skip ?_;simp only[zT,reduceIte,Nat.reduceEqDiff];refine hK3 _ _ ?_;refine awp_prune [12,13,14,15] ?_;simp only[zP,Nat.reduceEqDiff,reduceIte];refine awp_seq_k fun K4 hK4=>?_;refine awp_block ?_;refine aR fun K hK=>?_;simp -dsimp [go,ff,hml];apply hK;clear hK K;simp only[zT,reduceIte,Nat.reduceEqDiff];refine hK4 _ _ ?_;refine awp_prune [12,13,14,15] ?_;simp only[zP,Nat.reduceEqDiff,reduceIte];refine aR fun K hK=>?_;simp -dsimp [wk];apply hK;clear hK K;simp only[zT,reduceIte,Nat.reduceEqDiff];exact⟨k+1,by omega,by omega,sub_rb [some 0,some 1,some 3] rfl (by simp) (by simp[List.take_add_one,gM])⟩
    ·have hkl:k=M.length:=by have:¬k<Z.length:=(by simpa using hc1);omega
     subst hkl;refine awp_exit ?_;simp only[zT,reduceIte,Nat.reduceEqDiff];refine hK2 _ _ ?_;refine awp_prune [13,14] ?_;simp only[zP,Nat.reduceEqDiff,reduceIte];refine aS fun K hK=>?_;simp -dsimp;apply hK;clear hK K;exact awp_ret (by simp)
def secF (m:Int):Int:=mxI 1 ((m+999).tdiv 1000)
def c1B (p:Plan) (c:Crs):Bool:=wayB p c.W&&(inr c.S.length 2 60&&(decide (c.D.length=c.S.length)&&(decide (at0 c.D 0=0)&&decide (at0 c.D (c.D.length-1)=0))))
def c2B (p:Plan) (c:Crs) (i:Nat):Bool:=inr (at0 c.S i) 1 (begTo p c.W c.W.length)&&(inr (at0 c.D i) 0 600&& !(decide (0<i)&&decide (at0 c.S i≤at0 c.S ((i:Int)-1))))
def crsB (p:Plan) (c:Crs):Bool:=c1B p c&&(List.range c.S.length).all (c2B p c)
def runsO (p:Plan) (l:Lin) (home:Bool):Option (List Int):=if crsB p (l.c home)=true then(runO p (l.c home).W l.t l.st (l.c home).S).map (·.map secF)else none
def runsAV:Option (List Int)→AV
 |none=> .tup [.v (.slice none 0 0),Bo false]
 |some r=> .tup [iL r,Bo true]
theorem c_in7 (x lo hi:Int):PureCall Tryz.prog 65 [I x,I lo,I hi] (Bo (inr x lo hi)):=by
 refine PureCall.of_body Tryz.func65 rfl (by decide) (by simp[Tryz.ntmps65]) ?_;simp only[Tryz.ntmps65,Tryz.results65];refine aS fun K hK=>?_;simp -dsimp;apply hK;clear hK K;refine aS fun K hK=>?_;simp -dsimp;apply hK;clear hK K;exact awp_ret (by simp[inr])
theorem c_rcourse (l:Lin) (home:Bool):PureCall Tryz.prog 149 [l.av,Bo home] (l.c home).av:=by
 cases home
 ·refine PureCall.of_body Tryz.func149 rfl (by decide) (by simp[Tryz.ntmps149]) ?_;simp only[Tryz.ntmps149,Tryz.results149];refine aS fun K hK=>?_;simp -dsimp;apply hK;clear hK K;refine awp_seq_k fun K1 hK1=>?_;refine aS fun K hK=>?_;simp -dsimp;apply hK;clear hK K;refine awp_cond rfl (fun hc0=>?_) (fun hc0=>?_)
  ·simp at hc0
  ·refine awp_skip ?_;simp only[zT,reduceIte,Nat.reduceEqDiff];refine hK1 _ _ ?_;refine awp_prune [2,4] ?_;simp only[zP,Nat.reduceEqDiff,reduceIte];refine aS fun K hK=>?_;simp -dsimp;apply hK;clear hK K;exact awp_ret (by simp[resP,tupOf,Lin.c])
 ·refine PureCall.of_body Tryz.func149 rfl (by decide) (by simp[Tryz.ntmps149]) ?_;simp only[Tryz.ntmps149,Tryz.results149];refine aS fun K hK=>?_;simp -dsimp;apply hK;clear hK K;refine awp_seq_k fun K1 hK1=>?_;refine aS fun K hK=>?_;simp -dsimp;apply hK;clear hK K;refine awp_cond rfl (fun hc0=>?_) (fun hc0=>?_)
  ·refine aS fun K hK=>?_;simp -dsimp;apply hK;clear hK K;exact awp_ret (by simp[resP,tupOf,Lin.c])
  ·simp at hc0
end Go.Mo
end
section
namespace Go.Mo
open Go.AM Go.Cur Go.Proofs
open Go.Tram (Plan Cover validB wayB begTo mvAt movB mLst begTo_bd way_mov way_len len_bd movB_iff c_Valid c_rWay c_rWayLength)
theorem legR_mi {r:Rn} {stop:Int} {add:Lg→Ms→Int→Lg} (hadd:∀o x d,(add o x d).Mi=IntKind.i64.wrap (o.Mi+100)):∀(f:Nat) (x:Ms) (o:Lg) (q:Lg×Ms),0≤o.Mi→o.Mi+100*(f:Int)≤4000000→r.legR stop add f x o=some q→0≤q.1.Mi∧q.1.Mi≤4000000
 |0,x,o,q,h0,h1,h=>by
  rw[Rn.legR]at h
  split at h
  ·cases h
  ·simp only[Option.some.injEq]at h;subst h;exact⟨h0,by simp only;omega⟩
 | f+1,x,o,q,h0,h1,h=>by
  rw[Rn.legR]at h
  split at h
  ·split at h
   ·cases h
   ·split at h
    ·cases h
    ·have hw:IntKind.i64.wrap (o.Mi+100)=o.Mi+100:=wrap_in (by omega) (by omega);exact legR_mi hadd f _ _ q (by rw[hadd,hw];omega) (by rw[hadd,hw];omega) h
  ·simp only[Option.some.injEq]at h;subst h;exact⟨h0,by simp only;omega⟩
theorem legsR_mi {r:Rn} {add:Lg→Ms→Int→Lg} (hadd:∀o x d,(add o x d).Mi=IntKind.i64.wrap (o.Mi+100)):∀(q:List Int) (x:Ms) (z:List Lg×Ms),r.legsR add q x=some z→∀o∈z.1,0≤o.Mi∧o.Mi≤4000000
 |[],x,z,h=>by simp[Rn.legsR]at h;subst h;intro o ho;cases ho
 | s::q,x,z,h=>by
  rw[Rn.legsR]at h
  split at h
  ·cases h
  ·rename_i o y hc;rw[Option.map_eq_some_iff]at h;obtain⟨w,hw,rfl⟩:=h;intro a ha
   rcases List.mem_cons.1 ha with rfl|ha
   ·exact legR_mi hadd 36000 x lg0 _ (by decide) (by decide) hc
   ·exact legsR_mi hadd q _ w hw a ha
theorem runZ_mi {p:Plan} {l:List Mv} {t:Tn} {st:Int} {sp:List Int} {z:List Lg×Ms} (h:runZ p l t st sp=some z):(∀m∈z.1.map (·.Mi),0≤m∧m≤4000000)∧z.1.length+1=sp.length:=by
 unfold runZ at h
 split at h
 ·rename_i hb;refine⟨fun m hm=>?_,?_⟩
  ·obtain⟨o,ho,rfl⟩:=List.mem_map.1 hm;exact legsR_mi (fun _ _ _=>rfl) _ _ _ h o ho
  ·have:=legsR_len _ _ _ _ _ h;rw[List.length_drop]at this;have hn:=(stpB_ok hb).n;omega
 ·cases h
theorem secF_bd {m:Int} (h0:0≤m) (h1:m≤4000000):1≤secF m∧secF m≤4001:=by
 unfold secF mxI;rw[Int.tdiv_eq_ediv_of_nonneg (by omega)]
 split<;>omega
theorem c_rRuns (p:Plan) (l:Lin) (home:Bool) (hv:validB p=true) (hs:LinS l):PureCall Tryz.prog 111 [p.av,l.av,Bo home] (runsAV (runsO p l home)):=by
 have hco:=c_rcourse l home;obtain⟨s1,s2,s3⟩:=hs.c home;have hg:=hs.g;unfold runsO crsB;generalize l.c home=c at*
 have hwy:=c_rWay p c.W hv s1;have hru:=c_rRun p c.W l.t l.st c.S s1 hg s2;have hmi:=fun z (h:runZ p c.W l.t l.st c.S=some z)=>runZ_mi h;generalize hR:runsAV (if (c1B p c&&(List.range c.S.length).all (c2B p c))=true then(runO p c.W l.t l.st c.S).map (·.map secF)else none)=R
 unfold runO at hR;have hml:maxLen=9223372036854775807:=rfl;rw[hml]at hg s2 s3;have wd:IntKind.i64.wrap ((c.D.length:Int)-1)=(c.D.length:Int)-1:=wrap_in (by omega) (by omega);refine PureCall.of_body Tryz.func111 rfl (by decide) (by simp[Tryz.ntmps111]) ?_;simp only[Tryz.ntmps111,Tryz.results111];refine aS fun K hK=>?_;simp -dsimp;apply hK;clear hK K;refine aS fun K hK=>?_;simp -dsimp;refine callK_intro _ (hco) (by simp) ?_;simp -dsimp;apply hK;clear hK K;refine awp_seq_k fun K1 hK1=>?_;refine aS fun K hK=>?_;simp -dsimp [wd];refine callK_intro _ (hwy) (by simp) ?_;simp -dsimp [wd];refine callK_may _ (fun hm=>c_in7 (c.S.length:Int) 2 60) (by simp) ?_;simp -dsimp [wd];refine idxK_intro (nCell (at0 c.D 0)) (fun hm=>by simp[inr_iff]at hm;have g:=at0_nat (l:=c.D) (k:=0) (by omega);simp[g]) ?_;simp -dsimp [wd];refine⟨fun _ h2 h3 _=>by have:=inr_iff.1 h2;omega,?_⟩;refine idxK_intro (nCell (at0 c.D ((c.D.length:Int)-1))) (fun hm=>by simp[inr_iff]at hm;have g:=at0_nat (l:=c.D) (k:=c.D.length-1) (by omega);have ez:((c.D.length-1:Nat):Int)=(c.D.length:Int)-1:=(by omega);rw[ez]at g;simp[g]) ?_;simp -dsimp [wd];apply hK;clear hK K;refine awp_cond rfl (fun hc0=>?_) (fun hc0=>?_)
 ·refine aS fun K hK=>?_;simp -dsimp;apply hK;clear hK K;have h0:c1B p c=false:=by
   rw[Bool.eq_false_iff];intro h;unfold c1B at h;simp only[Bool.and_eq_true,decide_eq_true_eq]at h;obtain⟨a1,a2,a3,a4,a5⟩:=h;rw[a3]at a5;simp[a1,a2,a3,a4,a5]at hc0
  rw[h0,Bool.false_and,if_neg (by simp)]at hR;exact awp_ret (by simp[←hR,runsAV])
 ·have h0:c1B p c=true:=by
   unfold c1B;simp only[Bool.and_eq_true,decide_eq_true_eq];simp at hc0;obtain⟨⟨⟨⟨a1,a2⟩,a3⟩,a4⟩,a5⟩:=hc0;exact⟨a1,a2,by omega,a4,a5⟩
  rw[h0,Bool.true_and]at hR;have h1:=h0;unfold c1B at h1;simp only[Bool.and_eq_true,decide_eq_true_eq,inr_iff]at h1;obtain⟨hw,h2,h3,h4,h5⟩:=h1;have hwl:=c_rWayLength p c.W hv hw;refine awp_skip ?_;simp only[zT,reduceIte,Nat.reduceEqDiff];refine hK1 _ _ ?_;refine awp_prune [3,4,8] ?_;simp only[zP,Nat.reduceEqDiff,reduceIte];refine awp_seq_k fun K2 hK2=>?_;refine aS fun K hK=>?_;simp -dsimp;apply hK;clear hK K;refine awp_block ?_;refine awp_prune [3,4,8,9] ?_;simp only[zP,Nat.reduceEqDiff,reduceIte];refine awp_loop_l [3,4,8] (α:=Nat) (fun k=>[(9,I k)]) (fun _=>[some (.els 2 [p.cells]),some (.els 18 [l.cells]),some (.els 3 [c.cells])]) (fun k=>k≤c.S.length∧(List.range k).all (c2B p c)=true) (fun k=>c.S.length-k) 0 ?_ ?_ ?_
  ·exact⟨Nat.zero_le _,rfl⟩
  ·exact sub_rb [some 0,some 1,some 2] rfl (by simp) (by simp)
  rintro k ⟨k1,k2⟩;simp only[zP,Nat.reduceEqDiff,reduceIte];refine awp_seq_k fun K3 hK3=>?_;refine aS fun K hK=>?_;simp -dsimp;apply hK;clear hK K;refine awp_cond rfl (fun hc1=>?_) (fun hc1=>?_)
  ·have hkl:k<c.S.length:=by simpa using hc1
   have wk:=zW k (by omega);have wj:IntKind.i64.wrap ((k:Int)-1)=(k:Int)-1:=wrap_in (by omega) (by omega);have gS:=at0_nat hkl;have gD:=at0_nat (l:=c.D) (k:=k) (by omega);have hc2e:c2B p c k=(inr (at0 c.S k) 1 (begTo p c.W c.W.length)&&(inr (at0 c.D k) 0 600&& !(decide (0<k)&&decide (at0 c.S k≤at0 c.S ((k:Int)-1))))):=rfl;refine awp_skip ?_;simp only[zT,reduceIte,Nat.reduceEqDiff];refine hK3 _ _ ?_;refine awp_prune [3,4,8,9] ?_;simp only[zP,Nat.reduceEqDiff,reduceIte];refine awp_seq_k fun K4 hK4=>?_;refine awp_block ?_;refine awp_sd mixed rfl fun K hK=>?_;simp -dsimp [wj,gS];refine callK_intro _ (hwl) (by simp) ?_;simp -dsimp [wj,gS];refine callK_intro _ (c_in7 (at0 c.S k) 1 (begTo p c.W c.W.length)) (by simp) ?_;simp -dsimp [wj,gS];refine idxK_intro (nCell (at0 c.D k)) (fun _=>by simp[gD]) ?_;simp -dsimp [wj,gS];refine callK_may _ (fun hm=>c_in7 (at0 c.D k) 0 600) (by simp) ?_;simp -dsimp [wj,gS];refine idxK_intro (nCell (at0 c.S k)) (fun _=>by simp[gS]) ?_;simp -dsimp [wj,gS];refine⟨fun _ _ h=>by omega,?_⟩;refine idxK_intro (nCell (at0 c.S ((k:Int)-1))) (fun hm=>by simp at hm;have g:=at0_nat (l:=c.S) (k:=k-1) (by omega);have ez:((k-1:Nat):Int)=(k:Int)-1:=(by omega);rw[ez]at g;simp[g]) ?_;simp -dsimp [wj,gS];refine hK _ _ _ (by decide+kernel) ?_;clear hK K;refine awp_cond rfl (fun hc2=>?_) (fun hc2=>?_)
   ·have hb:c2B p c k=false:=by
     rw[hc2e]
     revert hc2
     generalize inr (at0 c.S k) 1 (begTo p c.W c.W.length)=b1;generalize inr (at0 c.D k) 0 600=b2;generalize decide (0<k)=b3;generalize decide (at0 c.S k≤at0 c.S ((k:Int)-1))=b4
     cases b1<;>cases b2<;>cases b3<;>cases b4<;>simp
    have hall:(List.range c.S.length).all (c2B p c)=false:=by rw[List.all_eq_false];exact⟨k,List.mem_range.2 hkl,by simp[hb]⟩
    refine aS fun K hK=>?_;simp -dsimp;apply hK;clear hK K;rw[hall,if_neg (by simp)]at hR;exact awp_ret (by simp[←hR,runsAV])
   ·have hb:c2B p c k=true:=by
     rw[hc2e]
     revert hc2
     generalize inr (at0 c.S k) 1 (begTo p c.W c.W.length)=b1;generalize inr (at0 c.D k) 0 600=b2;generalize decide (0<k)=b3;generalize decide (at0 c.S k≤at0 c.S ((k:Int)-1))=b4
     cases b1<;>cases b2<;>cases b3<;>cases b4<;>simp
    refine awp_skip ?_;simp only[zT,reduceIte,Nat.reduceEqDiff];refine hK4 _ _ ?_;refine awp_prune [3,4,8,9] ?_;simp only[zP,Nat.reduceEqDiff,reduceIte];refine aR fun K hK=>?_;simp -dsimp [wk];apply hK;clear hK K;simp only[zT,reduceIte,Nat.reduceEqDiff];exact⟨k+1,⟨by omega,by rw[List.range_succ,List.all_append,k2];simp[hb]⟩,by omega,sub_rb [some 0,some 1,some 2] rfl (by simp) (by simp)⟩
  ·have hkl:k=c.S.length:=by have:¬k<c.S.length:=(by simpa using hc1);omega
   subst hkl;rw[k2,if_pos rfl]at hR;refine awp_exit ?_;simp only[zT,reduceIte,Nat.reduceEqDiff];refine hK2 _ _ ?_;refine awp_prune [3,4,8] ?_;simp only[zP,Nat.reduceEqDiff,reduceIte];have hzz:runZ p c.W l.t l.st c.S=none∨(∃z,runZ p c.W l.t l.st c.S=some z∧z.2.W≤10000000000000000)∨∃z,runZ p c.W l.t l.st c.S=some z∧¬z.2.W≤10000000000000000:=by
    cases runZ p c.W l.t l.st c.S with
    |none=>exact Or.inl rfl
    |some z=>by_cases hzw:z.2.W≤10000000000000000;exact Or.inr (Or.inl ⟨z,rfl,hzw⟩);exact Or.inr (Or.inr ⟨z,rfl,hzw⟩)
   rcases hzz with hz|⟨z,hz,hzw⟩|⟨z,hz,hzw⟩<;>rw[hz]at hru hR<;>simp only[runZAV]at hru<;>(try simp only[decide_eq_true hzw]at hru)<;>(try simp only[decide_eq_false hzw]at hru)
   all_goals try (obtain⟨M,hM⟩:∃M:List Int,M=z.1.map (·.Mi):=⟨_,rfl⟩;rw[←hM]at hru)
   ·refine aS fun K hK=>?_;simp -dsimp;refine callK_intro _ (hru) (by simp) ?_;simp -dsimp;apply hK;clear hK K;refine awp_seq_k fun K5 hK5=>?_;refine aS fun K hK=>?_;simp -dsimp;apply hK;clear hK K;refine awp_cond rfl (fun hc3=>?_) (fun hc3=>?_)
    ·refine aS fun K hK=>?_;simp -dsimp;apply hK;clear hK K;exact awp_ret (by simp[←hR,runsAV])
    ·simp at hc3
   ·refine aS fun K hK=>?_;simp -dsimp;refine callK_intro _ (hru) (by simp) ?_;simp -dsimp;apply hK;clear hK K;refine awp_seq_k fun K6 hK6=>?_;refine aS fun K hK=>?_;simp -dsimp;apply hK;clear hK K;refine awp_cond rfl (fun hc3=>?_) (fun hc3=>?_)
    ·simp at hc3
    ·obtain⟨hmb,hmn⟩:=hmi z hz;rw[←hM]at hmb;have hMl:M.length=z.1.length:=by rw[hM,List.length_map]
     obtain⟨N,hN⟩:∃N:List Int,N=M.map secF:=⟨_,rfl⟩;simp only[if_pos hzw,Option.map_some,runsAV,←hM,←hN]at hR;have hNl:N.length=M.length:=by rw[hN,List.length_map]
     refine awp_skip ?_;simp only[zT,reduceIte,Nat.reduceEqDiff];refine hK6 _ _ ?_;refine awp_prune [10] ?_;simp only[zP,Nat.reduceEqDiff,reduceIte];refine aS fun K hK=>?_;simp -dsimp;apply hK;clear hK K;refine awp_seq_k fun K7 hK7=>?_;refine aS fun K hK=>?_;simp -dsimp;apply hK;clear hK K;refine awp_block ?_;refine awp_prune [10,12,13] ?_;simp only[zP,Nat.reduceEqDiff,reduceIte];refine awp_loop_l [10] (α:=Nat) (fun k=>[(12, .row 3 0 k),(13,I k)]) (fun k=>[some (.els 2 [p.cells]),some (.els 18 [l.cells]),some (.els 3 [c.cells]),some (.els 1 ((N.take k).map nCell))]) (fun k=>k≤M.length) (fun k=>M.length-k) 0 ?_ ?_ ?_
     ·exact Nat.zero_le _
     ·exact(sub_nil 12 1 (by simp)).trans (sub_same (by simp))
     rintro k k1;simp only[zP,Nat.reduceEqDiff,reduceIte];refine awp_seq_k fun K8 hK8=>?_;refine aS fun K hK=>?_;simp -dsimp;apply hK;clear hK K;refine awp_cond rfl (fun hc4=>?_) (fun hc4=>?_)
     ·have hkl:k<M.length:=by simpa using hc4
      have wk:=zW k (by omega);have gM:=at0_nat hkl;have hm:=hmb _ (List.mem_of_getElem? gM);have gN:N[k]?=some (secF (at0 M k)):=by rw[hN,List.getElem?_map,gM];rfl
      have ff:Fits (k+1) 9:=fits_of (by omega) (by omega);have hml':min k M.length=k:=by omega
      have w1:IntKind.i64.wrap (at0 M k+999)=at0 M k+999:=wrap_in (by omega) (by omega);have hq:0≤(at0 M k+999).tdiv 1000∧(at0 M k+999).tdiv 1000≤5000:=by rw[Int.tdiv_eq_ediv_of_nonneg (by omega)];omega
      have w2:IntKind.i64.wrap ((at0 M k+999).tdiv 1000)=(at0 M k+999).tdiv 1000:=wrap_in (by omega) (by omega);have hmx:(if 1<(at0 M k+999).tdiv 1000 then(at0 M k+999).tdiv 1000 else 1)=secF (at0 M k):=rfl;refine awp_skip ?_;simp only[zT,reduceIte,Nat.reduceEqDiff];refine hK8 _ _ ?_;refine awp_prune [10,12,13] ?_;simp only[zP,Nat.reduceEqDiff,reduceIte];refine awp_seq_k fun K9 hK9=>?_;refine awp_block ?_;refine aR fun K hK=>?_;simp -dsimp [gM,w1,w2,hmx,ff,hNl,hml'];apply hK;clear hK K;simp only[zT,reduceIte,Nat.reduceEqDiff];refine hK9 _ _ ?_;refine awp_prune [10,12,13] ?_;simp only[zP,Nat.reduceEqDiff,reduceIte];refine aR fun K hK=>?_;simp -dsimp [wk];apply hK;clear hK K;simp only[zT,reduceIte,Nat.reduceEqDiff];exact⟨k+1,by omega,by omega,sub_rb [some 0,some 1,some 2,some 4] rfl (by simp) (by simp[List.take_add_one,gN])⟩
     ·have hkl:k=M.length:=by have:¬k<M.length:=(by simpa using hc4);omega
      have tN:List.take k (N.map nCell)=N.map nCell:=List.take_of_length_le (by rw[List.length_map];omega);refine awp_exit ?_;simp only[zT,reduceIte,Nat.reduceEqDiff];refine hK7 _ _ ?_;refine awp_prune [12] ?_;simp only[zP,Nat.reduceEqDiff,reduceIte];refine aS fun K hK=>?_;simp -dsimp;apply hK;clear hK K;have hkN:k≤N.length:=by omega
      exact awp_ret (by simp[resP,tupOf,←hR,tN,hkN])
   ·refine aS fun K hK=>?_;simp -dsimp;refine callK_intro _ (hru) (by simp) ?_;simp -dsimp;apply hK;clear hK K;refine awp_seq_k fun K10 hK10=>?_;refine aS fun K hK=>?_;simp -dsimp;apply hK;clear hK K;refine awp_cond rfl (fun hc3=>?_) (fun hc3=>?_)
    ·refine aS fun K hK=>?_;simp -dsimp;apply hK;clear hK K;exact awp_ret (by simp[←hR,runsAV,hzw])
    ·simp at hc3
end Go.Mo
end
section
namespace Go.Mo
open Go.AM Go.Cur Go.Proofs
open Go.Tram (Plan Cover validB wayB begTo mvAt movB mLst begTo_bd way_mov way_len len_bd movB_iff c_Valid)
theorem c_rRunsL (p:Plan) (l:Lin) (home:Bool) (hv:validB p=true) (hs:LinS l) {r:List Int} (hr:runsO p l home=some r):PureCall Tryz.prog 152 [p.av,l.av,Bo home] (iL r):=by
 have hru:=c_rRuns p l home hv hs;rw[hr]at hru;simp only[runsAV]at hru;refine PureCall.of_body Tryz.func152 rfl (by decide) (by simp[Tryz.ntmps152]) ?_;simp only[Tryz.ntmps152,Tryz.results152];refine aS fun K hK=>?_;simp -dsimp;apply hK;clear hK K;refine aS fun K hK=>?_;simp -dsimp;refine callK_intro _ (hru) (by simp) ?_;simp -dsimp;apply hK;clear hK K;refine aS fun K hK=>?_;simp -dsimp;apply hK;clear hK K;exact awp_ret (by simp)
def offA (r D:List Int):Nat→Int
 |0=>0
 |k+1=>offA r D k+at0 r k+at0 D (k+1:Nat)
def offT (r D:List Int) (k:Nat):List Int:=(List.range (k+1)).map (offA r D)
theorem offT_len (r D:List Int) (k:Nat):(offT r D k).length=k+1:=by simp[offT]
theorem offT_s (r D:List Int) (k:Nat):offT r D (k+1)=offT r D k++[offA r D (k+1)]:=by unfold offT;rw[List.range_succ,List.map_append];rfl
theorem offT_get (r D:List Int) {j k:Nat} (h:j≤k):(offT r D k)[j]?=some (offA r D j):=by unfold offT;rw[List.getElem?_map,List.getElem?_range (by omega)];rfl
structure RunB (p:Plan) (l:Lin) (home:Bool) (r:List Int):Prop where
 w:wayB p (l.c home).W=true
 n:2≤(l.c home).S.length∧(l.c home).S.length≤60
 d:(l.c home).D.length=(l.c home).S.length
 rl:r.length+1=(l.c home).S.length
 rb:∀k,k<r.length→1≤at0 r k∧at0 r k≤4001
 db:∀k:Nat,k<(l.c home).S.length→0≤at0 (l.c home).D k∧at0 (l.c home).D k≤600
 z0:at0 (l.c home).D 0=0
 z1:at0 (l.c home).D ((l.c home).D.length-1)=0
 sb:∀k:Nat,k<(l.c home).S.length→1≤at0 (l.c home).S k∧at0 (l.c home).S k≤begTo p (l.c home).W (l.c home).W.length
 su:∀k:Nat,0<k→k<(l.c home).S.length→¬at0 (l.c home).S k≤at0 (l.c home).S ((k:Int)-1)
 run:∃M,runO p (l.c home).W l.t l.st (l.c home).S=some M∧r=M.map secF∧∀m∈M,0≤m∧m≤4000000
theorem runsO_b {p:Plan} {l:Lin} {home:Bool} {r:List Int} (h:runsO p l home=some r):RunB p l home r:=by
 unfold runsO at h
 split at h
 ·rename_i hc;unfold crsB c1B at hc;simp only[Bool.and_eq_true,decide_eq_true_eq,inr_iff,List.all_eq_true,List.mem_range]at hc;obtain⟨⟨a1,a2,a3,a4,a5⟩,a6⟩:=hc;rw[Option.map_eq_some_iff]at h;obtain⟨M,hM,rfl⟩:=h;have hM0:=hM;unfold runO at hM
  split at hM
  ·cases hM
  ·rename_i z hz
   split at hM
   ·rename_i hw;simp only[Option.some.injEq]at hM;obtain⟨m1,m2⟩:=runZ_mi hz;rw[hM]at m1;have hl:M.length=z.1.length:=by rw[←hM,List.length_map]
    have hc2:∀k:Nat,k<(l.c home).S.length→(1≤at0 (l.c home).S k∧at0 (l.c home).S k≤begTo p (l.c home).W (l.c home).W.length)∧(0≤at0 (l.c home).D k∧at0 (l.c home).D k≤600)∧(0<k→¬at0 (l.c home).S k≤at0 (l.c home).S ((k:Int)-1)):=by
     intro k hk;have:=a6 k hk;unfold c2B at this;simp only[Bool.and_eq_true,inr_iff,Bool.not_eq_true',Bool.and_eq_false_iff,decide_eq_false_iff_not]at this;refine⟨this.1,this.2.1,fun h0=>?_⟩
     rcases this.2.2 with h1|h1
     ·exact absurd h0 h1
     ·exact h1
    refine⟨a1,by omega,a3,by rw[List.length_map];omega,fun k hk=>?_,fun k hk=>(hc2 k hk).2.1,a4,a5,fun k hk=>(hc2 k hk).1,fun k h0 hk=>(hc2 k hk).2.2 h0,M,hM0,rfl,m1⟩;rw[List.length_map]at hk;have g:=at0_nat (l:=M) (k:=k) hk;have hm:=m1 _ (List.mem_of_getElem? g);have:at0 (M.map secF) k=secF (at0 M k):=at0_of (by rw[List.getElem?_map,g];rfl);rw[this];exact secF_bd hm.1 hm.2
   ·cases hM
 ·cases h
theorem offA_bd {p:Plan} {l:Lin} {home:Bool} {r:List Int} (h:RunB p l home r):∀k,k≤r.length→0≤offA r (l.c home).D k∧offA r (l.c home).D k≤5000*(k:Int)
 |0,_=>⟨Int.le_refl _,Int.le_refl _⟩
 |k+1,hk=>by
  have h1:=offA_bd h k (by omega);have h2:=h.rb k (by omega);have h3:=h.db (k+1) (by have:=h.rl;omega);rw[offA];omega
theorem c_rOffsets (p:Plan) (l:Lin) (home:Bool) (hv:validB p=true) (hs:LinS l) {r:List Int} (hr:runsO p l home=some r):PureCall Tryz.prog 112 [p.av,l.av,Bo home] (iL (offT r (l.c home).D r.length)):=by
 have hru:=c_rRunsL p l home hv hs hr;have hb:=runsO_b hr;have hob:=fun k hk=>offA_bd hb k hk;have hco:=c_rcourse l home;obtain⟨b1,b2,b3,b4,b5,b6,b7,b8,b9⟩:=hb;generalize l.c home=c at*
 obtain⟨OT,hOT⟩:∃OT,OT=offT r c.D r.length:=⟨_,rfl⟩;rw[←hOT];refine PureCall.of_body Tryz.func112 rfl (by decide) (by simp[Tryz.ntmps112]) ?_;simp only[Tryz.ntmps112,Tryz.results112];refine aS fun K hK=>?_;simp -dsimp;apply hK;clear hK K;refine aS fun K hK=>?_;simp -dsimp;refine callK_intro _ (hco) (by simp) ?_;simp -dsimp;apply hK;clear hK K;refine aS fun K hK=>?_;simp -dsimp;refine callK_intro _ (hru) (by simp) ?_;simp -dsimp;apply hK;clear hK K;refine awp_flag (by decide) ?_;refine aS fun K hK=>?_;simp -dsimp;apply hK;clear hK K;refine awp_seq_k fun K1 hK1=>?_;refine aS fun K hK=>?_;simp -dsimp;apply hK;clear hK K;refine awp_block ?_;refine awp_prune [7,8,9,10] ?_;simp only[zP,Nat.reduceEqDiff,reduceIte];refine awp_loop_l [7,8] (α:=Nat) (fun k=>[(9, .row 3 0 (k+1)),(10,I k)]) (fun k=>[some (.els 2 [p.cells]),some (.els 18 [l.cells]),some (.els 3 [c.cells]),some (.els 1 ((offT r c.D k).map nCell))]) (fun k=>k≤r.length) (fun k=>r.length-k) 0 ?_ ?_ ?_
 ·exact Nat.zero_le _
 ·exact sub_rb [some 0,some 1,some 2,some 3] rfl (by simp) (by simp[offT,offA])
 rintro k k1;simp only[zP,Nat.reduceEqDiff,reduceIte];refine awp_seq_k fun K2 hK2=>?_;refine aS fun K hK=>?_;simp -dsimp;apply hK;clear hK K;refine awp_cond rfl (fun hc0=>?_) (fun hc0=>?_)
 ·have hkl:k<r.length:=by simpa using hc0
  have wk:=zW k (by omega);have k0:(0:Int)≤(k:Int)+1:=by omega
  have gr:=at0_nat hkl;have ek:((k+1:Nat):Int)=(k:Int)+1:=by omega
  have gD:=at0_nat (l:=c.D) (k:=k+1) (by omega);rw[ek]at gD;have gO:=offT_get r c.D (Nat.le_refl k);have hol:=offT_len r c.D k;have hos:=offT_s r c.D k;have ho1:=hob k (by omega);have hr1:=b5 k hkl;have hd1:=b6 (k+1) (by omega);rw[ek]at hd1;have hoe:offA r c.D (k+1)=offA r c.D k+at0 r k+at0 c.D ((k:Int)+1):=rfl;have tO:List.take (k+1) ((offT r c.D k).map nCell)=(offT r c.D k).map nCell:=List.take_of_length_le (by rw[List.length_map];omega);have w1:IntKind.i64.wrap (offA r c.D k+at0 r k)=offA r c.D k+at0 r k:=wrap_in (by omega) (by omega);have w2:IntKind.i64.wrap (offA r c.D k+at0 r k+at0 c.D ((k:Int)+1))=offA r c.D (k+1):=by rw[hoe];exact wrap_in (by omega) (by omega)
  have ff:Fits (k+1+1) 9:=fits_of (by omega) (by omega);generalize offT r c.D k=O at gO hol hos tO ⊢;have gOe:∀h,O[k]'h=offA r c.D k:=fun h=>(List.getElem_eq_iff h).2 gO;refine awp_skip ?_;simp only[zT,reduceIte,Nat.reduceEqDiff];refine hK2 _ _ ?_;refine awp_prune [7,8,9,10] ?_;simp only[zP,Nat.reduceEqDiff,reduceIte];refine awp_seq_k fun K3 hK3=>?_;refine awp_block ?_;refine awp_draw mixed rfl fun K hK=>?_;simp -dsimp [wk,k0,gr,gD,gO,gOe,w1,w2,ff,hol];refine hK _ _ _ (by decide+kernel) ?_;clear hK K;simp only[zT,reduceIte,Nat.reduceEqDiff];refine hK3 _ _ ?_;refine awp_prune [7,8,9,10] ?_;simp only[zP,Nat.reduceEqDiff,reduceIte];refine aR fun K hK=>?_;simp -dsimp [wk];apply hK;clear hK K;simp only[zT,reduceIte,Nat.reduceEqDiff];exact⟨k+1,by omega,by omega,sub_rb [some 0,some 1,some 2,some 4] rfl (by simp) (by simp[tO,hos])⟩
 ·have hkl:k=r.length:=by have:¬k<r.length:=(by simpa using hc0);omega
  subst hkl;have hol:=offT_len r c.D r.length;have tO:List.take (r.length+1) ((offT r c.D r.length).map nCell)=(offT r c.D r.length).map nCell:=List.take_of_length_le (by rw[List.length_map];omega);rw[←hOT]at hol tO ⊢;refine awp_exit ?_;simp only[zT,reduceIte,Nat.reduceEqDiff];refine hK1 _ _ ?_;refine awp_prune [9] ?_;simp only[zP,Nat.reduceEqDiff,reduceIte];refine aS fun K hK=>?_;simp -dsimp;apply hK;clear hK K;exact awp_ret (by simp[resP,tupOf,tO,hol])
def sideB (p:Plan) (l:Lin) (home:Bool):Bool:=match runsO p l home with
 |none=>false
 |some r=>decide (offA r (l.c home).D r.length≤50000)
def lineB (p:Plan) (l:Lin):Bool:=inr l.la 0 3600&&(sideB p l false&&sideB p l true)
theorem c_rLine (p:Plan) (l:Lin) (hv:validB p=true) (hs:LinS l):PureCall Tryz.prog 66 [p.av,l.av] (Bo (lineB p l)):=by
 have hla:=c_in7 l.la 0 3600;generalize hR:lineB p l=R;unfold lineB at hR;refine PureCall.of_body Tryz.func66 rfl (by decide) (by simp[Tryz.ntmps66]) ?_;simp only[Tryz.ntmps66,Tryz.results66];refine aS fun K hK=>?_;simp -dsimp;apply hK;clear hK K;refine awp_seq_k fun K1 hK1=>?_;refine aS fun K hK=>?_;simp -dsimp;refine callK_intro _ (hla) (by simp) ?_;simp -dsimp;apply hK;clear hK K;refine awp_cond rfl (fun hc0=>?_) (fun hc0=>?_)
 ·have h0:inr l.la 0 3600=false:=by simpa using hc0
  rw[h0,Bool.false_and]at hR;refine aS fun K hK=>?_;simp -dsimp;apply hK;clear hK K;exact awp_ret (by simp[←hR])
 ·have h0:inr l.la 0 3600=true:=by simpa using hc0
  rw[h0,Bool.true_and]at hR;refine awp_skip ?_;simp only[zT,reduceIte,Nat.reduceEqDiff];refine hK1 _ _ ?_;refine awp_prune [2,3] ?_;simp only[zP,Nat.reduceEqDiff,reduceIte];refine awp_seq_k fun K2 hK2=>?_;refine aS fun K hK=>?_;simp -dsimp;apply hK;clear hK K;refine awp_block ?_;refine awp_prune [2,3,5] ?_;simp only[zP,Nat.reduceEqDiff,reduceIte];refine awp_loop_l [2,3] (α:=Nat) (fun k=>[(5,I k)]) (fun _=>[some (.els 2 [p.cells]),some (.els 18 [l.cells])]) (fun k=>k≤2∧(1≤k→sideB p l false=true)∧(2≤k→sideB p l true=true)) (fun k=>2-k) 0 ?_ ?_ ?_
  ·exact⟨by omega,by omega,by omega⟩
  ·exact sub_rb [some 0,some 1] rfl (by simp) (by simp)
  rintro k ⟨k1,k2,k3⟩;simp only[zP,Nat.reduceEqDiff,reduceIte];refine awp_seq_k fun K3 hK3=>?_;refine aS fun K hK=>?_;simp -dsimp;apply hK;clear hK K;refine awp_cond rfl (fun hc1=>?_) (fun hc1=>?_)
  ·have hkl:k<2:=by have h:=(by simpa using hc1:(k:Int)<2);omega
   have wk:=zW k (by omega);obtain⟨b,hb⟩:∃b,b=((k:Int)==1):=⟨_,rfl⟩;have hru:=c_rRuns p l b hv hs;have hkb:sideB p l b=false→(sideB p l false&&sideB p l true)=false:=fun h=>by cases b<;>simp[h]
   have hkt:sideB p l b=true→(1≤k+1→sideB p l false=true)∧(2≤k+1→sideB p l true=true):=fun h=>by
    rcases Nat.eq_zero_or_pos k with h0|h0
    ·subst h0;have:b=false:=hb;subst this;exact⟨fun _=>h,by omega⟩
    ·have:k=1:=by omega
     subst this;have:b=true:=hb;subst this;exact⟨fun _=>k2 (by omega),fun _=>h⟩
   unfold sideB at hkb hkt;refine awp_skip ?_;simp only[zT,reduceIte,Nat.reduceEqDiff];refine hK3 _ _ ?_;refine awp_prune [2,3,5] ?_;simp only[zP,Nat.reduceEqDiff,reduceIte];refine awp_seq_k fun K4 hK4=>?_;refine awp_block ?_;refine awp_seq_k fun K5 hK5=>?_
   rcases hro:runsO p l b with _|r<;>rw[hro]at hru hkb hkt<;>simp only[runsAV]at hru hkb hkt
   ·refine aS fun K hK=>?_;simp -dsimp [←hb];refine callK_intro _ (hru) (by simp) ?_;simp -dsimp [←hb];apply hK;clear hK K;refine aS fun K hK=>?_;simp -dsimp;apply hK;clear hK K;refine awp_cond rfl (fun hc2=>?_) (fun hc2=>?_)
    ·refine aS fun K hK=>?_;simp -dsimp;apply hK;clear hK K;have:=hkb trivial;unfold sideB at hR;rw[this]at hR;exact awp_ret (by simp[←hR])
    ·simp at hc2
   ·refine aS fun K hK=>?_;simp -dsimp [←hb];refine callK_intro _ (hru) (by simp) ?_;simp -dsimp [←hb];apply hK;clear hK K;refine aS fun K hK=>?_;simp -dsimp;apply hK;clear hK K;refine awp_cond rfl (fun hc2=>?_) (fun hc2=>?_)
    ·simp at hc2
    ·have hof:=c_rOffsets p l b hv hs hro;have hol:=offT_len r (l.c b).D r.length;have gz:=offT_get r (l.c b).D (Nat.le_refl r.length);have hrb:=runsO_b hro;have hrl:=hrb.rl;have hrn:=hrb.n;generalize offT r (l.c b).D r.length=O at hof hol gz;have wz:IntKind.i64.wrap ((O.length:Int)-1)=(O.length:Int)-1:=wrap_in (by omega) (by omega);have l1:(1:Int)≤O.length:=by omega
     have gze:∀h,O[r.length]'h=offA r (l.c b).D r.length:=fun h=>(List.getElem_eq_iff h).2 gz;have hO1:O.length-1=r.length:=by omega
     refine awp_skip ?_;simp only[zT,reduceIte,Nat.reduceEqDiff];refine hK5 _ _ ?_;refine awp_prune [2,3,5] ?_;simp only[zP,Nat.reduceEqDiff,reduceIte];refine aS fun K hK=>?_;simp -dsimp [←hb];refine callK_intro _ (hof) (by simp) ?_;simp -dsimp [←hb];apply hK;clear hK K;refine aS fun K hK=>?_;simp -dsimp [wz,l1,gz,gze,hO1];apply hK;clear hK K;refine awp_cond rfl (fun hc3=>?_) (fun hc3=>?_)
     ·have hgt:¬offA r (l.c b).D r.length≤50000:=by have h:=(by simpa using hc3:50000<offA r (l.c b).D r.length);omega
      have:=hkb (decide_eq_false hgt);unfold sideB at hR;rw[this]at hR;refine aS fun K hK=>?_;simp -dsimp;apply hK;clear hK K;exact awp_ret (by simp[←hR])
     ·have hle:offA r (l.c b).D r.length≤50000:=by have h:¬50000<offA r (l.c b).D r.length:=(by simpa using hc3);omega
      refine awp_skip ?_;simp only[zT,reduceIte,Nat.reduceEqDiff];refine hK4 _ _ ?_;refine awp_prune [2,3,5] ?_;simp only[zP,Nat.reduceEqDiff,reduceIte];refine aR fun K hK=>?_;simp -dsimp [wk];apply hK;clear hK K;simp only[zT,reduceIte,Nat.reduceEqDiff];exact⟨k+1,⟨by omega,hkt (decide_eq_true hle)⟩,by omega,sub_rb [some 0,some 1] rfl (by simp) (by simp)⟩
  ·have hkl:2≤k:=by have h:¬(k:Int)<2:=(by simpa using hc1);omega
   rw[k2 (by omega),k3 hkl]at hR;refine awp_exit ?_;simp only[zT,reduceIte,Nat.reduceEqDiff];refine hK2 _ _ ?_;refine awp_prune [] ?_;simp only[zP,Nat.reduceEqDiff,reduceIte];refine aS fun K hK=>?_;simp -dsimp;apply hK;clear hK K;exact awp_ret (by simp[←hR])
def srv1B (p:Plan) (s:Srv) (i:Nat):Bool:=lineB p (s.L.getD i default)&&(inr (at0 s.H i) 30 7200&&inr (at0 s.O i) 0 (IntKind.i64.wrap (at0 s.H i-1)))
def srvB (p:Plan) (s:Srv):Bool:=(validB p&&(inr s.L.length 1 20&&(decide (s.H.length=s.L.length)&&decide (s.O.length=s.L.length))))&&(List.range s.L.length).all (srv1B p s)
theorem c_rService (p:Plan) (s:Srv) (hs:∀l∈s.L,LinS l) (h1:s.L.length≤maxLen) (h2:s.H.length≤maxLen) (h3:s.O.length≤maxLen):PureCall Tryz.prog 22 [p.av,s.av] (Bo (srvB p s)):=by
 have hva:=c_Valid p;generalize hR:srvB p s=R;unfold srvB at hR;refine PureCall.of_body Tryz.func22 rfl (by decide) (by simp[Tryz.ntmps22]) ?_;simp only[Tryz.ntmps22,Tryz.results22];refine aS fun K hK=>?_;simp -dsimp;apply hK;clear hK K;refine awp_seq_k fun K1 hK1=>?_;refine aS fun K hK=>?_;simp -dsimp;refine callK_intro _ (hva) (by simp) ?_;simp -dsimp;refine callK_may _ (fun hm=>c_in7 (s.L.length:Int) 1 20) (by simp) ?_;simp -dsimp;apply hK;clear hK K;refine awp_cond rfl (fun hc0=>?_) (fun hc0=>?_)
 ·have h0:(validB p&&(inr s.L.length 1 20&&(decide (s.H.length=s.L.length)&&decide (s.O.length=s.L.length))))=false:=by
   rw[Bool.eq_false_iff];intro h;simp only[Bool.and_eq_true,decide_eq_true_eq]at h;obtain⟨a1,a2,a3,a4⟩:=h;simp[a1,a2,a3,a4]at hc0
  rw[h0,Bool.false_and]at hR;refine aS fun K hK=>?_;simp -dsimp;apply hK;clear hK K;exact awp_ret (by simp[←hR])
 ·have h0:(validB p=true∧inr s.L.length 1 20=true)∧s.H.length=s.L.length∧s.O.length=s.L.length:=by
   simp at hc0;obtain⟨⟨⟨a1,a2⟩,a3⟩,a4⟩:=hc0;exact⟨⟨a1,a2⟩,by omega,by omega⟩
  obtain⟨⟨hv,hn⟩,e1,e2⟩:=h0;rw[hv,hn,decide_eq_true e1,decide_eq_true e2,Bool.true_and,Bool.true_and,Bool.true_and,Bool.true_and]at hR;rw[inr_iff]at hn;refine awp_skip ?_;simp only[zT,reduceIte,Nat.reduceEqDiff];refine hK1 _ _ ?_;refine awp_prune [2,3] ?_;simp only[zP,Nat.reduceEqDiff,reduceIte];refine awp_seq_k fun K2 hK2=>?_;refine aS fun K hK=>?_;simp -dsimp;apply hK;clear hK K;refine awp_block ?_;refine awp_prune [2,3,5] ?_;simp only[zP,Nat.reduceEqDiff,reduceIte];refine awp_loop_l [2,3] (α:=Nat) (fun k=>[(5,I k)]) (fun _=>[some (.els 2 [p.cells]),some (.els 3 [s.cells])]) (fun k=>k≤s.L.length∧(List.range k).all (srv1B p s)=true) (fun k=>s.L.length-k) 0 ?_ ?_ ?_
  ·exact⟨Nat.zero_le _,rfl⟩
  ·exact sub_rb [some 0,some 1] rfl (by simp) (by simp)
  rintro k ⟨k1,k2⟩;simp only[zP,Nat.reduceEqDiff,reduceIte];refine awp_seq_k fun K3 hK3=>?_;refine aS fun K hK=>?_;simp -dsimp;apply hK;clear hK K;refine awp_cond rfl (fun hc1=>?_) (fun hc1=>?_)
  ·have hkl:k<s.L.length:=by simpa using hc1
   have wk:=zW k (by omega);obtain⟨l,gl⟩:∃l,s.L[k]?=some l:=⟨_,List.getElem?_eq_getElem hkl⟩;have gH:=at0_nat (l:=s.H) (k:=k) (by omega);have gO:=at0_nat (l:=s.O) (k:=k) (by omega);have hli:=c_rLine p l hv (hs l (List.mem_of_getElem? gl));have hse:srv1B p s k=(lineB p l&&(inr (at0 s.H k) 30 7200&&inr (at0 s.O k) 0 (IntKind.i64.wrap (at0 s.H k-1)))):=by unfold srv1B;rw[List.getD_eq_getElem?_getD,gl];rfl
   refine awp_skip ?_;simp only[zT,reduceIte,Nat.reduceEqDiff];refine hK3 _ _ ?_;refine awp_prune [2,3,5] ?_;simp only[zP,Nat.reduceEqDiff,reduceIte];refine awp_seq_k fun K4 hK4=>?_;refine awp_block ?_;refine awp_sd mixed rfl fun K hK=>?_;simp -dsimp [gl];refine callK_intro _ (hli) (by simp) ?_;simp -dsimp [gl];refine idxK_intro (nCell (at0 s.H k)) (fun _=>by simp[gH]) ?_;simp -dsimp [gl];refine callK_may _ (fun hm=>c_in7 (at0 s.H k) 30 7200) (by simp) ?_;simp -dsimp [gl];refine idxK_intro (nCell (at0 s.O k)) (fun _=>by simp[gO]) ?_;simp -dsimp [gl];refine idxK_intro (nCell (at0 s.H k)) (fun _=>by simp[gH]) ?_;simp -dsimp [gl];refine callK_may _ (fun hm=>c_in7 (at0 s.O k) 0 (IntKind.i64.wrap (at0 s.H k-1))) (by simp) ?_;simp -dsimp [gl];refine hK _ _ _ (by decide+kernel) ?_;clear hK K;refine awp_cond rfl (fun hc2=>?_) (fun hc2=>?_)
   ·have hb:srv1B p s k=false:=by
     rw[hse]
     revert hc2
     generalize lineB p l=b1;generalize inr (at0 s.H k) 30 7200=b2;generalize inr (at0 s.O k) 0 (IntKind.i64.wrap (at0 s.H k-1))=b3
     cases b1<;>cases b2<;>cases b3<;>simp
    have hall:(List.range s.L.length).all (srv1B p s)=false:=by rw[List.all_eq_false];exact⟨k,List.mem_range.2 hkl,by simp[hb]⟩
    rw[hall]at hR;refine aS fun K hK=>?_;simp -dsimp;apply hK;clear hK K;exact awp_ret (by simp[←hR])
   ·have hb:srv1B p s k=true:=by
     rw[hse]
     revert hc2
     generalize lineB p l=b1;generalize inr (at0 s.H k) 30 7200=b2;generalize inr (at0 s.O k) 0 (IntKind.i64.wrap (at0 s.H k-1))=b3
     cases b1<;>cases b2<;>cases b3<;>simp
    refine awp_skip ?_;simp only[zT,reduceIte,Nat.reduceEqDiff];refine hK4 _ _ ?_;refine awp_prune [2,3,5] ?_;simp only[zP,Nat.reduceEqDiff,reduceIte];refine aR fun K hK=>?_;simp -dsimp [wk];apply hK;clear hK K;simp only[zT,reduceIte,Nat.reduceEqDiff];exact⟨k+1,⟨by omega,by rw[List.range_succ,List.all_append,k2];simp[hb]⟩,by omega,sub_rb [some 0,some 1] rfl (by simp) (by simp)⟩
  ·have hkl:k=s.L.length:=by have:¬k<s.L.length:=(by simpa using hc1);omega
   subst hkl;rw[k2]at hR;refine awp_exit ?_;simp only[zT,reduceIte,Nat.reduceEqDiff];refine hK2 _ _ ?_;refine awp_prune [] ?_;simp only[zP,Nat.reduceEqDiff,reduceIte];refine aS fun K hK=>?_;simp -dsimp;apply hK;clear hK K;exact awp_ret (by simp[←hR])
end Go.Mo
end
section
namespace Go.Mo
open Go.AM Go.Cur Go.Proofs
open Go.Tram (Plan Cover validB wayB begTo mvAt movB mLst begTo_bd way_mov way_len len_bd movB_iff c_tWayLength_t)
theorem c_mRun1 (o:Lg):PureCall Tryz.prog 68 [o.av] (I o.Mi):=by
 refine PureCall.of_body Tryz.func68 rfl (by decide) (by simp[Tryz.ntmps68]) ?_;simp only[Tryz.ntmps68,Tryz.results68];refine aS fun K hK=>?_;simp -dsimp;apply hK;clear hK K;refine aS fun K hK=>?_;simp -dsimp;apply hK;clear hK K;exact awp_ret (by simp)
theorem c_fields (L:List Lg) (hn:L.length≤100000):PureCall Tryz.prog 67 [.lst 10 (L.map Lg.cells), .clo 68 []] (iL (L.map (·.Mi))):=by
 obtain⟨M,hM⟩:∃M:List Int,M=L.map (·.Mi):=⟨_,rfl⟩
 have hMl:M.length=L.length:=by rw[hM,List.length_map]
 rw[←hM];refine PureCall.of_body Tryz.func67 rfl (by decide) (by simp[Tryz.ntmps67]) ?_;simp only[Tryz.ntmps67,Tryz.results67];refine aS fun K hK=>?_;simp -dsimp;apply hK;clear hK K;refine aS fun K hK=>?_;simp -dsimp;apply hK;clear hK K;refine awp_seq_k fun K1 hK1=>?_;refine aS fun K hK=>?_;simp -dsimp;apply hK;clear hK K;refine awp_block ?_;refine awp_prune [1,5,8,9,10] ?_;simp only[zP,Nat.reduceEqDiff,reduceIte];refine awp_loop_l [1,8,9] (α:=Nat) (fun k=>[(5, .row 0 0 k),(10,I k)]) (fun k=>[some (.els 1 ((M.take k).map nCell))]) (fun k=>k≤L.length) (fun k=>L.length-k) 0 ?_ ?_ ?_
 ·exact Nat.zero_le _
 ·exact(sub_nil 5 1 (by simp)).trans (sub_same (by simp))
 rintro k k1;simp only[zP,Nat.reduceEqDiff,reduceIte];refine aS fun K hK=>?_;simp -dsimp;apply hK;clear hK K;refine awp_seq_k fun K2 hK2=>?_;refine awp_cond rfl (fun hc0=>?_) (fun hc0=>?_)
 ·have hkl:k<L.length:=by simpa using hc0
  have wk:=zW k (by omega);obtain⟨o,go⟩:∃o,L[k]?=some o:=⟨_,List.getElem?_eq_getElem hkl⟩;have gM:M[k]?=some o.Mi:=by rw[hM,List.getElem?_map,go];rfl
  have ff:Fits (k+1) 9:=fits_of (by omega) (by omega);have hml:min k M.length=k:=by omega
  have h1:=c_mRun1 o;refine awp_skip ?_;simp only[zT,reduceIte,Nat.reduceEqDiff];refine hK2 _ _ ?_;refine awp_prune [1,5,8,9,10] ?_;simp only[zP,Nat.reduceEqDiff,reduceIte];refine awp_seq_k fun K3 hK3=>?_;refine awp_block ?_;refine aS fun K hK=>?_;simp -dsimp [go];apply hK;clear hK K;refine aR fun K hK=>?_;simp -dsimp [ff,hml];refine callK_intro _ (h1) (by simp) ?_;simp -dsimp [ff,hml];apply hK;clear hK K;simp only[zT,reduceIte,Nat.reduceEqDiff];refine hK3 _ _ ?_;refine awp_prune [1,5,8,9,10] ?_;simp only[zP,Nat.reduceEqDiff,reduceIte];refine aR fun K hK=>?_;simp -dsimp [wk];apply hK;clear hK K;simp only[zT,reduceIte,Nat.reduceEqDiff];exact⟨k+1,by omega,by omega,sub_rb [some 2] rfl (by simp) (by simp[List.take_add_one,gM])⟩
 ·have hkl:k=L.length:=by have:¬k<L.length:=(by simpa using hc0);omega
  have tM:List.take k (M.map nCell)=M.map nCell:=List.take_of_length_le (by rw[List.length_map];omega);have hkM:k≤M.length:=by omega
  refine awp_exit ?_;simp only[zT,reduceIte,Nat.reduceEqDiff];refine hK1 _ _ ?_;refine awp_prune [5] ?_;simp only[zP,Nat.reduceEqDiff,reduceIte];refine aS fun K hK=>?_;simp -dsimp;apply hK;clear hK K;exact awp_ret (by simp[resP,tupOf,tM,hkM])
theorem runO_legs {p:Plan} {l:List Mv} {t:Tn} {st:Int} {sp M:List Int} (h:runO p l t st sp=some M):BegOk p l t st sp∧∃L,(runOf p l t st sp).legsN (sp.drop 1) (runOf p l t st sp).x0=some L∧L.map (·.Mi)=M:=by
 unfold runO runZ at h
 split at h
 ·cases h
 ·rename_i z hz
  split at hz
  ·rename_i hb
   split at h
   ·rename_i hw;simp only[Option.some.injEq]at h;have hbg:=stpB_ok hb;refine⟨hbg,?_⟩;have hok:=runOf_ok hbg;have hB:=okT_b hbg.ok hbg.s0 hbg.s1;have hm:=hB.ma;have hn:=hbg.n;have e0:((0:Nat):Int)=0:=rfl;have hb0:=hbg.bd (i:=0) (by omega);rw[e0]at hb0;have hlen:1≤t.Length:=hok.len.1;have hq1:=Int.mul_le_mul (a:=10*t.Mass) (b:=at0 sp 0) (c:=800000) (d:=62000000000) (by omega) hb0.2 (by omega) (by omega);have hq0:=Int.mul_nonneg (a:=10*t.Mass) (b:=at0 sp 0) (by omega) (by omega);have hx0:(runOf p l t st sp).x0=⟨0,10*t.Mass*at0 sp 0⟩:=rfl;have hpl0:plF t (⟨0,10*t.Mass*at0 sp 0⟩:Ms)=at0 sp 0:=by unfold plF;exact Int.mul_tdiv_cancel_left _ (by omega)
    have hmono:(sp.drop 1).Pairwise (· ≤ ·)∧∀s∈sp.drop 1,at0 sp 0≤s:=by
     constructor
     ·rw[List.pairwise_iff_getElem];intro i j hi hj hij;rw[List.length_drop]at hi hj;have:=hbg.mono (j+1) (i+1) (by omega) (by omega);rw[List.getElem_drop,List.getElem_drop];rw[at0_of (List.getElem?_eq_getElem (show i+1<sp.length by omega)),at0_of (List.getElem?_eq_getElem (show j+1<sp.length by omega))]at this;simp only[Nat.add_comm 1];exact this
     ·intro s hs;obtain⟨j,hj⟩:=List.getElem?_of_mem hs;rw[List.getElem?_drop]at hj;have hjl:=(List.getElem?_eq_some_iff.1 hj).1;have:=hbg.mono (1+j) 0 (by omega) hjl
      rwa [at0_of hj]at this
    rw[←h];refine legsR_N hok (add:=addR (runOf p l t st sp)) (fun _ _ _=>rfl) _ _ z ?_ ?_ ?_ hmono.1 hz hw
    ·rw[hx0];exact⟨⟨Int.le_refl _,by show 0≤25000*t.Mass;omega⟩,⟨hq0,by show 10*t.Mass*at0 sp 0≤_;omega⟩⟩
    ·rw[hx0];show 10*t.Mass*at0 sp 0≤_;omega
    ·intro s hs;rw[hx0];show plF t _≤s;rw[hpl0];exact hmono.2 s hs
   ·cases h
  ·cases hz
theorem legsN_len (r:Rn):∀(q:List Int) (x:Ms) (L:List Lg),r.legsN q x=some L→L.length=q.length
 |[],x,L,h=>by simp[Rn.legsN]at h;subst h;rfl
 |s::q,x,L,h=>by
  rw[Rn.legsN]at h
  split at h
  ·cases h
  ·rw[Option.map_eq_some_iff]at h;obtain⟨w,hw,rfl⟩:=h;simp[legsN_len r q _ w hw]
theorem c_mRun (p:Plan) (l:List Mv) (t:Tn) (st:Int) (sp M:List Int) (h:runO p l t st sp=some M):PureCall Tryz.prog 24 [p.av,mLst l,t.av,I st,iL sp] (.tup [iL M,I 0]):=by
 obtain⟨hbg,L,hL,hm⟩:=runO_legs h;have hdr:=c_Drive p l t st sp hbg;have hn:=hbg.n;have hll:=legsN_len _ _ _ _ hL;rw[List.length_drop]at hll;rw[hL]at hdr;simp only[drvAV]at hdr;have hf:=c_fields L (by omega);rw[hm]at hf;refine PureCall.of_body Tryz.func24 rfl (by decide) (by simp[Tryz.ntmps24]) ?_;simp only[Tryz.ntmps24,Tryz.results24];refine aS fun K hK=>?_;simp -dsimp;apply hK;clear hK K;refine aS fun K hK=>?_;simp -dsimp;refine callK_intro _ (hdr) (by simp) ?_;simp -dsimp;apply hK;clear hK K;refine awp_seq_k fun K1 hK1=>?_;refine aS fun K hK=>?_;simp -dsimp;apply hK;clear hK K;refine awp_cond rfl (fun hc0=>?_) (fun hc0=>?_)
 ·simp at hc0
 ·refine awp_skip ?_;simp only[zT,reduceIte,Nat.reduceEqDiff];refine hK1 _ _ ?_;refine awp_prune [12] ?_;simp only[zP,Nat.reduceEqDiff,reduceIte];refine aS fun K hK=>?_;simp -dsimp;refine callK_intro _ (hf) (by simp) ?_;simp -dsimp;apply hK;clear hK K;exact awp_ret (by simp)
theorem c_swithin (x lo hi:Int):PureCall Tryz.prog 76 [I x,I lo,I hi] (Bo (inr x lo hi)):=by
 refine PureCall.of_body Tryz.func76 rfl (by decide) (by simp[Tryz.ntmps76]) ?_;simp only[Tryz.ntmps76,Tryz.results76];refine aS fun K hK=>?_;simp -dsimp;apply hK;clear hK K;refine aS fun K hK=>?_;simp -dsimp;apply hK;clear hK K;exact awp_ret (by simp[inr])
def padL (A:List Int) (n:Nat):List Int:=A++List.replicate (n-A.length) 0
theorem padL_set {A:List Int} {n:Nat} (h:A.length<n) (v:Int):((padL A n).map nCell).set A.length (nCell v)=(padL (A++[v]) n).map nCell:=by
 rw[←List.map_set]
 congr 1
 unfold padL;obtain⟨m,hm⟩:∃m,n-A.length=m+1:=⟨n-A.length-1,by omega⟩;rw[hm,List.set_append_right _ _ (Nat.le_refl _),Nat.sub_self,List.replicate_succ,List.set_cons_zero,List.length_append,List.length_singleton,show n-(A.length+1)=m by omega,List.append_assoc]
 rfl
theorem padL_len {A:List Int} {n:Nat} (h:A.length≤n):(padL A n).length=n:=by unfold padL;rw[List.length_append,List.length_replicate];omega
theorem padL_get {A:List Int} {n k:Nat} {x:Int} (h:A[k]?=some x):(padL A n)[k]?=some x:=by
 unfold padL;rw[List.getElem?_append_left (List.getElem?_eq_some_iff.1 h).1,h]
theorem padL_full {A:List Int} {n:Nat} (h:A.length=n):padL A n=A:=by unfold padL;rw[h,Nat.sub_self,List.replicate_zero,List.append_nil]
end Go.Mo
end
section
namespace Go.AM
def adrB (o:Oper):Bool:=match o.guard,o.op with
 |none, .nilCheck _=>true
 |none, .fieldAddr _ _ _=>true
 |_,_=>false
def rdX (al:Nat→Bool) (o:Oper) (e:Eff):List Nat:=if adrB o=true then e.reads.filter fun r=> !al r else e.reads
def trX (al:Nat→Bool) (dsts:List (Option Tmp)) (o:Oper) (e:Eff):Tr:=
 (tmpsOf o.op.operands.toList++(guardOf dsts o.guard++(dstOf o.dst++(readsOf (rdX al o e)++upsOf e.ups))),dstOf o.dst++upsOf e.ups)
def alB (A:List Bool) (r:Nat):Bool:=A.getD r false
def vcOpsX (P:Program) (nt:Nat) (A:List Bool) (dsts:List (Option Tmp)):List Oper→Tm→Hp→List Tr→(Tm→Hp→List Tr→Prop)→Prop
 |[],T,H,tr,K=>K T H tr
 | o::rest,T,H,tr,K=>vcGuard P dsts o (look T) (hget H) H.length (ct (fun e=>
   dstOk nt o.dst∧upsIn H e.ups∧upsOnce e.ups=true∧(e.ups.all fun q=>q.2.isSome)=true∧vcOpsX P nt A dsts rest (putT T o.dst e.av) (happ H e.ups) (tr++[trX (alB A) dsts o e]) K) ⟨⟩)
def StepOkA (al:Nat→Bool) (P:Program) (ops:Array Oper) (o:Oper) (T:Nat→AV) (H:Nat→Option ARow) (N:Nat) (e:Eff):Prop:=
 ∀ (B S0:Nat→Prop) (a:Act) (w:World) (ρ:Nat→Option Loc) (L:Nat→Prop),WF B S0 w ρ L→NewOk L N e→
  (∀t∈o.looksAt ops,RepV w (Sx S0 ρ) ρ L (T t) (a.tmps.getD t undef))→
  (∀r∈e.reads,al r=true→∃l,ρ r=some l)→
  (∀r∈e.reads,al r=false→∀row,H r=some row→∃l,ρ r=some l∧RowRep w (Sx S0 ρ) ρ L l row)→
  ∀(K:Act→World→Prop) (Q:Exit→Act→World→Prop),(∀v w' ρ',Post B S0 w ρ L N e w' ρ' v→K (a.put o.dst v) w')→
   if Region.wanted o (yielded ops a.tmps)then o.wp P a w K Q else K (a.put o.dst undef) w
theorem StepOk.a {al:Nat→Bool} {P:Program} {ops:Array Oper} {o:Oper} {T:Nat→AV} {H:Nat→Option ARow} {N:Nat} {e:Eff} (h:StepOk P ops o T H N e) (hr:e.reads=[]):StepOkA al P ops o T H N e:=
 fun B S0 a w ρ L h1 h2 h3 _ _=>h B S0 a w ρ L h1 h2 h3 (by rw[hr];intro r hm;cases hm)
section
variable {P:Program} {ops:Array Oper} {o:Oper} {T:Nat→AV} {H:Nat→Option ARow} {N:Nat}
theorem adr_row {al:Nat→Bool} {r:Nat} {row:ARow} {x:Operand} {i off i' off':Nat} (hg:o.guard=none) (hmem:x∈o.op.operands) (hH:H r=some row) (hok:okm [] (evT T x)) (hx:(evT T x).strip= .ptr r i off∨∃c,(evT T x).strip= .fptr c r i off)
  (hrun:∀(a:Act) (w:World) (l:Loc) (b:Nat),l.b=some b→a.eval x= .pointer (some ⟨b,l.o+i*l.sz+off,none⟩)→(execOp a.eval o).run P w= .ok (.value (.pointer (some ⟨b,l.o+i'*l.sz+off',none⟩))) w):
  StepOk P ops o T H N ⟨.ptr r i' off',[],[r]⟩∧StepOkA al P ops o T H N ⟨.ptr r i' off',[],[r]⟩:=by
 have key:∀(B S0:Nat→Prop) (a:Act) (w:World) (ρ:Nat→Option Loc) (L:Nat→Prop),WF B S0 w ρ L→(∀t∈o.looksAt ops,RepV w (Sx S0 ρ) ρ L (T t) (a.tmps.getD t undef))→(∃l,ρ r=some l)→
   ∀(K:Act→World→Prop) (Q:Exit→Act→World→Prop),(∀v w' ρ',Post B S0 w ρ L N ⟨.ptr r i' off',[],[r]⟩ w' ρ' v→K (a.put o.dst v) w')→
   if Region.wanted o (yielded ops a.tmps)then o.wp P a w K Q else K (a.put o.dst undef) w:=by
  intro B S0 a w ρ L hw hl hal K Q hK;obtain⟨l,hl'⟩:=hal;have hrep:=strip_rep (m:=[]) rfl hok (eval_rep (o:=o) hl x hmem);have hp:RepV w (Sx S0 ρ) ρ L (.ptr r i off) (a.eval x):=by
   rcases hx with hx|⟨c,hx⟩
   ·rw[hx]at hrep;exact hrep
   ·rw[hx]at hrep
    cases hrep with
    |pure _ _ h=>cases h
    |fptr _ _ _ _ h=>exact h
  rw[if_pos (by simp[Region.wanted,hg])]
  cases hp with
  |pure _ _ h=>cases h
  |ptr _ _ _ y q1 q2 q3=>
   obtain⟨b,hb,hy⟩:=q3 l hl';unfold Oper.wp;rw[hrun a w l b hb hy];refine hK _ _ ρ (post_skip hw (.ptr _ _ _ _ q1 rfl fun l2 hl2=>?_));rw[hl']at hl2;simp only[Option.some.injEq]at hl2;subst hl2;exact⟨b,hb,rfl⟩
 refine⟨fun B S0 a w ρ L hw hN hl hrd=>key B S0 a w ρ L hw hl ?_,fun B S0 a w ρ L hw hN hl h1 h2=>key B S0 a w ρ L hw hl ?_⟩
 ·obtain⟨l,hl',_⟩:=hrd r (by simp) row hH;exact⟨l,hl'⟩
 ·cases hal:al r with
  |true=>exact h1 r (by simp) hal
  |false=>obtain⟨l,hl',_⟩:=h2 r (by simp) hal row hH;exact⟨l,hl'⟩
theorem adr_sound {al:Nat→Bool} {dsts:List (Option Tmp)} (hd:∀j:Nat,dsts[j]?=(ops[j]?).map (·.dst)) (hadr:adrB o=true) {K:Eff→Prop} (h:vcGuard P dsts o T H N K):∃e,StepOk P ops o T H N e∧StepOkA al P ops o T H N e∧K e:=by
 unfold adrB at hadr
 split at hadr
 ·rename_i x hg ho;have hmem:x∈o.op.operands:=by simp[ho,Op.operands]
  have h0:=h;unfold vcGuard at h;rw[hg]at h;simp only[ho,vcStep]at h;obtain⟨hok,h⟩:=h;have hok1:okm [] (evT T x):=okAll_mem hok (List.mem_map_of_mem (by simp[ho,Op.operands]));unfold aop at h;simp only at h;unfold aNil at h;have other:∀{cs:List AV},((evT T x).strip= .iptr cs∨(evT T x).strip= .vptr cs)→∃e,StepOk P ops o T H N e∧StepOkA al P ops o T H N e∧K e:=by
   intro cs hx;have h':vcGuard P dsts o T H N (fun e=>K e∧e.reads=[]):=by
    unfold vcGuard;rw[hg];simp only[ho,vcStep];refine⟨hok,?_⟩;unfold aop;simp only;unfold aNil
    rcases hx with hx|hx
    ·rw[hx]at h ⊢;exact⟨h.1,h.2,rfl⟩
    ·rw[hx]at h ⊢;exact⟨h.1,h.2,rfl⟩
   obtain⟨e,h1,h2,h3⟩:=vcGuard_sound hd h' (fun _=>trivial);exact⟨e,h1,h1.a h3,h2⟩
  have hrun:∀{i off:Nat} (a:Act) (w:World) (l:Loc) (b:Nat),l.b=some b→a.eval x= .pointer (some ⟨b,l.o+i*l.sz+off,none⟩)→(execOp a.eval o).run P w= .ok (.value (.pointer (some ⟨b,l.o+i*l.sz+off,none⟩))) w:=by
   intro i off a w l b hb hy;simp only[execOp,ho,hy]
   rfl
  split at h
  ·rename_i r i off hx
   split at h
   ·rename_i sz es hH;obtain⟨h1,h2⟩:=adr_row (P:=P) (ops:=ops) (N:=N) (al:=al) hg hmem hH hok1 (Or.inl hx) hrun;exact⟨_,h1,h2,h.2⟩
   ·exact h.elim
  ·rename_i c r i off hx
   split at h
   ·rename_i sz es hH;obtain⟨h1,h2⟩:=adr_row (P:=P) (ops:=ops) (N:=N) (al:=al) hg hmem hH hok1 (Or.inr ⟨c,hx⟩) hrun;exact⟨_,h1,h2,h.2⟩
   ·exact h.elim
  ·rename_i cs hx;exact other (Or.inl hx)
  ·rename_i cs hx;exact other (Or.inr hx)
  ·exact h.elim
 ·rename_i s x f hg ho;have hmem:x∈o.op.operands:=by simp[ho,Op.operands]
  unfold vcGuard at h;rw[hg]at h;simp only[ho,vcStep]at h;obtain⟨hok,h⟩:=h;have hok1:okm [] (evT T x):=okAll_mem hok (List.mem_map_of_mem (by simp[ho,Op.operands]));unfold aop at h;simp only at h;have other:∀{cs:List AV},((evT T x).strip= .iptr cs∨(evT T x).strip= .vptr cs)→∃e,StepOk P ops o T H N e∧StepOkA al P ops o T H N e∧K e:=by
   intro cs hx;have h':vcGuard P dsts o T H N (fun e=>K e∧e.reads=[]):=by
    unfold vcGuard;rw[hg];simp only[ho,vcStep];refine⟨hok,?_⟩;unfold aop;simp only;unfold aFieldAddr at h ⊢
    split at h
    ·rename_i z fs ht
     split at h
     ·rename_i off sz t hf
      rcases hx with hx|hx
      ·rw[hx]at h ⊢;exact⟨h.1,h.2.1,h.2.2.1,h.2.2.2,rfl⟩
      ·rw[hx]at h ⊢;exact⟨h.1,h.2.1,h.2.2.1,h.2.2.2,rfl⟩
     ·exact h.elim
    ·exact h.elim
   obtain⟨e,h1,h2,h3⟩:=vcGuard_sound hd h' (fun _=>trivial);exact⟨e,h1,h1.a h3,h2⟩
  have h0:=h;unfold aFieldAddr at h
  split at h
  ·rename_i z fs ht
   split at h
   ·rename_i off sz t hf;obtain⟨hsz,h⟩:=h;obtain⟨info,fa,h1,h2,h3,h4,rfl,_,hall⟩:=tdOf_agg ht;simp only[List.getElem?_map,Option.map_eq_some_iff,Prod.mk.injEq]at hf;obtain⟨fd,hfd,rfl,rfl,rfl⟩:=hf;have hsome:=hall fd (List.mem_of_getElem? hfd);have hfd':fa[f]?=some fd:=by simpa using hfd
    split at h
    ·rename_i r i o' hx
     split at h
     ·rename_i sz' es hH;obtain⟨k1,k2⟩:=adr_row (P:=P) (ops:=ops) (N:=N) (al:=al) (i':=i) (off':=o'+fd.offset) hg hmem hH hok1 (Or.inl hx) (by
       intro a w l b hb hy;simp[execOp,ho,hy,Instr.fieldAt,run_underlying h2,hfd',Instr.sureAddr,fieldPlace_run hsome hsz,Nat.add_assoc])
      exact⟨_,k1,k2,h.2⟩
     ·exact h.elim
    ·rename_i cs hx;exact other (Or.inl hx)
    ·rename_i cs hx;exact other (Or.inr hx)
    ·exact h.elim
   ·exact h.elim
  ·exact h.elim
 ·cases hadr
end
structure LexX (al:Nat→Bool) (P:Program) (nt:Nat) (ops:Array Oper) (dsts:List (Option Tmp)) (l:List Oper) (Ts:Nat→Tm) (Hs:Nat→Hp) (es:Nat→Eff):Prop extends Lex P nt ops dsts l Ts Hs es where
 adr:∀(k:Nat) o,l[k]?=some o→adrB o=true→StepOkA al P ops o (look (Ts k)) (hget (Hs k)) (Hs k).length (es k)
 up:∀(k:Nat) o,l[k]?=some o→∀q∈(es k).ups,q.2.isSome=true
 al:∀r,al r=true→∃row,hget (Hs 0) r=some row
theorem lex_ofX {P:Program} {nt:Nat} {ops:Array Oper} {A:List Bool} {dsts:List (Option Tmp)} (hd:∀j:Nat,dsts[j]?=(ops[j]?).map (·.dst)) {K:Tm→Hp→List Tr→Prop}:∀(l:List Oper) (T:Tm) (H:Hp) (tr:List Tr),vcOpsX P nt A dsts l T H tr K→
  ∃Ts Hs es,Ts 0=T∧Hs 0=H∧Lex P nt ops dsts l Ts Hs es∧(∀(k:Nat) o,l[k]?=some o→adrB o=true→StepOkA (alB A) P ops o (look (Ts k)) (hget (Hs k)) (Hs k).length (es k))∧(∀(k:Nat) o,l[k]?=some o→∀q∈(es k).ups,q.2.isSome=true)∧
   K (Ts l.length) (Hs l.length) (tr++(l.zipIdx.map fun(p:Oper×Nat)=>trX (alB A) dsts p.1 (es p.2)))
 |[],T,H,tr,h=>⟨fun _=>T,fun _=>H,fun _=>⟨.any,[],[]⟩,rfl,rfl,⟨fun k o h=>by simp at h⟩,fun k o h=>by simp at h,fun k o h=>by simp at h,by simpa [vcOpsX]using h⟩
 | o::r,T,H,tr,h=>by
  have hx:∃e,StepOk P ops o (look T) (hget H) H.length e∧(adrB o=true→StepOkA (alB A) P ops o (look T) (hget H) H.length e)∧dstOk nt o.dst∧upsIn H e.ups∧upsOnce e.ups=true∧(e.ups.all fun q=>q.2.isSome)=true∧vcOpsX P nt A dsts r (putT T o.dst e.av) (happ H e.ups) (tr++[trX (alB A) dsts o e]) K:=by
   cases hadr:adrB o with
   |true=>obtain⟨e,k1,k2,k3⟩:=adr_sound (al:=alB A) hd hadr h;exact⟨e,k1,fun _=>k2,k3⟩
   |false=>obtain⟨e,k1,k3⟩:=vcGuard_sound hd h (fun _=>trivial);exact⟨e,k1,fun h=>absurd h (by decide),k3⟩
  obtain⟨e,hst,hsa,h1,h2,h3,hu,h4⟩:=hx;obtain⟨Ts,Hs,es,t0,hh0,hlex,ha,hup,hk⟩:=lex_ofX hd r _ _ _ h4;refine⟨fun k=>match k with|0=>T|k+1=>Ts k,fun k=>match k with|0=>H|k+1=>Hs k,fun k=>match k with|0=>e|k+1=>es k,rfl,rfl,⟨fun k o' hk=>?_⟩,fun k o' hk=>?_,fun k o' hk=>?_,?_⟩
  ·cases k with
   |zero=>
    simp only[List.getElem?_cons_zero,Option.some.injEq]at hk;subst hk;exact⟨hst,h1,h2,h3,t0,hh0⟩
   |succ k=>exact hlex.ok k o' hk
  ·cases k with
   |zero=>
    simp only[List.getElem?_cons_zero,Option.some.injEq]at hk;subst hk;exact hsa
   |succ k=>exact ha k o' hk
  ·cases k with
   |zero=>exact fun q hq=>List.all_eq_true.1 hu q hq
   |succ k=>exact hup k o' hk
  ·simp only[List.length_cons,List.zipIdx_cons,List.map_cons];rw[List.append_assoc]at hk;have:(r.zipIdx (0+1)).map (fun(p:Oper×Nat)=>trX (alB A) dsts p.1 ((fun k=>match k with|0=>e|k+1=>es k:Nat→Eff) p.2))=r.zipIdx.map fun(p:Oper×Nat)=>trX (alB A) dsts p.1 (es p.2):=by
    rw[List.zipIdx_succ,List.map_map];apply List.map_congr_left;intro p _
    rfl
   rw[this];exact hk
section
variable {P:Program} {nt:Nat} {l:List Oper} {dsts:List (Option Tmp)} {Ts:Nat→Tm} {Hs:Nat→Hp} {es:Nat→Eff}
theorem draw_sound_x {al:Nat→Bool} {w0:World} {B S0:Nat→Prop} (hlex:LexX al P nt l.toArray dsts l Ts Hs es) (hdst:l.map (·.dst)=dsts)
    (hB:drawB l (l.zipIdx.map fun(p:Oper×Nat)=>trX al dsts p.1 (es p.2))=true) {Q:Exit→Act→World→Prop}
    (hQ:∀a w,St w0 B S0 nt (Ts l.length) (Hs l.length) a w→Q .normal a w) {a:Act} {w:World} (hs:St w0 B S0 nt (Ts 0) (Hs 0) a w):
    wpAny P .any l.toArray Q l.toArray.size (Array.replicate l.toArray.size false) a w:=by
  obtain⟨hback,hconf⟩:=Bool.and_eq_true_iff.1 hB
  simp only[List.all_eq_true,List.mem_range]at hconf
  have htr:∀(k:Nat) o,l[k]?=some o→((l.zipIdx.map fun(p:Oper×Nat)=>trX al dsts p.1 (es p.2)).getD k ([],[]))=trX al dsts o (es k):=by
    intro k o hk
    rw[List.getD_eq_getElem?_getD,List.getElem?_map,List.getElem?_zipIdx,hk]
    simp
  have hord:∀(j k:Nat) oj ok,j<k→l[j]?=some oj→l[k]?=some ok→(∃x,(x∈(trX al dsts oj (es j)).2∧x∈(trX al dsts ok (es k)).1)∨(x∈(trX al dsts ok (es k)).2∧x∈(trX al dsts oj (es j)).1))→
      ∀D,Down l.toArray D→D k=true→D j=true:=by
    intro j k oj ok hjk hj hk hx D hD hDk
    have hkl:k<l.length:=(List.getElem?_eq_some_iff.1 hk).1
    have h1:=hconf k hkl j hjk
    rw[htr j oj hj,htr k ok hk]at h1
    have hc:confl (trX al dsts oj (es j)) (trX al dsts ok (es k))=true:=by
      simp only[confl,Bool.or_eq_true,List.any_eq_true,List.contains_iff_mem]
      obtain⟨x,hx|hx⟩:=hx
      · exact Or.inl ⟨x,hx.1,hx.2⟩
      · exact Or.inr ⟨x,hx.1,hx.2⟩
    rw[hc]at h1
    simp only[Bool.not_true,Bool.false_or]at h1
    exact clos_spec hD l [] (by simp) (by simp) k j hDk h1
  have hlen : ∀i j,i≤j→j≤l.length→(Hs i).length≤(Hs j).length:=by
    intro i j hij
    induction j with
    | zero => intro _;have:i=0:=by omega
              subst this;exact Nat.le_refl _
    | succ j ih=>
      intro hj
      by_cases e:i=j+1
      · subst e;exact Nat.le_refl _
      · have hjl:j<l.length:=by omega
        obtain⟨_,_,hin,_,_,hh⟩:=hlex.ok j _ (List.getElem?_eq_getElem hjl)
        rw[hh]
        exact Nat.le_trans (ih (by omega) (by omega)) (length_happ _ _ hin).1
  have hupl:∀k r o,k<l.length→(r,o)∈(es k).ups→r<(Hs (k+1)).length:=by
    intro k r o hk hm
    obtain⟨_,_,hin,_,_,hh⟩:=hlex.ok k _ (List.getElem?_eq_getElem hk)
    rw[hh]
    exact(length_happ _ _ hin).2 r o hm
  let vS:(Nat→Bool)→Nat→AV:=fun D t=>lastv D (wS l t) (fun k=>look (Ts k) t) l.length
  let vR:(Nat→Bool)→Nat→Option ARow:=fun D r=>lastv D (wR es r) (fun k=>hget (Hs k) r) l.length
  have keepS:∀t k,k<l.length→wS l t k=false→look (Ts (k+1)) t=look (Ts k) t:=by
    intro t k hk hw
    have ho:=List.getElem?_eq_getElem hk
    obtain⟨_,_,_,_,ht,_⟩:=hlex.ok k _ ho
    rw[ht,look_putT,if_neg]
    intro e
    rw[(wS_iff ho).2 e]at hw
    cases hw
  have keepR:∀r k,k<l.length→wR es r k=false→hget (Hs (k+1)) r=hget (Hs k) r:=by
    intro r k hk hw
    obtain⟨_,_,hin,hon,_,hh⟩:=hlex.ok k _ (List.getElem?_eq_getElem hk)
    rw[hh]
    refine(hget_happ _ _ hin hon r).2 (fun o hm=>?_)
    rw[wR_iff.2 ⟨o,hm⟩]at hw
    cases hw
  let Inv:(Nat→Bool)→Act→World→Prop:=fun D a w=>(∃ρ L,Core B S0 nt w ρ L (vS D) (vR D) a∧∀r,L r→r<(Hs 0).length∨∃k,k<l.length∧D k=true∧wR es r k=true)∧Ext B w0 w
  have step :∀(D:Nat→Bool) (i:Nat) (o:Oper) (a:Act) (w:World) (K:Act→World→Prop),Down l.toArray D→Down l.toArray (fun k=>D k||k==i)→l[i]?=some o→D i=false→Inv D a w→
      (∀a' w',Inv (fun k=>D k||k==i) a' w'→K a' w')→if Region.wanted o (yielded l.toArray a.tmps)then o.wp P a w K Q else K (a.put o.dst undef) w:=by
    intro D i o a w K hD hD' ho hDi hinv hK
    obtain⟨⟨ρ,L,hc,hL⟩,hext⟩:=hinv
    have hil:i<l.length:=(List.getElem?_eq_some_iff.1 ho).1
    obtain⟨hst,hdk,hin,hon,hts,hhs⟩:=hlex.ok i o ho
    have ordS:∀t,2*t∈(trX al dsts o (es i)).1→∀k,k<l.length→wS l t k=true→(D k=true↔k<i):=by
      intro t ht k hk hw
      have hok:=List.getElem?_eq_getElem hk
      have hwd:=(wS_iff hok).1 hw
      have hmem:2*t∈(trX al dsts l[k] (es k)).2:=by simp[trX,hwd,dstOf]
      rcases Nat.lt_trichotomy k i with h|h|h
      · have:=hord k i _ o h hok ho ⟨2*t,Or.inl ⟨hmem,ht⟩⟩ _ hD' (by simp)
        simp only[Bool.or_eq_true,beq_iff_eq]at this
        exact⟨fun _=>h,fun _=>this.resolve_right (by omega)⟩
      · subst h;simp[hDi]
      · refine⟨fun hDk=>?_,fun hlt=>by omega⟩
        have:=hord i k o _ h ho hok ⟨2*t,Or.inr ⟨hmem,ht⟩⟩ _ hD hDk
        rw[hDi]at this;cases this
    have ordR:∀r,2*r+1∈(trX al dsts o (es i)).1→∀k,k<l.length→wR es r k=true→(D k=true↔k<i):=by
      intro r hr k hk hw
      have hok:=List.getElem?_eq_getElem hk
      obtain⟨q,hm⟩:=wR_iff.1 hw
      have hmem:2*r+1∈(trX al dsts l[k] (es k)).2:=by simp only[trX,List.mem_append];exact Or.inr (ups_mem hm)
      rcases Nat.lt_trichotomy k i with h|h|h
      · have:=hord k i _ o h hok ho ⟨2*r+1,Or.inl ⟨hmem,hr⟩⟩ _ hD' (by simp)
        simp only[Bool.or_eq_true,beq_iff_eq]at this
        exact⟨fun _=>h,fun _=>this.resolve_right (by omega)⟩
      · subst h;simp[hDi]
      · refine⟨fun hDk=>?_,fun hlt=>by omega⟩
        have:=hord i k o _ h ho hok ⟨2*r+1,Or.inr ⟨hmem,hr⟩⟩ _ hD hDk
        rw[hDi]at this;cases this
    have hdm:∀t,o.dst=some t→2*t∈(trX al dsts o (es i)).1:=by intro t ht;simp[trX,ht,dstOf]
    have hum:∀r q,(r,q)∈(es i).ups→2*r+1∈(trX al dsts o (es i)).1:=by
      intro r q hm;simp only[trX,List.mem_append];exact Or.inr (Or.inr (Or.inr (Or.inr (ups_mem hm))))
    have hrm:∀r,r∈rdX al o (es i)→2*r+1∈(trX al dsts o (es i)).1:=by
      intro r hm;simp only[trX,List.mem_append];exact Or.inr (Or.inr (Or.inr (Or.inl (reads_mem hm))))
    have hsm:∀t∈o.looksAt l.toArray,2*t∈(trX al dsts o (es i)).1:=by
      intro t ht
      simp only[Oper.looksAt,List.mem_append,List.mem_filterMap]at ht
      simp only[trX,List.mem_append]
      rcases ht with⟨x,hx,hxt⟩|ht
      · left
        cases x with
        |tmp t'=>simp only[Option.some.injEq]at hxt;subst hxt;exact tmps_mem hx
        |_=>cases hxt
      · right;left
        cases hg:o.guard with
        |none=>rw[hg]at ht;cases ht
        | some g=>
          obtain⟨j,want⟩:=g
          rw[hg]at ht
          simp only[Option.mem_toList]at ht
          simp only[guardOf]
          have:dsts[j]?=some (some t):=by
            rw[←hdst,List.getElem?_map]
            cases hj:l[j]? with
            |none=>simp[hj]at ht
            |some oj=>simp[hj]at ht;simp[ht]
          rw[this];simp
    have vS_at:∀t,2*t∈(trX al dsts o (es i)).1→vS D t=look (Ts i) t:=fun t ht=>lastv_eq l.length i (by omega) (keepS t) (ordS t ht)
    have vR_at:∀r,2*r+1∈(trX al dsts o (es i)).1→vR D r=hget (Hs i) r:=fun r hr=>lastv_eq l.length i (by omega) (keepR r) (ordR r hr)
    have hN:NewOk L (Hs i).length (es i):=by
      rintro r hr ⟨q,hm⟩ hLN
      rcases hL r hLN with h|⟨k,hk,hDk,hw⟩
      · have:=hlen 0 i (by omega) (by omega);omega
      · have hlt:=(ordR _ (hum _ q hm) k hk hw).1 hDk
        obtain⟨q',hm'⟩:=wR_iff.1 hw
        have h1:=hupl k _ q' hk hm'
        have h2:=hlen (k+1) i (by omega) (by omega)
        omega
    have hnew:∀(wr:Nat→Bool),(∀k,k<l.length→wr k=true→(D k=true↔k<i))→∀k,k<l.length→wr k=true→((D k||k==i)=true↔k<i+1):=by
      intro wr h k hk hw
      have:=h k hk hw
      simp only[Bool.or_eq_true,beq_iff_eq,this]
      omega
    have vR_al:∀r,al r=true→∃l,ρ r=some l:=by
      intro r hr
      have hsome:∀k,k≤l.length→∃row,hget (Hs k) r=some row:=by
        intro k
        induction k with
        |zero=>intro _;exact hlex.al r hr
        | succ k ih=>
          intro hk
          cases hw:wR es r k with
          |false=>rw[keepR r k (by omega) hw];exact ih (by omega)
          | true=>
            obtain⟨q,hm⟩:=wR_iff.1 hw
            obtain⟨_,_,hin',hon',_,hh'⟩:=hlex.ok k _ (List.getElem?_eq_getElem (show k<l.length by omega))
            rw[hh',(hget_happ _ _ hin' hon' r).1 q hm]
            have:=hlex.up k _ (List.getElem?_eq_getElem (show k<l.length by omega)) _ hm
            exact Option.isSome_iff_exists.1 this
      obtain⟨row,hrow⟩:∃row,vR D r=some row:=by
        have gen:∀n,n≤l.length→∃row,lastv D (wR es r) (fun k=>hget (Hs k) r) n=some row:=by
          intro n
          induction n with
          |zero=>intro _;exact hsome 0 (by omega)
          | succ n ih=>
            intro hn
            simp only[lastv]
            split
            · exact hsome (n+1) hn
            · exact ih (by omega)
        exact gen l.length (Nat.le_refl _)
      obtain⟨lo,h1,_⟩:=hc.rows r row hrow
      exact⟨lo,h1⟩
    have hgo:∀(K:Act→World→Prop) (Q:Exit→Act→World→Prop),(∀v w' ρ',Post B S0 w ρ L (Hs i).length (es i) w' ρ' v→K (a.put o.dst v) w')→
        if Region.wanted o (yielded l.toArray a.tmps)then o.wp P a w K Q else K (a.put o.dst undef) w:=by
      cases hadr:adrB o with
      | true=>
        refine hlex.adr i o ho hadr B S0 a w ρ L hc.wf hN (fun t ht=>by rw[←vS_at t (hsm t ht)];exact hc.tmps t) (fun r hr hal=>vR_al r hal) (fun r hr hal row hrow=>hc.rows r row (by rw[vR_at r (hrm r (by unfold rdX;rw[if_pos hadr,List.mem_filter];exact⟨hr,by simp[hal]⟩))];exact hrow))
      | false=>
        exact hst B S0 a w ρ L hc.wf hN (fun t ht=>by rw[←vS_at t (hsm t ht)];exact hc.tmps t) (fun r hr row hrow=>hc.rows r row (by rw[vR_at r (hrm r (by unfold rdX;rw[if_neg (by simp[hadr])];exact hr))];exact hrow))
    refine hgo K Q (fun v w' ρ' hp=>hK _ _ ⟨⟨ρ',_,hc.step hN hp (fun d hd=>by rw[hd]at hdk;exact hdk) (fun t=>?_) (fun r=>⟨fun q hm=>?_,fun hno=>?_⟩),?_⟩,ext_step hext hc.wf hp⟩)
    · by_cases e:o.dst=some t
      · rw[if_pos e]
        have:=lastv_eq (D:=fun k=>D k||k==i) (wr:=wS l t) (f:=fun k=>look (Ts k) t) l.length (i+1) (by omega) (keepS t) (hnew _ (ordS t (hdm t e)))
        show lastv _ _ _ _=_
        rw[this,hts,look_putT,if_pos e]
      · rw[if_neg e]
        refine lastv_congr _ (fun k hk hw=>?_)
        have:k≠i:=by rintro rfl;exact e ((wS_iff ho).1 hw)
        simp[this]
    · have:=lastv_eq (D:=fun k=>D k||k==i) (wr:=wR es r) (f:=fun k=>hget (Hs k) r) l.length (i+1) (by omega) (keepR r) (hnew _ (ordR r (hum r q hm)))
      show lastv _ _ _ _=_
      rw[this,hhs]
      exact(hget_happ _ _ hin hon r).1 q hm
    · refine lastv_congr _ (fun k hk hw=>?_)
      have:k≠i:=by rintro rfl;obtain⟨q,hm⟩:=wR_iff.1 hw;exact hno q hm
      simp[this]
    · rintro r (hr|⟨q,hm⟩)
      · rcases hL r hr with h|⟨k,hk,hDk,hw⟩
        · exact Or.inl h
        · exact Or.inr ⟨k,hk,by simp[hDk],hw⟩
      · exact Or.inr ⟨i,hil,by simp,wR_iff.2 ⟨q,hm⟩⟩
  have all : ∀ (fuel:Nat) (listed:Array Bool) (a:Act) (w:World),listed.size=l.length→listed.toList.count false=fuel→Down l.toArray (fun k=>listed.getD k false)→Inv (fun k=>listed.getD k false) a w→
      wpAny P .any l.toArray Q fuel listed a w:=by
    intro fuel
    have done : ∀(listed:Array Bool) (a:Act) (w:World),listed.size=l.length→Down l.toArray (fun k=>listed.getD k false)→Inv (fun k=>listed.getD k false) a w→Region.ready .any l.toArray listed=[]→Q .normal a w:=by
      intro listed a w hsz hD hinv hr
      have hall :∀k,k<l.length→listed.getD k false=true:=by
        intro k
        induction k using Nat.strongRecOn with
        | _ k ih=>
          intro hk
          cases hv:listed.getD k false with
          |true=>rfl
          | false=>
            exfalso
            have hmem:k∈Region.ready .any l.toArray listed:=by
              refine mem_ready.2 ⟨?_,l[k],by simp[hk],fun e he hb=>?_⟩
              · have hk':k<listed.size:=by omega
                simp only[Array.getD_eq_getD_getElem?,Array.getElem?_eq_getElem hk',Option.getD_some]at hv ⊢
                exact hv
              · have:=back_spec l 0 hback k l[k] (List.getElem?_eq_getElem hk) e he hb
                exact ih e.on (by omega) (by omega)
            rw[hr]at hmem;cases hmem
      obtain⟨⟨ρ,L,hc,hL⟩,hext⟩:=hinv
      have eS:vS (fun k=>listed.getD k false)=look (Ts l.length):=by
        funext t
        exact lastv_eq l.length l.length (Nat.le_refl _) (keepS t) (fun k hk _=>⟨fun _=>hk,fun _=>hall k hk⟩)
      have eR:vR (fun k=>listed.getD k false)=hget (Hs l.length):=by
        funext r
        exact lastv_eq l.length l.length (Nat.le_refl _) (keepR r) (fun k hk _=>⟨fun _=>hk,fun _=>hall k hk⟩)
      rw[eS,eR]at hc
      refine hQ a w ⟨⟨ρ,L,hc,fun r hr=>?_⟩,hext⟩
      rcases hL r hr with h|⟨k,hk,_,hw⟩
      · exact Nat.lt_of_lt_of_le h (hlen 0 _ (by omega) (Nat.le_refl _))
      · obtain⟨q,hm⟩:=wR_iff.1 hw
        exact Nat.lt_of_lt_of_le (hupl k r q hk hm) (hlen _ _ (by omega) (Nat.le_refl _))
    induction fuel with
    | zero=>
      intro listed a w hsz hcount hD hinv
      have hr:Region.ready .any l.toArray listed=[]:=by
        apply List.eq_nil_iff_forall_not_mem.2
        intro k hk
        obtain⟨h1,o,ho,_⟩:=mem_ready.1 hk
        have hkl:k<listed.size:=by rw[hsz];simpa using(Array.getElem?_eq_some_iff.1 ho).1
        simp only[Array.getD_eq_getD_getElem?,Array.getElem?_eq_getElem hkl,Option.getD_some]at h1
        rw[List.count_eq_zero]at hcount
        exact hcount (by rw[←h1];simp)
      exact⟨hr,done listed a w hsz hD hinv hr⟩
    | succ fuel ih=>
      intro listed a w hsz hcount hD hinv
      refine⟨done listed a w hsz hD hinv,fun i hi=>?_⟩
      obtain⟨h1,o,ho,hpre⟩:=mem_ready.1 hi
      have ho':l[i]?=some o:=by simpa using ho
      have hil:i<l.length:=(List.getElem?_eq_some_iff.1 ho').1
      have hils:i<listed.size:=by omega
      have hDi:listed.getD i false=false:=by
        simp only[Array.getD_eq_getD_getElem?,Array.getElem?_eq_getElem hils,Option.getD_some]at h1 ⊢
        exact h1
      have eD:(fun k=>(listed.setIfInBounds i true).getD k false)=fun k=>listed.getD k false||k==i:=by
        funext k
        by_cases e:k=i
        · subst e
          simp[Array.getD_eq_getD_getElem?,Array.getElem?_setIfInBounds_self_of_lt hils]
        · rw[getD_set_ne false (fun h=>e h.symm)]
          simp[e]
      have hD':Down l.toArray (fun k=>listed.getD k false||k==i):=by
        intro k ok hok hk e he hb
        simp only[Bool.or_eq_true,beq_iff_eq]at hk ⊢
        rcases hk with hk|rfl
        · exact Or.inl (hD k ok hok hk e he hb)
        · rw[ho]at hok
          simp only[Option.some.injEq]at hok
          subst hok
          exact Or.inl (hpre e he hb)
      have:=step (fun k=>listed.getD k false) i o a w (wpAny P .any l.toArray Q fuel (listed.setIfInBounds i true)) hD hD' ho' hDi hinv (fun a' w' hinv'=>ih _ a' w' (by simp[hsz]) (by
        rw[Array.toList_setIfInBounds,List.count_set (by simpa using hils),hcount]
        have:listed.toList[i]'(by simpa using hils)=false:=by
          simp only[Array.getD_eq_getD_getElem?,Array.getElem?_eq_getElem hils,Option.getD_some]at hDi
          simpa using hDi
        simp[this]) (by rw[eD];exact hD') (by rw[eD];exact hinv'))
      unfold wpOp
      simp only[ho]
      split
      · rename_i hw;rw[if_pos hw]at this;exact Or.inl this
      · rename_i hw;rw[if_neg hw]at this;exact this
  obtain⟨⟨ρ,L,hc,hL⟩,hext⟩:=hs
  have e0:(fun k=>(Array.replicate l.toArray.size false).getD k false)=fun _=>false:=by
    funext k
    simp only[Array.getD_eq_getD_getElem?,Array.getElem?_replicate]
    split<;>rfl
  refine all _ _ a w (by simp) (by simp) ?_ ?_
  · rw[e0];intro k o _ h;cases h
  · rw[e0]
    refine⟨⟨ρ,L,?_,fun r hr=>Or.inl (hL r hr)⟩,hext⟩
    have eS:vS (fun _=>false)=look (Ts 0):=by
      funext t
      exact lastv_eq l.length 0 (by omega) (keepS t) (fun k hk _=>by simp)
    have eR:vR (fun _=>false)=hget (Hs 0):=by
      funext r
      exact lastv_eq l.length 0 (by omega) (keepR r) (fun k hk _=>by simp)
    rw[eS,eR]
    exact hc
theorem alB_of {H:Hp} {r:Nat} (h:alB (H.map Option.isSome) r=true):∃row,hget H r=some row:=by
 unfold alB at h;rw[List.getD_eq_getElem?_getD,List.getElem?_map]at h;rw[hget_eq]
 cases hr:H[r]? with
 |none=>rw[hr]at h;cases h
 |some q=>
  rw[hr]at h
  cases q with
  |none=>cases h
  |some row=>exact⟨row,rfl⟩
theorem awp_sdx {T:Tm} {H:Hp} {Q:Exit→Tm→Hp→Prop} {id:Nat} {y:Code} (hm:P.follows .mixedOrders=true) (hd:l.map (·.dst)=dsts)
  (h:∀K:Tm→Hp→List Tr→Prop,(∀T' H' tr,drawB l tr=true→AWp P nt y T' H' Q→K T' H' tr)→vcOpsX P nt (H.map Option.isSome) dsts l T H [] K):AWp P nt (.seq (.region id l.toArray true) y) T H Q:=by
 refine awp_seq ?_;intro w0 B S0 a w hs;have h':=h (fun T' H' tr=>drawB l tr=true∧AWp P nt y T' H' Q) (fun _ _ _ h1 h2=>⟨h1,h2⟩);have hd':∀j:Nat,dsts[j]?=(l.toArray[j]?).map (·.dst):=by intro j;rw[←hd];simp
 obtain⟨Ts,Hs,es,t0,h0,hlex,ha,hup,hB,hQ⟩:=lex_ofX hd' l T H [] h';refine wp_region_any hm ?_;have:=draw_sound_x (w0:=w0) (B:=B) (S0:=S0) ⟨hlex,ha,hup,fun r hr=>by rw[h0];exact alB_of hr⟩ hd (by simpa using hB) (Q:=fun e a' w'=>∃T' H',thenA (fun T' H'=>AWp P nt y T' H' Q) Q e T' H'∧St w0 B S0 nt T' H' a' w') (fun a w hst=>⟨_,_,hQ,hst⟩) (a:=a) (w:={w with drawn:=w.drawn+1}) (by rw[t0,h0];exact hs.draw _);exact this
end
attribute [simp] vcOpsX trX rdX adrB alB
end Go.AM
end
section
namespace Go.Mo
open Go.AM Go.Cur Go.Proofs
open Go.Tram (Plan Cover validB wayB begTo mvAt movB mLst begTo_bd way_mov way_len len_bd movB_iff c_tWayLength_t)
def runT (r:List Int) (k:Nat):List Int:=0::r.take k
theorem runT_len {r:List Int} {k:Nat} (h:k≤r.length):(runT r k).length=k+1:=by simp[runT];omega
theorem runT_s {r:List Int} {k:Nat} (h:k<r.length):runT r (k+1)=runT r k++[at0 r k]:=by
 unfold runT;rw[List.take_add_one,at0_nat h];rfl
theorem runT_get {r:List Int} {k:Nat} (h:k<r.length):(runT r (k+1))[k+1]?=some (at0 r k):=by
 rw[runT_s h,List.getElem?_append_right (by rw[runT_len (by omega)];omega),runT_len (by omega),Nat.sub_self];rfl
def rowR (r:List Int) (n k:Nat):List (List AV):=(padL (runT r k) n).map nCell
def rowO (r D:List Int) (n k:Nat):List (List AV):=(padL (offT r D k) n).map nCell
theorem rowR_0 (r:List Int) {n:Nat} (h:1≤n):rowR r n 0=List.replicate n [I 0]:=by
 obtain⟨m,rfl⟩:∃m,n=m+1:=⟨n-1,by omega⟩;unfold rowR runT padL;simp[List.replicate_succ]
theorem rowO_0 (r D:List Int) {n:Nat} (h:1≤n):rowO r D n 0=List.replicate n [I 0]:=by
 obtain⟨m,rfl⟩:∃m,n=m+1:=⟨n-1,by omega⟩;unfold rowO offT padL;simp[List.replicate_succ,offA]
theorem rowR_len {r:List Int} {n k:Nat} (h:k≤r.length) (hn:k+1≤n):(rowR r n k).length=n:=by unfold rowR;rw[List.length_map,padL_len (by rw[runT_len h];exact hn)]
theorem rowO_len {r D:List Int} {n k:Nat} (hn:k+1≤n):(rowO r D n k).length=n:=by unfold rowO;rw[List.length_map,padL_len (by rw[offT_len];exact hn)]
theorem rowR_set {r:List Int} {n k:Nat} (h:k<r.length) (hn:k+1<n):(rowR r n k).set (k+1) [I (at0 r k)]=rowR r n (k+1):=by
 have:=padL_set (A:=runT r k) (n:=n) (by rw[runT_len (by omega)];exact hn) (at0 r k);rw[runT_len (by omega),←runT_s h]at this;exact this
theorem rowO_set {r D:List Int} {n k:Nat} (hn:k+1<n):(rowO r D n k).set (k+1) [I (offA r D (k+1))]=rowO r D n (k+1):=by
 have:=padL_set (A:=offT r D k) (n:=n) (by rw[offT_len];exact hn) (offA r D (k+1));rw[offT_len,←offT_s]at this;exact this
theorem rowR_get {r:List Int} {n k:Nat} (h:k<r.length):(rowR r n (k+1))[k+1]?=some [I (at0 r k)]:=by
 unfold rowR;rw[List.getElem?_map,padL_get (runT_get h)];rfl
theorem rowO_get {r D:List Int} {n k:Nat}:(rowO r D n k)[k]?=some [I (offA r D k)]:=by
 unfold rowO;rw[List.getElem?_map,padL_get (offT_get r D (Nat.le_refl k))];rfl
theorem rowR_full {r:List Int} {n:Nat} (h:r.length+1=n):rowR r n r.length=(0::r).map nCell:=by
 unfold rowR;rw[padL_full (by rw[runT_len (Nat.le_refl _)];exact h),runT,List.take_length]
theorem rowO_full {r D:List Int} {n:Nat} (h:r.length+1=n):rowO r D n r.length=(offT r D r.length).map nCell:=by
 unfold rowO;rw[padL_full (by rw[offT_len];exact h)]
theorem padL_zero {A:List Int} {n k:Nat} (h:A.length≤k) (hn:k<n):(padL A n)[k]?=some 0:=by
 unfold padL;rw[List.getElem?_append_right h,List.getElem?_replicate,if_pos (by omega)]
theorem rowR_z {r:List Int} {n k:Nat} (h:k≤r.length) (hn:k+1<n):(rowR r n k)[k+1]?=some [I 0]:=by
 unfold rowR;rw[List.getElem?_map,padL_zero (by rw[runT_len h];exact Nat.le_refl _) hn];rfl
theorem rowO_z {r D:List Int} {n k:Nat} (hn:k+1<n):(rowO r D n k)[k+1]?=some [I 0]:=by
 unfold rowO;rw[List.getElem?_map,padL_zero (by rw[offT_len];exact Nat.le_refl _) hn];rfl
theorem c_srun (p:Plan) (l:Lin) (home:Bool) (hv:validB p=true) {r:List Int} (hr:runsO p l home=some r):PureCall Tryz.prog 78 [p.av,l.av,(l.c home).av] (.tup [iL (0::r),iL (offT r (l.c home).D r.length),Bo (decide (offA r (l.c home).D r.length≤50000))]):=by
 have hb:=runsO_b hr;have hob:=fun k hk=>offA_bd hb k hk;obtain⟨a1,a2,a3,a4,a5,a6,a7,a8,a9,a10,M,hM,hrM,hmb⟩:=hb;generalize l.c home=c at*
 have hwl:=c_tWayLength_t p c.W hv a1;have hrn:=c_mRun p c.W l.t l.st c.S M hM;have hMl:M.length=r.length:=by rw[hrM,List.length_map]
 have hin:inr (c.S.length:Int) 2 60=true:=by rw[inr_iff];omega
 have hcw:=c_swithin (c.S.length:Int) 2 60;rw[hin]at hcw;have wn:IntKind.i64.wrap ((c.S.length:Int)-1)=(c.S.length:Int)-1:=wrap_in (by omega) (by omega);have g0:=at0_nat (l:=c.D) (k:=0) (by omega);have e0:((0:Nat):Int)=0:=rfl;rw[e0,a7]at g0;have gz:=at0_nat (l:=c.D) (k:=c.D.length-1) (by omega);have ez:((c.D.length-1:Nat):Int)=(c.D.length:Int)-1:=by omega
 rw[ez,a8]at gz;have hzi:c.S.length-1=c.D.length-1:=by omega
 have l1:(1:Int)≤c.S.length:=by omega
 have ed:(c.D.length:Int)=c.S.length:=by omega
 obtain⟨OT,hOT⟩:∃OT,OT=offT r c.D r.length:=⟨_,rfl⟩;rw[←hOT];have ffn:Fits c.S.length 9:=fits_of (by omega) (by omega);have hS0:(0:Int)≤c.S.length:=by omega
 refine PureCall.of_body Tryz.func78 rfl (by decide) (by simp[Tryz.ntmps78]) ?_;simp only[Tryz.ntmps78,Tryz.results78];refine aS fun K hK=>?_;simp -dsimp;apply hK;clear hK K;refine aS fun K hK=>?_;simp -dsimp;apply hK;clear hK K;refine aS fun K hK=>?_;simp -dsimp;refine callK_intro _ (hwl) (by simp) ?_;simp -dsimp;apply hK;clear hK K;refine awp_seq_k fun K1 hK1=>?_;refine aS fun K hK=>?_;simp -dsimp [wn,ed,hzi,l1,g0,gz];refine callK_may _ (fun hm=>hcw) (by simp) ?_;simp -dsimp [wn,ed,hzi,l1,g0,gz];refine idxK_intro (nCell 0) (fun _=>by simp[g0]) ?_;simp -dsimp [wn,ed,hzi,l1,g0,gz];refine idxK_intro (nCell 0) (fun _=>by simp[gz,hzi]) ?_;simp -dsimp [wn,ed,hzi,l1,g0,gz];apply hK;clear hK K;refine awp_cond rfl (fun hc0=>?_) (fun hc0=>?_)
 ·simp at hc0
 ·refine awp_skip ?_;simp only[zT,reduceIte,Nat.reduceEqDiff];refine hK1 _ _ ?_;refine awp_prune [3,4,5,9,10] ?_;simp only[zP,Nat.reduceEqDiff,reduceIte];refine awp_seq_k fun K2 hK2=>?_;refine aS fun K hK=>?_;simp -dsimp;apply hK;clear hK K;refine awp_block ?_;refine awp_prune [3,4,5,9,10,60,61,62] ?_;simp only[zP,Nat.reduceEqDiff,reduceIte];refine awp_loop_l [3,4,5,9,10,60,61] (α:=Nat) (fun k=>[(62,I k)]) (fun _=>[some (.els 2 [p.cells]),some (.els 18 [l.cells]),some (.els 3 [c.cells])]) (fun k=>k≤c.S.length) (fun k=>c.S.length-k) 0 ?_ ?_ ?_
  ·exact Nat.zero_le _
  ·exact sub_rb [some 0,some 1,some 2] rfl (by simp) (by simp)
  rintro k k1;simp only[zP,Nat.reduceEqDiff,reduceIte];refine aS fun K hK=>?_;simp -dsimp;apply hK;clear hK K;refine awp_seq_k fun K3 hK3=>?_;refine awp_cond rfl (fun hc1=>?_) (fun hc1=>?_)
  ·have hkl:k<c.S.length:=by simpa using hc1
   have wk:=zW k (by omega);have wj:IntKind.i64.wrap ((k:Int)-1)=(k:Int)-1:=wrap_in (by omega) (by omega);have gS:=at0_nat hkl;have gD:=at0_nat (l:=c.D) (k:=k) (by omega);have i1:inr (at0 c.S k) 1 (begTo p c.W c.W.length)=true:=by rw[inr_iff];exact a9 k hkl
   have i2:inr (at0 c.D k) 0 600=true:=by rw[inr_iff];exact a6 k hkl
   have hw1:=c_swithin (at0 c.S k) 1 (begTo p c.W c.W.length);have hw2:=c_swithin (at0 c.D k) 0 600;rw[i1]at hw1;rw[i2]at hw2;have hup:=a10 k;refine awp_skip ?_;simp only[zT,reduceIte,Nat.reduceEqDiff];refine hK3 _ _ ?_;refine awp_prune [3,4,5,9,10,60,61,62] ?_;simp only[zP,Nat.reduceEqDiff,reduceIte];refine awp_seq_k fun K4 hK4=>?_;refine awp_block ?_;refine aS fun K hK=>?_;simp -dsimp [gS];apply hK;clear hK K;refine aS fun K hK=>?_;simp -dsimp [wj];refine callK_intro _ (hw1) (by simp) ?_;simp -dsimp [wj];refine⟨fun _=>by omega,?_⟩;refine idxK_intro (nCell (at0 c.S ((k:Int)-1))) (fun hm=>by simp at hm;have g:=at0_nat (l:=c.S) (k:=k-1) (by omega);have ez:((k-1:Nat):Int)=(k:Int)-1:=(by omega);rw[ez]at g;simp[g]) ?_;simp -dsimp [wj];refine idxK_intro (nCell (at0 c.D k)) (fun _=>by simp[gD]) ?_;simp -dsimp [wj];refine callK_may _ (fun hm=>hw2) (by simp) ?_;simp -dsimp [wj];apply hK;clear hK K;refine awp_cond rfl (fun hc2=>?_) (fun hc2=>?_)
   ·exfalso;simp at hc2;exact absurd hc2.2 (by have:=hup (by omega) hkl;omega)
   ·refine awp_skip ?_;simp only[zT,reduceIte,Nat.reduceEqDiff];refine hK4 _ _ ?_;refine awp_prune [3,4,5,9,10,60,61,62] ?_;simp only[zP,Nat.reduceEqDiff,reduceIte];refine aR fun K hK=>?_;simp -dsimp [wk];apply hK;clear hK K;simp only[zT,reduceIte,Nat.reduceEqDiff];exact⟨k+1,by omega,by omega,sub_rb [some 0,some 1,some 2] rfl (by simp) (by simp)⟩
  ·refine awp_exit ?_;simp only[zT,reduceIte,Nat.reduceEqDiff];refine hK2 _ _ ?_;refine awp_prune [3,4,5,9] ?_;simp only[zP,Nat.reduceEqDiff,reduceIte];refine aS fun K hK=>?_;simp -dsimp;refine callK_intro _ (hrn) (by simp) ?_;simp -dsimp;apply hK;clear hK K;refine awp_seq_k fun K5 hK5=>?_;refine aS fun K hK=>?_;simp -dsimp [wn];apply hK;clear hK K;refine awp_cond rfl (fun hc3=>?_) (fun hc3=>?_)
   ·exfalso;simp at hc3;omega
   ·refine awp_skip ?_;simp only[zT,reduceIte,Nat.reduceEqDiff];refine hK5 _ _ ?_;refine awp_prune [5,9,14] ?_;simp only[zP,Nat.reduceEqDiff,reduceIte];refine awp_sd mixed rfl fun K hK=>?_;simp -dsimp [hS0,ffn];refine hK _ _ _ (by decide+kernel) ?_;clear hK K;refine awp_seq_k fun K6 hK6=>?_;refine aS fun K hK=>?_;simp -dsimp;apply hK;clear hK K;refine awp_block ?_;refine awp_prune [5,9,15,16,121,122,123] ?_;simp only[zP,Nat.reduceEqDiff,reduceIte];refine awp_loop_l [5,9,15,16,121,122] (α:=Nat) (fun k=>[(123,I k)]) (fun k=>[some (.els 2 [p.cells]),some (.els 18 [l.cells]),some (.els 3 [c.cells]),some (.els 1 (rowR r c.S.length k)),some (.els 1 (rowO r c.D c.S.length k))]) (fun k=>k≤M.length) (fun k=>M.length-k) 0 ?_ ?_ ?_
    ·exact Nat.zero_le _
    ·exact sub_rb [some 0,some 1,some 2,some 3,some 4] rfl (by simp) (by rw[rowR_0 r (by omega),rowO_0 r c.D (by omega)];simp)
    rintro k k1;simp only[zP,Nat.reduceEqDiff,reduceIte];refine aS fun K hK=>?_;simp -dsimp;apply hK;clear hK K;refine awp_seq_k fun K7 hK7=>?_;refine awp_cond rfl (fun hc4=>?_) (fun hc4=>?_)
    ·have hkl:k<M.length:=by simpa using hc4
     have wk:=zW k (by omega);have k0:(0:Int)≤(k:Int)+1:=by omega
     have gM:=at0_nat hkl;have hm:=hmb _ (List.mem_of_getElem? gM);have w1:IntKind.i64.wrap (at0 M k+999)=at0 M k+999:=wrap_in (by omega) (by omega);have hq:0≤(at0 M k+999).tdiv 1000∧(at0 M k+999).tdiv 1000≤5000:=by rw[Int.tdiv_eq_ediv_of_nonneg (by omega)];omega
     have w2:IntKind.i64.wrap ((at0 M k+999).tdiv 1000)=(at0 M k+999).tdiv 1000:=wrap_in (by omega) (by omega);have hmx:(if 1<(at0 M k+999).tdiv 1000 then(at0 M k+999).tdiv 1000 else 1)=secF (at0 M k):=rfl;have hrk:at0 r k=secF (at0 M k):=at0_of (by rw[hrM,List.getElem?_map,gM];rfl);have s1:=rowR_set (r:=r) (n:=c.S.length) (k:=k) (by omega) (by omega);rw[hrk]at s1;have gR:=rowR_get (r:=r) (n:=c.S.length) (k:=k) (by omega);have gO:=rowO_get (r:=r) (D:=c.D) (n:=c.S.length) (k:=k);have s2:=rowO_set (r:=r) (D:=c.D) (n:=c.S.length) (k:=k) (by omega);have lR:=rowR_len (r:=r) (n:=c.S.length) (k:=k) (by omega) (by omega);have lR':=rowR_len (r:=r) (n:=c.S.length) (k:=k+1) (by omega) (by omega);have lO:=rowO_len (r:=r) (D:=c.D) (n:=c.S.length) (k:=k) (by omega);have ek:((k+1:Nat):Int)=(k:Int)+1:=by omega
     have gD:=at0_nat (l:=c.D) (k:=k+1) (by omega);rw[ek]at gD;have ho1:=hob k (by omega);have hr1:=a5 k (by omega);have hd1:=a6 (k+1) (by omega);rw[ek]at hd1;have hoe:offA r c.D (k+1)=offA r c.D k+at0 r k+at0 c.D ((k:Int)+1):=rfl;have w3:IntKind.i64.wrap (offA r c.D k+at0 r k)=offA r c.D k+at0 r k:=wrap_in (by omega) (by omega);have w4:IntKind.i64.wrap (offA r c.D k+at0 r k+at0 c.D ((k:Int)+1))=offA r c.D (k+1):=by rw[hoe];exact wrap_in (by omega) (by omega)
     have hk2:k+1<c.S.length:=by omega
     have zR:=rowR_z (r:=r) (n:=c.S.length) (k:=k) (by omega) hk2;have zO:=rowO_z (r:=r) (D:=c.D) (n:=c.S.length) (k:=k) hk2;have zRe:∀h,(rowR r c.S.length k)[k+1]'h=[I 0]:=fun h=>(List.getElem_eq_iff h).2 zR;have zOe:∀h,(rowO r c.D c.S.length k)[k+1]'h=[I 0]:=fun h=>(List.getElem_eq_iff h).2 zO;have gRe:∀h,(rowR r c.S.length (k+1))[k+1]'h=[I (at0 r k)]:=fun h=>(List.getElem_eq_iff h).2 gR;have gOe:∀h,(rowO r c.D c.S.length k)[k]'h=[I (offA r c.D k)]:=fun h=>(List.getElem_eq_iff h).2 gO;have hk3:k<c.S.length:=by omega
     refine awp_skip ?_;simp only[zT,reduceIte,Nat.reduceEqDiff];refine hK7 _ _ ?_;refine awp_prune [5,9,15,16,121,122,123] ?_;simp only[zP,Nat.reduceEqDiff,reduceIte];refine awp_seq_k fun K8 hK8=>?_;refine awp_block ?_;refine aS fun K hK=>?_;simp -dsimp [gM];apply hK;clear hK K;refine aS fun K hK=>?_;simp -dsimp [wk,k0,w1,w2,hmx,s1,lR,hk2,zR,zRe];apply hK;clear hK K;refine awp_draw mixed rfl fun K hK=>?_;simp -dsimp [wk,k0,gO,gR,gD,w3,w4,s2,lR',lO,hk2,hk3,zO,zOe,gRe,gOe];refine hK _ _ _ (by decide+kernel) ?_;clear hK K;simp only[zT,reduceIte,Nat.reduceEqDiff];refine hK8 _ _ ?_;refine awp_prune [5,9,15,16,121,122,123] ?_;simp only[zP,Nat.reduceEqDiff,reduceIte];refine aR fun K hK=>?_;simp -dsimp [wk];apply hK;clear hK K;simp only[zT,reduceIte,Nat.reduceEqDiff];exact⟨k+1,by omega,by omega,sub_rb [some 0,some 1,some 2,some 3,some 4] rfl (by simp) (by simp[rowR,rowO])⟩
    ·have hkl:k=r.length:=by have:¬k<M.length:=(by simpa using hc4);omega
     subst hkl;rw[rowR_full a4,rowO_full a4,←hOT];have hOl:OT.length=c.S.length:=by rw[hOT,offT_len];exact a4
     have gL:OT[r.length]?=some (offA r c.D r.length):=by rw[hOT];exact offT_get r c.D (Nat.le_refl _)
     have gLe:∀h,OT[r.length]'h=offA r c.D r.length:=fun h=>(List.getElem_eq_iff h).2 gL;have hi:c.S.length-1=r.length:=by omega
     have hlt:r.length<c.S.length:=by omega
     have t1:List.take c.S.length ([AV.v (Value.int IntKind.i64 0)]::List.map nCell r)=[I 0]::List.map nCell r:=List.take_of_length_le (by rw[List.length_cons,List.length_map];omega);have t2:List.take c.S.length (List.map nCell OT)=List.map nCell OT:=List.take_of_length_le (by rw[List.length_map];omega);refine awp_exit ?_;simp only[zT,reduceIte,Nat.reduceEqDiff];refine hK6 _ _ ?_;refine awp_prune [9,15,16] ?_;simp only[zP,Nat.reduceEqDiff,reduceIte];refine awp_sd mixed rfl fun K hK=>?_;simp -dsimp [wn,l1,hi,gL,gLe,hOl,hlt];refine hK _ _ _ (by decide+kernel) ?_;clear hK K;exact awp_ret (by simp[resP,tupOf,hOl,a4,t1,t2])
@[simp] def opnC (l:Lin) (a b c d:AV):List AV:=l.cells++[a,b,c,d]
abbrev nilS:AV:= .v (.slice none 0 0)
theorem c_courses (l:Lin):PureCall Tryz.prog 77 [l.av] (.agg (l.o.cells++l.h.cells)):=by
 refine PureCall.of_body Tryz.func77 rfl (by decide) (by simp[Tryz.ntmps77]) ?_;simp only[Tryz.ntmps77,Tryz.results77];refine aS fun K hK=>?_;simp -dsimp;apply hK;clear hK K;refine aS fun K hK=>?_;simp -dsimp;apply hK;clear hK K;exact awp_ret (by simp[resP,tupOf])
theorem lineB_r {p:Plan} {l:Lin} (h:lineB p l=true):(0≤l.la∧l.la≤3600)∧∃r0 r1,runsO p l false=some r0∧runsO p l true=some r1∧offA r0 l.o.D r0.length≤50000∧offA r1 l.h.D r1.length≤50000:=by
 unfold lineB sideB at h;simp only[Bool.and_eq_true,inr_iff]at h;obtain⟨h0,h1,h2⟩:=h;refine⟨h0,?_⟩
 cases e0:runsO p l false with
 |none=>rw[e0]at h1;cases h1
 | some r0=>
  cases e1:runsO p l true with
  |none=>rw[e1]at h2;cases h2
  |some r1=>
   rw[e0]at h1;rw[e1]at h2;exact⟨r0,r1,rfl,rfl,of_decide_eq_true h1,of_decide_eq_true h2⟩
def opK (l:Lin) (a b c d:AV):Nat→List AV
 |0=>opnC l nilS nilS nilS nilS
 |1=>opnC l a nilS c nilS
 |_=>opnC l a b c d
theorem c_sopen (p:Plan) (l:Lin) (hv:validB p=true) {r0 r1:List Int} (h0:runsO p l false=some r0) (h1:runsO p l true=some r1) (hla:0≤l.la∧l.la≤3600) (hb0:offA r0 l.o.D r0.length≤50000) (hb1:offA r1 l.h.D r1.length≤50000):
  PureCall Tryz.prog 27 [p.av,l.av] (.tup [.iptr (opnC l (iL (0::r0)) (iL (0::r1)) (iL (offT r0 l.o.D r0.length)) (iL (offT r1 l.h.D r1.length))),Bo true]):=by
 have hck:=Go.Tram.c_Check p;rw[if_pos hv]at hck;have hw:=c_swithin l.la 0 3600;have hi:inr l.la 0 3600=true:=by rw[inr_iff];exact hla
 rw[hi]at hw;have hco:=c_courses l;have hr0:=c_srun p l false hv h0;have hr1:=c_srun p l true hv h1;have e0:l.c false=l.o:=rfl;have e1:l.c true=l.h:=rfl;rw[e0,decide_eq_true hb0]at hr0;rw[e1,decide_eq_true hb1]at hr1;generalize offT r0 l.o.D r0.length=o0 at*
 generalize offT r1 l.h.D r1.length=o1 at*
 generalize (0::r0:List Int)=u0 at*
 generalize (0::r1:List Int)=u1 at*
 have v1:IntKind.i64.wrap 1=1:=rfl;have v2:IntKind.i64.wrap 2=2:=rfl;refine PureCall.of_body Tryz.func27 rfl (by decide) (by simp[Tryz.ntmps27]) ?_;simp only[Tryz.ntmps27,Tryz.results27];refine aS fun K hK=>?_;simp -dsimp;apply hK;clear hK K;refine awp_seq_k fun K1 hK1=>?_;refine aS fun K hK=>?_;simp -dsimp;refine callK_intro _ (hck) (by simp) ?_;simp -dsimp;refine callK_may _ (fun hm=>hw) (by simp) ?_;simp -dsimp;apply hK;clear hK K;refine awp_cond rfl (fun hc0=>?_) (fun hc0=>?_)
 ·simp at hc0
 ·refine awp_skip ?_;simp only[zT,reduceIte,Nat.reduceEqDiff];refine hK1 _ _ ?_;refine awp_prune [2,3] ?_;simp only[zP,Nat.reduceEqDiff,reduceIte];refine aS fun K hK=>?_;simp -dsimp;apply hK;clear hK K;refine awp_seq_k fun K2 hK2=>?_;refine aS fun K hK=>?_;simp -dsimp;refine callK_intro _ (hco) (by simp) ?_;simp -dsimp;apply hK;clear hK K;refine awp_block ?_;refine awp_prune [2,3,6,23,24] ?_;simp only[zP,Nat.reduceEqDiff,reduceIte];refine awp_loop_l [2,3,6,23] (α:=Nat) (fun k=>[(24,I k)]) (fun k=>[some (.els 2 [p.cells]),some (.els 18 [l.cells]),some (.els 22 [opK l (iL u0) (iL u1) (iL o0) (iL o1) k])]) (fun k=>k≤2) (fun k=>2-k) 0 ?_ ?_ ?_
  ·exact Nat.zero_le _
  ·exact sub_rb [some 0,some 1,some 2] rfl (by simp) (by simp[opK])
  rintro k k1
  rcases(show k=0∨k=1∨k=2 by omega)with rfl|rfl|rfl
  ·simp only[zP,Nat.reduceEqDiff,reduceIte];refine aS fun K hK=>?_;simp -dsimp;apply hK;clear hK K;refine awp_seq_k fun K3 hK3=>?_;refine awp_cond rfl (fun hc1=>?_) (fun hc1=>?_)
   ·refine awp_skip ?_;simp only[zT,reduceIte,Nat.reduceEqDiff];refine hK3 _ _ ?_;refine awp_prune [2,3,6,23,24] ?_;simp only[zP,Nat.reduceEqDiff,reduceIte];refine awp_seq_k fun K4 hK4=>?_;refine awp_block ?_;refine aS fun K hK=>?_;simp -dsimp;apply hK;clear hK K;refine aS fun K hK=>?_;simp -dsimp;apply hK;clear hK K;refine awp_sdx mixed rfl fun K hK=>?_;simp -dsimp [opK];refine callK_intro _ (hr0) (by simp) ?_;simp -dsimp [opK];refine hK _ _ _ (by decide+kernel) ?_;clear hK K;refine aS fun K hK=>?_;simp -dsimp;apply hK;clear hK K;refine awp_cond rfl (fun hc2=>?_) (fun hc2=>?_)
    ·simp at hc2
    ·refine awp_skip ?_;simp only[zT,reduceIte,Nat.reduceEqDiff];refine hK4 _ _ ?_;refine awp_prune [2,3,6,23,24] ?_;simp only[zP,Nat.reduceEqDiff,reduceIte];refine aR fun K hK=>?_;simp -dsimp;apply hK;clear hK K;simp only[zT,reduceIte,Nat.reduceEqDiff];exact⟨1,by omega,by omega,sub_rb [some 0,some 1,some 2] rfl (by simp[v1]) (by simp[opK])⟩
   ·simp at hc1
  ·simp only[zP,Nat.reduceEqDiff,reduceIte];refine aS fun K hK=>?_;simp -dsimp;apply hK;clear hK K;refine awp_seq_k fun K5 hK5=>?_;refine awp_cond rfl (fun hc1=>?_) (fun hc1=>?_)
   ·refine awp_skip ?_;simp only[zT,reduceIte,Nat.reduceEqDiff];refine hK5 _ _ ?_;refine awp_prune [2,3,6,23,24] ?_;simp only[zP,Nat.reduceEqDiff,reduceIte];refine awp_seq_k fun K6 hK6=>?_;refine awp_block ?_;refine aS fun K hK=>?_;simp -dsimp;apply hK;clear hK K;refine aS fun K hK=>?_;simp -dsimp;apply hK;clear hK K;refine awp_sdx mixed rfl fun K hK=>?_;simp -dsimp [opK];refine callK_intro _ (hr1) (by simp) ?_;simp -dsimp [opK];refine hK _ _ _ (by decide+kernel) ?_;clear hK K;refine aS fun K hK=>?_;simp -dsimp;apply hK;clear hK K;refine awp_cond rfl (fun hc2=>?_) (fun hc2=>?_)
    ·simp at hc2
    ·refine awp_skip ?_;simp only[zT,reduceIte,Nat.reduceEqDiff];refine hK6 _ _ ?_;refine awp_prune [2,3,6,23,24] ?_;simp only[zP,Nat.reduceEqDiff,reduceIte];refine aR fun K hK=>?_;simp -dsimp;apply hK;clear hK K;simp only[zT,reduceIte,Nat.reduceEqDiff];exact⟨2,by omega,by omega,sub_rb [some 0,some 1,some 2] rfl (by simp[v2]) (by simp[opK])⟩
   ·simp at hc1
  ·simp only[zP,Nat.reduceEqDiff,reduceIte];refine aS fun K hK=>?_;simp -dsimp;apply hK;clear hK K;refine awp_seq_k fun K7 hK7=>?_;refine awp_cond rfl (fun hc1=>?_) (fun hc1=>?_)
   ·simp at hc1
   ·refine awp_exit ?_;simp only[zT,reduceIte,Nat.reduceEqDiff];refine hK2 _ _ ?_;refine awp_prune [6] ?_;simp only[zP,Nat.reduceEqDiff,reduceIte];refine aS fun K hK=>?_;simp -dsimp;apply hK;clear hK K;exact awp_ret (by simp[resP,tupOf,opK])
theorem c_side (home:Bool):PureCall Tryz.prog 28 [Bo home] (I (if home then 1 else 0)):=by
 cases home
 ·refine PureCall.of_body Tryz.func28 rfl (by decide) (by simp[Tryz.ntmps28]) ?_;simp only[Tryz.ntmps28,Tryz.results28];refine aS fun K hK=>?_;simp -dsimp;apply hK;clear hK K;refine awp_seq_k fun K1 hK1=>?_;refine aS fun K hK=>?_;simp -dsimp;apply hK;clear hK K;refine awp_cond rfl (fun hc0=>?_) (fun hc0=>?_)
  ·simp at hc0
  ·refine awp_skip ?_;simp only[zT,reduceIte,Nat.reduceEqDiff];refine hK1 _ _ ?_;refine awp_prune [] ?_;simp only[zP,Nat.reduceEqDiff,reduceIte];refine aS fun K hK=>?_;simp -dsimp;apply hK;clear hK K;exact awp_ret (by simp)
 ·refine PureCall.of_body Tryz.func28 rfl (by decide) (by simp[Tryz.ntmps28]) ?_;simp only[Tryz.ntmps28,Tryz.results28];refine aS fun K hK=>?_;simp -dsimp;apply hK;clear hK K;refine awp_seq_k fun K1 hK1=>?_;refine aS fun K hK=>?_;simp -dsimp;apply hK;clear hK K;refine awp_cond rfl (fun hc0=>?_) (fun hc0=>?_)
  ·refine aS fun K hK=>?_;simp -dsimp;apply hK;clear hK K;exact awp_ret (by simp)
  ·simp at hc0
theorem c_sOffsets (p:Plan) (l:Lin) (home:Bool) (hv:validB p=true) (h:lineB p l=true) {r:List Int} (hr:runsO p l home=some r):PureCall Tryz.prog 9 [p.av,l.av,Bo home] (.tup [iL (offT r (l.c home).D r.length),I 0]):=by
 obtain⟨hla,r0,r1,h0,h1,b0,b1⟩:=lineB_r h;have hop:=c_sopen p l hv h0 h1 hla b0 b1;have hsd:=c_side home;have he:iL (offT r (l.c home).D r.length)=if home then iL (offT r1 l.h.D r1.length)else iL (offT r0 l.o.D r0.length):=by
  cases home
  ·rw[h0]at hr;cases hr;rfl
  ·rw[h1]at hr;cases hr;rfl
 rw[he];clear he hr h0 h1 b0 b1;generalize offT r0 l.o.D r0.length=o0 at*
 generalize offT r1 l.h.D r1.length=o1 at*
 generalize (0::r0:List Int)=u0 at*
 generalize (0::r1:List Int)=u1 at*
 cases home
 ·simp only[Bool.false_eq_true,if_false]at hsd ⊢;refine PureCall.of_body Tryz.func9 rfl (by decide) (by simp[Tryz.ntmps9]) ?_;simp only[Tryz.ntmps9,Tryz.results9];refine aS fun K hK=>?_;simp -dsimp;apply hK;clear hK K;refine aS fun K hK=>?_;simp -dsimp;refine callK_intro _ (hop) (by simp) ?_;simp -dsimp;apply hK;clear hK K;refine awp_seq_k fun K1 hK1=>?_;refine aS fun K hK=>?_;simp -dsimp;apply hK;clear hK K;refine awp_cond rfl (fun hc0=>?_) (fun hc0=>?_)
  ·simp at hc0
  ·refine awp_skip ?_;simp only[zT,reduceIte,Nat.reduceEqDiff];refine hK1 _ _ ?_;refine awp_prune [2,8] ?_;simp only[zP,Nat.reduceEqDiff,reduceIte];refine awp_sd mixed rfl fun K hK=>?_;simp -dsimp;refine callK_intro _ (hsd) (by simp) ?_;simp -dsimp;refine hK _ _ _ (by decide+kernel) ?_;clear hK K;exact awp_ret (by simp)
 ·simp only[if_true]at hsd ⊢;refine PureCall.of_body Tryz.func9 rfl (by decide) (by simp[Tryz.ntmps9]) ?_;simp only[Tryz.ntmps9,Tryz.results9];refine aS fun K hK=>?_;simp -dsimp;apply hK;clear hK K;refine aS fun K hK=>?_;simp -dsimp;refine callK_intro _ (hop) (by simp) ?_;simp -dsimp;apply hK;clear hK K;refine awp_seq_k fun K1 hK1=>?_;refine aS fun K hK=>?_;simp -dsimp;apply hK;clear hK K;refine awp_cond rfl (fun hc0=>?_) (fun hc0=>?_)
  ·simp at hc0
  ·refine awp_skip ?_;simp only[zT,reduceIte,Nat.reduceEqDiff];refine hK1 _ _ ?_;refine awp_prune [2,8] ?_;simp only[zP,Nat.reduceEqDiff,reduceIte];refine awp_sd mixed rfl fun K hK=>?_;simp -dsimp;refine callK_intro _ (hsd) (by simp) ?_;simp -dsimp;refine hK _ _ _ (by decide+kernel) ?_;clear hK K;exact awp_ret (by simp)
end Go.Mo
end
