import Derived.Test.YtdechefjlfkehaaGreatV5
set_option maxRecDepth 100000
set_option maxHeartbeats 8000000
set_option linter.unusedVariables false
set_option linter.unusedSimpArgs false
section
namespace Go.Mo
open Go.AM Go.Cur Go.Proofs
open Go.Tram (Plan Cover Spot Rail validB validA validE nodeB railB railA lineOf spotB segB segLen sumTo wayB begTo mvAt movB mLst begTo_bd way_mov way_len len_bd movB_iff c_Valid c_rLength rail_ok ex_len IsSq)
def smPlan:Plan:={Nodes:=[⟨⟨0,0⟩,1,[⟨0,false⟩],0⟩,⟨⟨21000,0⟩,1,[⟨0,true⟩],0⟩],Rails:=[⟨0,1,[],8000,0⟩]}
def smT:Tn:=⟨1000,1000,8000,2000,2000,1000000,0,0,0,[1000]⟩
def smLine:Lin:=⟨⟨[⟨0,false⟩],[1000,10500,21000],[0,20,0]⟩,⟨[⟨0,true⟩],[1000,10500,21000],[0,10,0]⟩,smT,0,30⟩
def smLit:AV:= .tup [.agg [.full 5 [[I 0,I 0,I 1, .full 2 [[I 0,Bo false]],I 0],[I 21000,I 0,I 1, .full 2 [[I 0,Bo true]],I 0]], .full 5 [[I 0,I 1, .v (.slice none 0 0),I 8000,I 0]]],
 .agg [.full 2 [[I 0,Bo false]], .full 1 [[I 1000],[I 10500],[I 21000]], .full 1 [[I 0],[I 20],[I 0]], .full 2 [[I 0,Bo true]], .full 1 [[I 1000],[I 10500],[I 21000]], .full 1 [[I 0],[I 10],[I 0]],
  I 1000,I 1000,I 8000,I 2000,I 2000,I 1000000,I 0,I 0,I 0, .full 1 [[I 1000]],I 0,I 30]]
theorem c_SimLit:PureCall Tryz.prog 23 [I 21000] smLit:=by
 have w:IntKind.i64.wrap (Int.tdiv 21000 2)=10500:=by decide
 have w':IntKind.i64.wrap 10500=10500:=by decide
 refine PureCall.of_body Tryz.func23 rfl (by decide) (by simp[Tryz.ntmps23]) ?_;simp only[Tryz.ntmps23,Tryz.results23];refine aS fun K hK=>?_;simp -dsimp [w,w'];apply hK;clear hK K;refine aS fun K hK=>?_;simp -dsimp [w,w'];apply hK;clear hK K;refine aS fun K hK=>?_;simp -dsimp [w,w'];apply hK;clear hK K;refine aS fun K hK=>?_;simp -dsimp [w,w'];apply hK;clear hK K;refine aS fun K hK=>?_;simp -dsimp [w,w'];apply hK;clear hK K;refine awp_sd mixed rfl fun K hK=>?_;simp -dsimp [w,w'];refine hK _ _ _ (by decide+kernel) ?_;clear hK K;exact awp_ret (by simp[resP,tupOf,smLit])
theorem c_Simple:PureCall Tryz.prog 23 [I 21000] (.tup [smPlan.av,smLine.av]):=by
 have e:wkN 2 6 smLit= .tup [smPlan.av,smLine.av]:=by rfl
 refine c_SimLit.res fun w S y h=>?_;rw[←e];exact wkN_rep 2 6 _ _ h
theorem sm0:segLen (smPlan.line 0) 0=21000:=by unfold segLen;exact ex_len _ _ 21000 (by unfold IsSq;decide+kernel)
theorem sm_r0:railB smPlan (smPlan.rail 0)=true:=by
 have h1:railA smPlan (smPlan.rail 0)=true:=by decide+kernel
 have h2:(smPlan.rail 0).Shape=[]:=by decide+kernel
 have e:lineOf smPlan (smPlan.rail 0)=smPlan.line 0:=rfl;simp[railB,h1,h2,e,List.range_succ,segB,sm0,Go.Tram.inr]
theorem sm_valid:validB smPlan=true:=by
 have h1:smPlan.Nodes.all nodeB=true:=by decide+kernel
 have h2:validE smPlan=true:=by decide+kernel
 have e:smPlan.Rails=[smPlan.rail 0]:=by unfold Plan.rail;rfl
 have h3:smPlan.Rails.all (railB smPlan)=true:=by rw[e];simp[sm_r0]
 have h4:Go.Tram.inr (smPlan.Nodes.length) 1 300=true:=by decide+kernel
 have h5:Go.Tram.inr (smPlan.Rails.length) 1 400=true:=by decide+kernel
 simp[validB,validA,h1,h2,h3,h4,h5]
theorem sm_len:smPlan.len 0=21000:=by
 unfold Plan.len;have h2:(smPlan.rail 0).Shape=[]:=by decide+kernel
 simp[h2,sumTo,sm0]
theorem sm_beg (b:Bool):begTo smPlan [⟨0,b⟩] 1=21000:=by simp[begTo,mvAt,sm_len]
def smRn:Rn:=⟨smT,0,[],[21000],[8000],[0],[1000,10500,21000]⟩
theorem sm_run:(smRn.legsR (addR smRn) [10500,21000] ⟨0,10000000⟩).map (fun z=>(z.1.map (·.Mi),z.2.W))=some ([4400,4600],210000000):=by decide+kernel
theorem legR_W {t:Tn} {st:Int} {W W':List (List AV)} {e l s sp:List Int} (stop:Int):∀(f:Nat) (x:Ms) (o:Lg),(⟨t,st,W,e,l,s,sp⟩:Rn).legR stop (addR ⟨t,st,W,e,l,s,sp⟩) f x o=(⟨t,st,W',e,l,s,sp⟩:Rn).legR stop (addR ⟨t,st,W',e,l,s,sp⟩) f x o
 |0,x,o=>rfl
 |f+1,x,o=>by
  rw[Rn.legR,Rn.legR];have e1:∀i:Int,(addR ⟨t,st,W,e,l,s,sp⟩ o x i)=addR ⟨t,st,W',e,l,s,sp⟩ o x i:=fun i=>rfl;have e2:(⟨t,st,W,e,l,s,sp⟩:Rn).chF stop x=(⟨t,st,W',e,l,s,sp⟩:Rn).chF stop x:=rfl;rw[e2];simp only[e1]
  congr 2
  cases (⟨t,st,W',e,l,s,sp⟩:Rn).chF stop x with
  |none=>rfl
  |some i=>exact legR_W stop f _ _
theorem legsR_W {t:Tn} {st:Int} {W W':List (List AV)} {e l s sp:List Int}:∀(q:List Int) (x:Ms),(⟨t,st,W,e,l,s,sp⟩:Rn).legsR (addR ⟨t,st,W,e,l,s,sp⟩) q x=(⟨t,st,W',e,l,s,sp⟩:Rn).legsR (addR ⟨t,st,W',e,l,s,sp⟩) q x
 |[],x=>rfl
 | a::q,x=>by
  rw[Rn.legsR,Rn.legsR,legR_W (W:=W) (W':=W')]
  cases (⟨t,st,W',e,l,s,sp⟩:Rn).legR a (addR ⟨t,st,W',e,l,s,sp⟩) 36000 x lg0 with
  |none=>rfl
  |some y=>
   show Option.map _ _=Option.map _ _;rw[legsR_W (W:=W) (W':=W') q]
theorem runO_of {p:Plan} {l:List Mv} {t:Tn} {st:Int} {sp M q:List Int} {W:List (List AV)} {e li sl:List Int} {x0:Ms} {w:Int} (hst:stpB p l t st sp=true) (hro:∃W',runOf p l t st sp=⟨t,st,W',e,li,sl,sp⟩) (hq:sp.drop 1=q) (hx:10*t.Mass*at0 sp 0=x0.W) (hp:x0.P=0)
  (hz:((⟨t,st,W,e,li,sl,sp⟩:Rn).legsR (addR ⟨t,st,W,e,li,sl,sp⟩) q x0).map (fun z=>(z.1.map (·.Mi),z.2.W))=some (M,w)) (hw:w≤10000000000000000):runO p l t st sp=some M:=by
 obtain⟨W',hro⟩:=hro;rw[Option.map_eq_some_iff]at hz;obtain⟨z,hz,hz2⟩:=hz;simp only[Prod.mk.injEq]at hz2;have e1:(⟨t,st,W',e,li,sl,sp⟩:Rn).x0=x0:=by unfold Rn.x0;cases x0;simp only at hx hp ⊢;rw[hx,hp]
 have hru:runZ p l t st sp=some z:=by
  unfold runZ;rw[if_pos hst,hro,hq,e1,legsR_W (W':=W)];exact hz
 unfold runO;rw[hru];show(if z.2.W≤10000000000000000 then some (z.1.map (·.Mi))else none)=_
 rw[if_pos (by rw[hz2.2];exact hw),hz2.1]
theorem side_of {p:Plan} {l:Lin} {home:Bool} {r:List Int} (h:runsO p l home=some r) (hb:offA r (l.c home).D r.length≤50000):sideB p l home=true:=by
 unfold sideB;rw[h];exact decide_eq_true hb
theorem runs_of {p:Plan} {l:Lin} {home:Bool} {M r:List Int} (h1:crsB p (l.c home)=true) (h2:runO p (l.c home).W l.t l.st (l.c home).S=some M) (h3:M.map secF=r):runsO p l home=some r:=by
 unfold runsO;rw[if_pos h1,h2,←h3];rfl
theorem sm_st (b:Bool):stpB smPlan [⟨0,b⟩] smT 0 [1000,10500,21000]=true:=by
  unfold stpB;have h1:wayB smPlan [⟨0,b⟩]=true:=by cases b<;>decide+kernel
  rw[sm_valid,h1];have h2:begTo smPlan [⟨0,b⟩] ([⟨0,b⟩]:List Mv).length=21000:=sm_beg b;rw[h2]
  decide+kernel+revert
theorem sm_ro (b:Bool):∃W,runOf smPlan [⟨0,b⟩] smT 0 [1000,10500,21000]=⟨smT,0,W,[21000],[8000],[0],[1000,10500,21000]⟩:=by
  have h1:endTo smPlan [⟨0,b⟩] 1=[21000]:=by simp[endTo,List.range_succ,sm_beg]
  have h2:limTo smPlan [⟨0,b⟩] 1=[8000]:=by cases b<;>decide+kernel
  have h3:slpTo smPlan [⟨0,b⟩] 1=[0]:=by cases b<;>decide+kernel
  refine⟨([⟨0,b⟩]:List Mv).map Go.Tram.Move.cells,?_⟩;unfold runOf;simp only[List.length_singleton,h1,h2,h3]
theorem sm_runO (b:Bool):runO smPlan [⟨0,b⟩] smT 0 [1000,10500,21000]=some [4400,4600]:=
 runO_of (sm_st b) (sm_ro b) (q:=[10500,21000]) rfl (x0:=⟨0,10000000⟩) (by decide+kernel) rfl sm_run (by decide+kernel)
theorem sm_crs (home:Bool):crsB smPlan (smLine.c home)=true:=by
  unfold crsB c1B;have hb:∀b,begTo smPlan [⟨0,b⟩] 1=21000:=sm_beg;have hw:∀b,wayB smPlan [⟨0,b⟩]=true:=by intro b;cases b<;>decide+kernel
  cases home
  ·have e:smLine.c false=⟨[⟨0,false⟩],[1000,10500,21000],[0,20,0]⟩:=rfl;rw[e];simp only[hw];simp[List.range_succ,c2B,hb,inr,at0]
  ·have e:smLine.c true=⟨[⟨0,true⟩],[1000,10500,21000],[0,10,0]⟩:=rfl;rw[e];simp only[hw];simp[List.range_succ,c2B,hb,inr,at0]
theorem sm_sec:([4400,4600]:List Int).map secF=[5,5]:=by decide+kernel
theorem sm_runs (home:Bool):runsO smPlan smLine home=some [5,5]:=by
 cases home
 ·exact runs_of (sm_crs false) (sm_runO false) sm_sec
 ·exact runs_of (sm_crs true) (sm_runO true) sm_sec
theorem line_of {p:Plan} {l:Lin} (h1:inr l.la 0 3600=true) (h2:sideB p l false=true) (h3:sideB p l true=true):lineB p l=true:=by
 unfold lineB;rw[h1,h2,h3];rfl
theorem sm_line:lineB smPlan smLine=true:=line_of (by decide+kernel) (side_of (sm_runs false) (by decide+kernel)) (side_of (sm_runs true) (by decide+kernel))
theorem c_known7:PureCall Tryz.prog 7 [] (Bo true):=by
 have h1:=c_Simple;have h2:=c_mRun smPlan smLine.o.W smLine.t 0 smLine.o.S [4400,4600] (sm_runO false);have h3:=c_sOffsets smPlan smLine false sm_valid sm_line (sm_runs false);have e3:offT [5,5] (smLine.c false).D ([5,5]:List Int).length=[0,25,30]:=by decide+kernel
 rw[e3]at h3;have w1:IntKind.i64.wrap (4400+999)=5399:=by decide
 have w2:IntKind.i64.wrap (Int.tdiv 5399 1000)=5:=by decide
 have w3:IntKind.i64.wrap (5+20)=25:=by decide
 have w1':IntKind.i64.wrap 5399=5399:=by decide
 have w2':IntKind.i64.wrap 5=5:=by decide
 have w3':IntKind.i64.wrap 25=25:=by decide
 refine PureCall.of_body Tryz.func7 rfl (by decide) (by simp[Tryz.ntmps7]) ?_;simp only[Tryz.ntmps7,Tryz.results7];refine aS fun K hK=>?_;simp -dsimp;apply hK;clear hK K;refine aS fun K hK=>?_;simp -dsimp;refine callK_intro _ (h1) (by simp) ?_;simp -dsimp;apply hK;clear hK K;refine aS fun K hK=>?_;simp -dsimp [smLine];refine callK_intro _ (h2) (by simp) ?_;simp -dsimp [smLine];apply hK;clear hK K;refine aS fun K hK=>?_;simp -dsimp;refine callK_intro _ (h3) (by simp) ?_;simp -dsimp;apply hK;clear hK K;refine awp_sd mixed rfl fun K hK=>?_;simp -dsimp [w1,w2,w3,w1',w2',w3'];refine idxK_intro (nCell 25) (fun _=>by simp) ?_;simp -dsimp [w1,w2,w3,w1',w2',w3'];refine idxK_intro (nCell 4400) (fun _=>by simp) ?_;simp -dsimp [w1,w2,w3,w1',w2',w3'];refine hK _ _ _ (by decide+kernel) ?_;clear hK K;exact awp_ret (by simp)
def dlB (l:Lin):Bool:=decide (l.o.S.length≤6)&&(decide (l.h.S.length≤6)&&(decide (l.o.W.length≤8)&&(decide (l.h.W.length≤8)&&(decide (200≤l.t.Brake)&&(decide (200≤l.t.Effort)&&decide (l.t.Mass≤4000))))))
def lenTo (p:Plan):Nat→Int
 |0=>0
 |k+1=>lenTo p k+p.len (k:Int)
def day1B (p:Plan) (s:Srv):Bool:=(decide (p.Nodes.length≤8)&&decide (p.Rails.length≤8))&&(decide (s.L.length≤2)&&validB p)
def dayB (p:Plan) (s:Srv):Bool:=day1B p s&&(s.L.all dlB&&(decide (lenTo p p.Rails.length≤150000)&&srvB p s))
theorem lenTo_bd {p:Plan} (hv:validB p=true):∀k,k≤p.Rails.length→0≤lenTo p k∧lenTo p k≤31000000*(k:Int)
 |0,_=>⟨Int.le_refl _,Int.le_refl _⟩
 |k+1,hk=>by
  have h1:=lenTo_bd hv k (by omega);have h2:=len_bd hv (r:=(k:Int)) (by omega) (by omega);rw[lenTo];omega
structure LinR (l:Lin):Prop where
 os:l.o.S.length≤maxLen
 hs:l.h.S.length≤maxLen
 od:l.o.D.length≤maxLen
 hd:l.h.D.length≤maxLen
 g:l.t.Grip.length≤maxLen
theorem c_day (p:Plan) (s:Srv) (hs:∀l∈s.L,LinR l) (h1:s.L.length≤maxLen) (h2:s.H.length≤maxLen) (h3:s.O.length≤maxLen):PureCall Tryz.prog 6 [p.av,s.av] (Bo (dayB p s)):=by
 have hva:=c_Valid p;have hsv:=fun h=>c_rService p s h h1 h2 h3;generalize hR:dayB p s=R;unfold dayB at hR;have hml:maxLen=9223372036854775807:=rfl;refine PureCall.of_body Tryz.func6 rfl (by decide) (by simp[Tryz.ntmps6]) ?_;simp only[Tryz.ntmps6,Tryz.results6];refine aS fun K hK=>?_;simp -dsimp;apply hK;clear hK K;refine awp_seq_k fun K1 hK1=>?_;refine aS fun K hK=>?_;simp -dsimp;refine callK_may _ (fun hm=>hva) (by simp) ?_;simp -dsimp;apply hK;clear hK K;refine awp_cond rfl (fun hc0=>?_) (fun hc0=>?_)
 ·have h0:day1B p s=false:=by
   rw[Bool.eq_false_iff];intro h;unfold day1B at h;simp only[Bool.and_eq_true,decide_eq_true_eq]at h;obtain⟨⟨a1,a2⟩,a3,a4⟩:=h;simp[a4]at hc0;omega
  rw[h0,Bool.false_and]at hR;refine aS fun K hK=>?_;simp -dsimp;apply hK;clear hK K;exact awp_ret (by simp[←hR])
 ·have h0:(p.Nodes.length≤8∧p.Rails.length≤8)∧s.L.length≤2∧validB p=true:=by
   simp at hc0;obtain⟨⟨⟨a1,a2⟩,a3⟩,a4⟩:=hc0;exact⟨⟨by omega,by omega⟩,by omega,a4⟩
  obtain⟨⟨b1,b2⟩,b3,hv⟩:=h0;have h0:day1B p s=true:=by unfold day1B;rw[hv,decide_eq_true b1,decide_eq_true b2,decide_eq_true b3];rfl
  rw[h0,Bool.true_and]at hR;refine awp_skip ?_;simp only[zT,reduceIte,Nat.reduceEqDiff];refine hK1 _ _ ?_;refine awp_prune [2,3] ?_;simp only[zP,Nat.reduceEqDiff,reduceIte];refine aS fun K hK=>?_;simp -dsimp;apply hK;clear hK K;refine awp_seq_k fun K2 hK2=>?_;refine aS fun K hK=>?_;simp -dsimp;apply hK;clear hK K;refine awp_block ?_;refine awp_prune [2,3,5,6] ?_;simp only[zP,Nat.reduceEqDiff,reduceIte];refine awp_loop_l [2,3] (α:=Nat) (fun k=>[(5,I (lenTo p k)),(6,I k)]) (fun _=>[some (.els 2 [p.cells]),some (.els 3 [s.cells])]) (fun k=>k≤p.Rails.length) (fun k=>p.Rails.length-k) 0 ?_ ?_ ?_
  ·exact Nat.zero_le _
  ·exact sub_rb [some 0,some 1] rfl (by simp[lenTo]) (by simp)
  rintro k k1;simp only[zP,Nat.reduceEqDiff,reduceIte];refine awp_seq_k fun K3 hK3=>?_;refine aS fun K hK=>?_;simp -dsimp;apply hK;clear hK K;refine awp_cond rfl (fun hc1=>?_) (fun hc1=>?_)
  ·have hkl:k<p.Rails.length:=by simpa using hc1
   have wk:=zW k (by omega);have hln:=c_rLength p (k:Int) (by omega) (by omega) (rail_ok hv (by omega) (by omega));have hb1:=lenTo_bd hv (k+1) (by omega);have wl:IntKind.i64.wrap (lenTo p k+p.len (k:Int))=lenTo p (k+1):=by show _=lenTo p k+p.len (k:Int);rw[lenTo]at hb1;exact wrap_in (by omega) (by omega)
   refine awp_skip ?_;simp only[zT,reduceIte,Nat.reduceEqDiff];refine hK3 _ _ ?_;refine awp_prune [2,3,5,6] ?_;simp only[zP,Nat.reduceEqDiff,reduceIte];refine awp_seq_k fun K4 hK4=>?_;refine awp_block ?_;refine aR fun K hK=>?_;simp -dsimp [wl];refine callK_intro _ (hln) (by simp) ?_;simp -dsimp [wl];apply hK;clear hK K;simp only[zT,reduceIte,Nat.reduceEqDiff];refine hK4 _ _ ?_;refine awp_prune [2,3,5,6] ?_;simp only[zP,Nat.reduceEqDiff,reduceIte];refine aR fun K hK=>?_;simp -dsimp [wk];apply hK;clear hK K;simp only[zT,reduceIte,Nat.reduceEqDiff];exact⟨k+1,by omega,by omega,sub_rb [some 0,some 1] rfl (by simp) (by simp)⟩
  ·have hkl:k=p.Rails.length:=by have:¬k<p.Rails.length:=(by simpa using hc1);omega
   subst hkl;refine awp_exit ?_;simp only[zT,reduceIte,Nat.reduceEqDiff];refine hK2 _ _ ?_;refine awp_prune [2,3,5] ?_;simp only[zP,Nat.reduceEqDiff,reduceIte];refine awp_seq_k fun K5 hK5=>?_;refine aS fun K hK=>?_;simp -dsimp;apply hK;clear hK K;refine awp_block ?_;refine awp_prune [2,3,5,7] ?_;simp only[zP,Nat.reduceEqDiff,reduceIte];refine awp_loop_l [2,3,5] (α:=Nat) (fun k=>[(7,I k)]) (fun _=>[some (.els 2 [p.cells]),some (.els 3 [s.cells])]) (fun k=>k≤s.L.length∧(s.L.take k).all dlB=true) (fun k=>s.L.length-k) 0 ?_ ?_ ?_
   ·exact⟨Nat.zero_le _,by simp⟩
   ·exact sub_rb [some 0,some 1] rfl (by simp) (by simp)
   rintro k ⟨k1,k2⟩;simp only[zP,Nat.reduceEqDiff,reduceIte];refine awp_seq_k fun K6 hK6=>?_;refine aS fun K hK=>?_;simp -dsimp;apply hK;clear hK K;refine awp_cond rfl (fun hc2=>?_) (fun hc2=>?_)
   ·have hkl:k<s.L.length:=by simpa using hc2
    have wk:=zW k (by omega);obtain⟨l,gl⟩:∃l,s.L[k]?=some l:=⟨_,List.getElem?_eq_getElem hkl⟩;refine awp_skip ?_;simp only[zT,reduceIte,Nat.reduceEqDiff];refine hK6 _ _ ?_;refine awp_prune [2,3,5,7] ?_;simp only[zP,Nat.reduceEqDiff,reduceIte];refine awp_seq_k fun K7 hK7=>?_;refine awp_block ?_;refine aS fun K hK=>?_;simp -dsimp [gl];apply hK;clear hK K;refine aS fun K hK=>?_;simp -dsimp;apply hK;clear hK K;refine awp_cond rfl (fun hc3=>?_) (fun hc3=>?_)
    ·have hb:dlB l=false:=by
      rw[Bool.eq_false_iff];intro h;unfold dlB at h;simp only[Bool.and_eq_true,decide_eq_true_eq]at h;simp at hc3;omega
     have hall:s.L.all dlB=false:=by rw[List.all_eq_false];exact⟨l,List.mem_of_getElem? gl,by simp[hb]⟩
     rw[hall,Bool.false_and]at hR;refine aS fun K hK=>?_;simp -dsimp;apply hK;clear hK K;exact awp_ret (by simp[←hR])
    ·have hb:dlB l=true:=by
      unfold dlB;simp only[Bool.and_eq_true,decide_eq_true_eq];simp at hc3;omega
     refine awp_skip ?_;simp only[zT,reduceIte,Nat.reduceEqDiff];refine hK7 _ _ ?_;refine awp_prune [2,3,5,7] ?_;simp only[zP,Nat.reduceEqDiff,reduceIte];refine aR fun K hK=>?_;simp -dsimp [wk];apply hK;clear hK K;simp only[zT,reduceIte,Nat.reduceEqDiff];exact⟨k+1,⟨by omega,by rw[List.take_add_one,gl,List.all_append,k2];simp[hb]⟩,by omega,sub_rb [some 0,some 1] rfl (by simp) (by simp)⟩
   ·have hkl:k=s.L.length:=by have:¬k<s.L.length:=(by simpa using hc2);omega
    rw[List.take_of_length_le (by omega)]at k2;rw[k2,Bool.true_and]at hR;have hsl:∀l∈s.L,LinS l:=fun l hl=>by
     have h:=List.all_eq_true.1 k2 l hl;unfold dlB at h;simp only[Bool.and_eq_true,decide_eq_true_eq]at h;exact⟨by omega,by omega,(hs l hl).os,(hs l hl).hs,(hs l hl).od,(hs l hl).hd,(hs l hl).g⟩
    refine awp_exit ?_;simp only[zT,reduceIte,Nat.reduceEqDiff];refine hK5 _ _ ?_;refine awp_prune [2,3,5] ?_;simp only[zP,Nat.reduceEqDiff,reduceIte];refine aS fun K hK=>?_;simp -dsimp;refine callK_may _ (fun hm=>(hsv hsl)) (by simp) ?_;simp -dsimp;apply hK;clear hK K;exact awp_ret (by simp[←hR])
end Go.Mo
end
section
namespace Go.Mo
open Go.AM Go.Cur Go.Proofs
open Go.Tram (Plan validB wayB begTo mLst)
theorem legN_fin {r:Rn} {stop:Int}:∀(f:Nat) (x:Ms) (o:Lg),(r.legN stop f x o).2.2=true→(r.legN stop f x o).1.At≤stop∧stop-(r.legN stop f x o).1.At≤1000:=by
 have harr:∀(x:Ms),r.arrB stop x=true→plF r.t x≤stop∧stop-plF r.t x≤1000:=by
  intro x h;unfold Rn.arrB at h;simp only[Bool.and_eq_true,decide_eq_true_eq,inr_iff]at h;omega
 intro f
 induction f with
 |zero=>
  intro x o h;rw[Rn.legN]at h ⊢
  split at h
  ·rename_i ha;rw[if_pos ha];exact harr x ha
  ·cases h
 | succ f ih=>
  intro x o h;rw[Rn.legN]at h ⊢
  by_cases ha:r.arrB stop x=true
  ·rw[if_pos ha];exact harr x ha
  ·rw[if_neg ha]at h ⊢
   cases hc:r.chF stop x with
   |none=>rw[hc]at h;cases h
   |some i=>
    rw[hc]at h;simp only at h ⊢
    split at h
    ·cases h
    ·rename_i hw;rw[if_neg hw];exact ih _ _ h
theorem legsN_fin (r:Rn):∀(q:List Int) (x:Ms) (L:List Lg),r.legsN q x=some L→∀(i:Nat) o s,L[i]?=some o→q[i]?=some s→o.At≤s∧s-o.At≤1000
 |[],x,L,h,i,o,s,ho,hq=>by simp at hq
 | a::q,x,L,h,i,o,s,ho,hq=>by
  rw[Rn.legsN]at h
  split at h
  ·cases h
  ·rename_i hn;rw[Option.map_eq_some_iff]at h;obtain⟨w,hw,rfl⟩:=h
   cases i with
   |zero=>
    simp only[List.getElem?_cons_zero,Option.some.injEq]at ho hq;subst ho hq;refine legN_fin 36000 x lg0 ?_
    cases hb:(r.legN a 36000 x lg0).2.2 with
    |true=>rfl
    |false=>exact absurd (Or.inl hb) hn
   |succ i=>
    simp only[List.getElem?_cons_succ]at ho hq;exact legsN_fin r q _ w hw i o s ho hq
theorem secF_law {m:Int} (h0:0≤m):m≤1000*secF m∧(1000<1000*secF m→1000*secF m-1000<m):=by
 unfold secF mxI;rw[Int.tdiv_eq_ediv_of_nonneg (by omega)]
 split<;>omega
theorem day_line {p:Plan} {s:Srv} (h:dayB p s=true) {i:Nat} {l:Lin} (hl:s.L[i]?=some l):validB p=true∧lineB p l=true:=by
 unfold dayB day1B srvB at h;simp only[Bool.and_eq_true,List.all_eq_true,List.mem_range]at h;obtain⟨⟨-,-,hv⟩,-,-,-,h2⟩:=h;have hi:=(List.getElem?_eq_some_iff.1 hl).1;have:=h2 i hi;unfold srv1B at this;simp only[Bool.and_eq_true]at this;rw[List.getD_eq_getElem?_getD,hl]at this;exact⟨hv,this.1⟩
theorem c_TopPunctual_o (p:Plan) (s:Srv) (line:Int) (hs:∀l∈s.L,LinR l) (h1:s.L.length≤maxLen) (h2:s.H.length≤maxLen) (h3:s.O.length≤maxLen):PureCall Tryz.prog 3 [p.av,s.av,I line,Bo false] (Bo true):=by
 have hda:=c_day p s hs h1 h2 h3;have hkn:=c_known7;have hml:maxLen=9223372036854775807:=rfl;refine PureCall.of_body Tryz.func3 rfl (by decide) (by simp[Tryz.ntmps3]) ?_;simp only[Tryz.ntmps3,Tryz.results3];refine aS fun K hK=>?_;simp -dsimp;apply hK;clear hK K;refine awp_seq_k fun K1 hK1=>?_;refine aS fun K hK=>?_;simp -dsimp;refine callK_intro _ (hda) (by simp) ?_;simp -dsimp;apply hK;clear hK K;refine awp_cond rfl (fun hc0=>?_) (fun hc0=>?_)
 ·refine aS fun K hK=>?_;simp -dsimp;refine callK_intro _ (hkn) (by simp) ?_;simp -dsimp;apply hK;clear hK K;exact awp_ret (by simp)
 ·have hcc:dayB p s=true∧0≤line∧line<s.L.length:=by
   simp at hc0;obtain⟨⟨a1,a2⟩,a3⟩:=hc0;exact⟨a1,by omega,by omega⟩
  obtain⟨hd,g0,g1⟩:=hcc;obtain⟨l,gl⟩:∃l,s.L[line.toNat]?=some l:=⟨_,List.getElem?_eq_getElem (by omega)⟩;obtain⟨hv,hlb⟩:=day_line hd gl;obtain⟨hla,r0,r1,q0,q1,-,-⟩:=lineB_r hlb;obtain⟨r,hr⟩:∃r,runsO p l false=some r:=by first|exact⟨r0,q0⟩|exact⟨r1,q1⟩
  have hof:=c_sOffsets p l false hv hlb hr;have hrb:=runsO_b hr;have hob:=fun k hk=>offA_bd hrb k hk;obtain⟨a1,a2,a3,a4,a5,a6,a7,a8,a9,a10,M,hM,hrM,hmb⟩:=hrb;obtain⟨hbg,L,hL,hLM⟩:=runO_legs hM;have hdr:=c_Drive p (l.c false).W l.t l.st (l.c false).S hbg;rw[hL]at hdr;simp only[drvAV]at hdr;have hfin:=legsN_fin _ _ _ _ hL;have hec:l.c false=l.o:=rfl
  try simp only[hec]at hof
  try simp only[hec]at hob
  try simp only[hec]at a1
  try simp only[hec]at a2
  try simp only[hec]at a3
  try simp only[hec]at a4
  try simp only[hec]at a6
  try simp only[hec]at a7
  try simp only[hec]at a8
  try simp only[hec]at a9
  try simp only[hec]at a10
  try simp only[hec]at hM
  try simp only[hec]at hbg
  try simp only[hec]at hdr
  try simp only[hec]at hfin
  try simp only[hec]at hL
  have hMl:M.length=L.length:=by rw[←hLM,List.length_map]
  have hrl:r.length=L.length:=by rw[hrM,List.length_map,hMl]
  have wL:IntKind.i64.wrap ((L.length:Int)+1)=(L.length:Int)+1:=wrap_in (by omega) (by omega);have wS:IntKind.i64.wrap (l.o.S.length:Int)=l.o.S.length:=wrap_in (by omega) (by omega);have n1:(L.length:Int)+1=l.o.S.length:=by omega
  have hol:=offT_len r l.o.D r.length;have n2:((offT r l.o.D r.length).length:Int)=l.o.S.length:=by omega
  have gO:=fun(k:Nat) (hk:k≤r.length)=>offT_get r l.o.D hk;generalize offT r l.o.D r.length=O at hof hol n2 gO;refine awp_skip ?_;simp only[zT,reduceIte,Nat.reduceEqDiff];refine hK1 _ _ ?_;refine awp_prune [2,3,4,5] ?_;simp only[zP,Nat.reduceEqDiff,reduceIte];refine aS fun K hK=>?_;simp -dsimp [gl,g0];apply hK;clear hK K;refine aS fun K hK=>?_;simp -dsimp;apply hK;clear hK K;refine awp_seq_k fun K2 hK2=>?_;refine aS fun K hK=>?_;simp -dsimp;apply hK;clear hK K;refine awp_cond rfl (fun hc1=>?_) (fun hc1=>?_)
  ·simp at hc1
  ·refine awp_skip ?_;simp only[zT,reduceIte,Nat.reduceEqDiff];refine hK2 _ _ ?_;refine awp_prune [3,4,9,10] ?_;simp only[zP,Nat.reduceEqDiff,reduceIte];refine aS fun K hK=>?_;simp -dsimp;refine callK_intro _ (hdr) (by simp) ?_;simp -dsimp;apply hK;clear hK K;refine aS fun K hK=>?_;simp -dsimp;refine callK_intro _ (hof) (by simp) ?_;simp -dsimp;apply hK;clear hK K;refine awp_seq_k fun K3 hK3=>?_;refine aS fun K hK=>?_;simp -dsimp [n1,wS,n2];apply hK;clear hK K;refine awp_cond rfl (fun hc2=>?_) (fun hc2=>?_)
   ·simp at hc2
   ·refine awp_skip ?_;simp only[zT,reduceIte,Nat.reduceEqDiff];refine hK3 _ _ ?_;refine awp_prune [10,11,13] ?_;simp only[zP,Nat.reduceEqDiff,reduceIte];refine awp_seq_k fun K4 hK4=>?_;refine aS fun K hK=>?_;simp -dsimp;apply hK;clear hK K;refine awp_block ?_;refine awp_prune [10,11,13,15] ?_;simp only[zP,Nat.reduceEqDiff,reduceIte];refine awp_loop_l [10,11,13] (α:=Nat) (fun k=>[(15,I k)]) (fun _=>[some (.els 2 [p.cells]),some (.els 3 [s.cells]),some (.els 18 [l.cells]),some (.els 3 [l.o.cells])]) (fun k=>k≤L.length) (fun k=>L.length-k) 0 ?_ ?_ ?_
    ·exact Nat.zero_le _
    ·exact sub_rb [some 0,some 1,some 2,some 3] rfl (by simp) (by simp)
    rintro k k1;simp only[zP,Nat.reduceEqDiff,reduceIte];refine awp_seq_k fun K5 hK5=>?_;refine aS fun K hK=>?_;simp -dsimp;apply hK;clear hK K;refine awp_cond rfl (fun hc3=>?_) (fun hc3=>?_)
    ·have hkl:k<L.length:=by simpa using hc3
     have wk:=zW k (by omega);have k0:(0:Int)≤(k:Int)+1:=by omega
     obtain⟨o,go⟩:∃o,L[k]?=some o:=⟨_,List.getElem?_eq_getElem hkl⟩;have gM:M[k]?=some o.Mi:=by rw[←hLM,List.getElem?_map,go];rfl
     have hm:=hmb _ (List.mem_of_getElem? gM);have hrk:at0 r k=secF o.Mi:=at0_of (by rw[hrM,List.getElem?_map,gM];rfl);have hsl:=secF_law hm.1;have hsb:=secF_bd hm.1 hm.2;have ek:((k+1:Nat):Int)=(k:Int)+1:=by omega
     have gD:=at0_nat (l:=l.o.D) (k:=k+1) (by omega);have gS:=at0_nat (l:=l.o.S) (k:=k+1) (by omega);rw[ek]at gD gS;have hd1:=a6 (k+1) (by omega);rw[ek]at hd1;have hs9:=a9 (k+1) (by omega);rw[ek]at hs9;have hbgl:=Go.Tram.begTo_bd hv a1 l.o.W.length (Nat.le_refl _);have hwl:=(Go.Tram.way_len a1).2;have gO0:=gO k (by omega);have gO1:=gO (k+1) (by omega);have o0:=hob k (by omega);have o1:=hob (k+1) (by omega);have hoe:offA r l.o.D (k+1)=offA r l.o.D k+at0 r k+at0 l.o.D ((k:Int)+1):=rfl;have w1:IntKind.i64.wrap (offA r l.o.D (k+1)-at0 l.o.D ((k:Int)+1))=offA r l.o.D (k+1)-at0 l.o.D ((k:Int)+1):=wrap_in (by omega) (by omega);have w2:IntKind.i64.wrap (offA r l.o.D (k+1)-at0 l.o.D ((k:Int)+1)-offA r l.o.D k)=secF o.Mi:=by rw[←hrk,hoe,wrap_in (by omega) (by omega)];omega
     have w3:IntKind.i64.wrap (1000*secF o.Mi)=1000*secF o.Mi:=wrap_in (by omega) (by omega);have w4:IntKind.i64.wrap (1000*secF o.Mi-1000)=1000*secF o.Mi-1000:=wrap_in (by omega) (by omega);have hat:=hfin k o (at0 l.o.S ((k:Int)+1)) go (by rw[List.getElem?_drop,Nat.add_comm 1 k];exact gS);have w5:IntKind.i64.wrap (at0 l.o.S ((k:Int)+1)-o.At)=at0 l.o.S ((k:Int)+1)-o.At:=wrap_in (by omega) (by omega);have goe:∀h,L[k]'h=o:=fun h=>(List.getElem_eq_iff h).2 go;have gO0e:∀h,O[k]'h=offA r l.o.D k:=fun h=>(List.getElem_eq_iff h).2 gO0;have gO1e:∀h,O[k+1]'h=offA r l.o.D (k+1):=fun h=>(List.getElem_eq_iff h).2 gO1;refine awp_skip ?_;simp only[zT,reduceIte,Nat.reduceEqDiff];refine hK5 _ _ ?_;refine awp_prune [10,11,13,15] ?_;simp only[zP,Nat.reduceEqDiff,reduceIte];refine awp_seq_k fun K6 hK6=>?_;refine awp_block ?_;refine awp_sd mixed rfl fun K hK=>?_;simp -dsimp [wk,k0,gO0,gO1,gO0e,gO1e,gD,w1,w2,w3];refine hK _ _ _ (by decide+kernel) ?_;clear hK K;refine awp_seq_k fun K7 hK7=>?_;refine aS fun K hK=>?_;simp -dsimp [go,goe,w4];refine idxK_intro (o.cells) (fun _=>by simp[go]) ?_;simp -dsimp [go,goe,w4];apply hK;clear hK K;refine awp_cond rfl (fun hc4=>?_) (fun hc4=>?_)
     ·exfalso;simp at hc4;omega
     ·refine awp_skip ?_;simp only[zT,reduceIte,Nat.reduceEqDiff];refine hK7 _ _ ?_;refine awp_prune [10,11,13,15] ?_;simp only[zP,Nat.reduceEqDiff,reduceIte];refine awp_sd mixed rfl fun K hK=>?_;simp -dsimp [go,goe,wk,k0,gS,w5];refine idxK_intro (nCell (at0 l.o.S ((k:Int)+1))) (fun _=>by simp[gS]) ?_;simp -dsimp [go,goe,wk,k0,gS,w5];refine idxK_intro (o.cells) (fun _=>by simp[go]) ?_;simp -dsimp [go,goe,wk,k0,gS,w5];refine hK _ _ _ (by decide+kernel) ?_;clear hK K;refine awp_cond rfl (fun hc5=>?_) (fun hc5=>?_)
      ·exfalso;simp at hc5;omega
      ·refine awp_skip ?_;simp only[zT,reduceIte,Nat.reduceEqDiff];refine hK6 _ _ ?_;refine awp_prune [10,11,13,15] ?_;simp only[zP,Nat.reduceEqDiff,reduceIte];refine aR fun K hK=>?_;simp -dsimp [wk];apply hK;clear hK K;simp only[zT,reduceIte,Nat.reduceEqDiff];exact⟨k+1,by omega,by omega,sub_rb [some 0,some 1,some 2,some 3] rfl (by simp) (by simp)⟩
    ·refine awp_exit ?_;simp only[zT,reduceIte,Nat.reduceEqDiff];refine hK4 _ _ ?_;refine awp_prune [] ?_;simp only[zP,Nat.reduceEqDiff,reduceIte];refine aS fun K hK=>?_;simp -dsimp;refine callK_intro _ (hkn) (by simp) ?_;simp -dsimp;apply hK;clear hK K;exact awp_ret (by simp)
theorem c_TopPunctual_h (p:Plan) (s:Srv) (line:Int) (hs:∀l∈s.L,LinR l) (h1:s.L.length≤maxLen) (h2:s.H.length≤maxLen) (h3:s.O.length≤maxLen):PureCall Tryz.prog 3 [p.av,s.av,I line,Bo true] (Bo true):=by
 have hda:=c_day p s hs h1 h2 h3;have hkn:=c_known7;have hml:maxLen=9223372036854775807:=rfl;refine PureCall.of_body Tryz.func3 rfl (by decide) (by simp[Tryz.ntmps3]) ?_;simp only[Tryz.ntmps3,Tryz.results3];refine aS fun K hK=>?_;simp -dsimp;apply hK;clear hK K;refine awp_seq_k fun K1 hK1=>?_;refine aS fun K hK=>?_;simp -dsimp;refine callK_intro _ (hda) (by simp) ?_;simp -dsimp;apply hK;clear hK K;refine awp_cond rfl (fun hc0=>?_) (fun hc0=>?_)
 ·refine aS fun K hK=>?_;simp -dsimp;refine callK_intro _ (hkn) (by simp) ?_;simp -dsimp;apply hK;clear hK K;exact awp_ret (by simp)
 ·have hcc:dayB p s=true∧0≤line∧line<s.L.length:=by
   simp at hc0;obtain⟨⟨a1,a2⟩,a3⟩:=hc0;exact⟨a1,by omega,by omega⟩
  obtain⟨hd,g0,g1⟩:=hcc;obtain⟨l,gl⟩:∃l,s.L[line.toNat]?=some l:=⟨_,List.getElem?_eq_getElem (by omega)⟩;obtain⟨hv,hlb⟩:=day_line hd gl;obtain⟨hla,r0,r1,q0,q1,-,-⟩:=lineB_r hlb;obtain⟨r,hr⟩:∃r,runsO p l true=some r:=by first|exact⟨r0,q0⟩|exact⟨r1,q1⟩
  have hof:=c_sOffsets p l true hv hlb hr;have hrb:=runsO_b hr;have hob:=fun k hk=>offA_bd hrb k hk;obtain⟨a1,a2,a3,a4,a5,a6,a7,a8,a9,a10,M,hM,hrM,hmb⟩:=hrb;obtain⟨hbg,L,hL,hLM⟩:=runO_legs hM;have hdr:=c_Drive p (l.c true).W l.t l.st (l.c true).S hbg;rw[hL]at hdr;simp only[drvAV]at hdr;have hfin:=legsN_fin _ _ _ _ hL;have hec:l.c true=l.h:=rfl
  try simp only[hec]at hof
  try simp only[hec]at hob
  try simp only[hec]at a1
  try simp only[hec]at a2
  try simp only[hec]at a3
  try simp only[hec]at a4
  try simp only[hec]at a6
  try simp only[hec]at a7
  try simp only[hec]at a8
  try simp only[hec]at a9
  try simp only[hec]at a10
  try simp only[hec]at hM
  try simp only[hec]at hbg
  try simp only[hec]at hdr
  try simp only[hec]at hfin
  try simp only[hec]at hL
  have hMl:M.length=L.length:=by rw[←hLM,List.length_map]
  have hrl:r.length=L.length:=by rw[hrM,List.length_map,hMl]
  have wL:IntKind.i64.wrap ((L.length:Int)+1)=(L.length:Int)+1:=wrap_in (by omega) (by omega);have wS:IntKind.i64.wrap (l.h.S.length:Int)=l.h.S.length:=wrap_in (by omega) (by omega);have n1:(L.length:Int)+1=l.h.S.length:=by omega
  have hol:=offT_len r l.h.D r.length;have n2:((offT r l.h.D r.length).length:Int)=l.h.S.length:=by omega
  have gO:=fun(k:Nat) (hk:k≤r.length)=>offT_get r l.h.D hk;generalize offT r l.h.D r.length=O at hof hol n2 gO;refine awp_skip ?_;simp only[zT,reduceIte,Nat.reduceEqDiff];refine hK1 _ _ ?_;refine awp_prune [2,3,4,5] ?_;simp only[zP,Nat.reduceEqDiff,reduceIte];refine aS fun K hK=>?_;simp -dsimp [gl,g0];apply hK;clear hK K;refine aS fun K hK=>?_;simp -dsimp;apply hK;clear hK K;refine awp_seq_k fun K2 hK2=>?_;refine aS fun K hK=>?_;simp -dsimp;apply hK;clear hK K;refine awp_cond rfl (fun hc1=>?_) (fun hc1=>?_)
  ·refine aR fun K hK=>?_;simp -dsimp;apply hK;clear hK K;simp only[zT,reduceIte,Nat.reduceEqDiff];refine hK2 _ _ ?_;refine awp_prune [3,4,9,10] ?_;simp only[zP,Nat.reduceEqDiff,reduceIte];refine aS fun K hK=>?_;simp -dsimp;refine callK_intro _ (hdr) (by simp) ?_;simp -dsimp;apply hK;clear hK K;refine aS fun K hK=>?_;simp -dsimp;refine callK_intro _ (hof) (by simp) ?_;simp -dsimp;apply hK;clear hK K;refine awp_seq_k fun K3 hK3=>?_;refine aS fun K hK=>?_;simp -dsimp [n1,wS,n2];apply hK;clear hK K;refine awp_cond rfl (fun hc2=>?_) (fun hc2=>?_)
   ·simp at hc2
   ·refine awp_skip ?_;simp only[zT,reduceIte,Nat.reduceEqDiff];refine hK3 _ _ ?_;refine awp_prune [10,11,13] ?_;simp only[zP,Nat.reduceEqDiff,reduceIte];refine awp_seq_k fun K4 hK4=>?_;refine aS fun K hK=>?_;simp -dsimp;apply hK;clear hK K;refine awp_block ?_;refine awp_prune [10,11,13,15] ?_;simp only[zP,Nat.reduceEqDiff,reduceIte];refine awp_loop_l [10,11,13] (α:=Nat) (fun k=>[(15,I k)]) (fun _=>[some (.els 2 [p.cells]),some (.els 3 [s.cells]),some (.els 18 [l.cells]),some (.els 3 [l.h.cells])]) (fun k=>k≤L.length) (fun k=>L.length-k) 0 ?_ ?_ ?_
    ·exact Nat.zero_le _
    ·exact sub_rb [some 0,some 1,some 2,some 3] rfl (by simp) (by simp)
    rintro k k1;simp only[zP,Nat.reduceEqDiff,reduceIte];refine awp_seq_k fun K5 hK5=>?_;refine aS fun K hK=>?_;simp -dsimp;apply hK;clear hK K;refine awp_cond rfl (fun hc3=>?_) (fun hc3=>?_)
    ·have hkl:k<L.length:=by simpa using hc3
     have wk:=zW k (by omega);have k0:(0:Int)≤(k:Int)+1:=by omega
     obtain⟨o,go⟩:∃o,L[k]?=some o:=⟨_,List.getElem?_eq_getElem hkl⟩;have gM:M[k]?=some o.Mi:=by rw[←hLM,List.getElem?_map,go];rfl
     have hm:=hmb _ (List.mem_of_getElem? gM);have hrk:at0 r k=secF o.Mi:=at0_of (by rw[hrM,List.getElem?_map,gM];rfl);have hsl:=secF_law hm.1;have hsb:=secF_bd hm.1 hm.2;have ek:((k+1:Nat):Int)=(k:Int)+1:=by omega
     have gD:=at0_nat (l:=l.h.D) (k:=k+1) (by omega);have gS:=at0_nat (l:=l.h.S) (k:=k+1) (by omega);rw[ek]at gD gS;have hd1:=a6 (k+1) (by omega);rw[ek]at hd1;have hs9:=a9 (k+1) (by omega);rw[ek]at hs9;have hbgl:=Go.Tram.begTo_bd hv a1 l.h.W.length (Nat.le_refl _);have hwl:=(Go.Tram.way_len a1).2;have gO0:=gO k (by omega);have gO1:=gO (k+1) (by omega);have o0:=hob k (by omega);have o1:=hob (k+1) (by omega);have hoe:offA r l.h.D (k+1)=offA r l.h.D k+at0 r k+at0 l.h.D ((k:Int)+1):=rfl;have w1:IntKind.i64.wrap (offA r l.h.D (k+1)-at0 l.h.D ((k:Int)+1))=offA r l.h.D (k+1)-at0 l.h.D ((k:Int)+1):=wrap_in (by omega) (by omega);have w2:IntKind.i64.wrap (offA r l.h.D (k+1)-at0 l.h.D ((k:Int)+1)-offA r l.h.D k)=secF o.Mi:=by rw[←hrk,hoe,wrap_in (by omega) (by omega)];omega
     have w3:IntKind.i64.wrap (1000*secF o.Mi)=1000*secF o.Mi:=wrap_in (by omega) (by omega);have w4:IntKind.i64.wrap (1000*secF o.Mi-1000)=1000*secF o.Mi-1000:=wrap_in (by omega) (by omega);have hat:=hfin k o (at0 l.h.S ((k:Int)+1)) go (by rw[List.getElem?_drop,Nat.add_comm 1 k];exact gS);have w5:IntKind.i64.wrap (at0 l.h.S ((k:Int)+1)-o.At)=at0 l.h.S ((k:Int)+1)-o.At:=wrap_in (by omega) (by omega);have goe:∀h,L[k]'h=o:=fun h=>(List.getElem_eq_iff h).2 go;have gO0e:∀h,O[k]'h=offA r l.h.D k:=fun h=>(List.getElem_eq_iff h).2 gO0;have gO1e:∀h,O[k+1]'h=offA r l.h.D (k+1):=fun h=>(List.getElem_eq_iff h).2 gO1;refine awp_skip ?_;simp only[zT,reduceIte,Nat.reduceEqDiff];refine hK5 _ _ ?_;refine awp_prune [10,11,13,15] ?_;simp only[zP,Nat.reduceEqDiff,reduceIte];refine awp_seq_k fun K6 hK6=>?_;refine awp_block ?_;refine awp_sd mixed rfl fun K hK=>?_;simp -dsimp [wk,k0,gO0,gO1,gO0e,gO1e,gD,w1,w2,w3];refine hK _ _ _ (by decide+kernel) ?_;clear hK K;refine awp_seq_k fun K7 hK7=>?_;refine aS fun K hK=>?_;simp -dsimp [go,goe,w4];refine idxK_intro (o.cells) (fun _=>by simp[go]) ?_;simp -dsimp [go,goe,w4];apply hK;clear hK K;refine awp_cond rfl (fun hc4=>?_) (fun hc4=>?_)
     ·exfalso;simp at hc4;omega
     ·refine awp_skip ?_;simp only[zT,reduceIte,Nat.reduceEqDiff];refine hK7 _ _ ?_;refine awp_prune [10,11,13,15] ?_;simp only[zP,Nat.reduceEqDiff,reduceIte];refine awp_sd mixed rfl fun K hK=>?_;simp -dsimp [go,goe,wk,k0,gS,w5];refine idxK_intro (nCell (at0 l.h.S ((k:Int)+1))) (fun _=>by simp[gS]) ?_;simp -dsimp [go,goe,wk,k0,gS,w5];refine idxK_intro (o.cells) (fun _=>by simp[go]) ?_;simp -dsimp [go,goe,wk,k0,gS,w5];refine hK _ _ _ (by decide+kernel) ?_;clear hK K;refine awp_cond rfl (fun hc5=>?_) (fun hc5=>?_)
      ·exfalso;simp at hc5;omega
      ·refine awp_skip ?_;simp only[zT,reduceIte,Nat.reduceEqDiff];refine hK6 _ _ ?_;refine awp_prune [10,11,13,15] ?_;simp only[zP,Nat.reduceEqDiff,reduceIte];refine aR fun K hK=>?_;simp -dsimp [wk];apply hK;clear hK K;simp only[zT,reduceIte,Nat.reduceEqDiff];exact⟨k+1,by omega,by omega,sub_rb [some 0,some 1,some 2,some 3] rfl (by simp) (by simp)⟩
    ·refine awp_exit ?_;simp only[zT,reduceIte,Nat.reduceEqDiff];refine hK4 _ _ ?_;refine awp_prune [] ?_;simp only[zP,Nat.reduceEqDiff,reduceIte];refine aS fun K hK=>?_;simp -dsimp;refine callK_intro _ (hkn) (by simp) ?_;simp -dsimp;apply hK;clear hK K;exact awp_ret (by simp)
  ·simp at hc1
theorem c_TopPunctual (p:Plan) (s:Srv) (line:Int) (home:Bool) (hs:∀l∈s.L,LinR l) (h1:s.L.length≤maxLen) (h2:s.H.length≤maxLen) (h3:s.O.length≤maxLen):PureCall Tryz.prog 3 [p.av,s.av,I line,Bo home] (Bo true):=by
 cases home
 ·exact c_TopPunctual_o p s line hs h1 h2 h3
 ·exact c_TopPunctual_h p s line hs h1 h2 h3
end Go.Mo
end
section
namespace Go.Mo
open Go.AM Go.Proofs Go.Cur
open Go.Tram (Shaped sh_moves)
theorem list3c {α:Type} {l:List α} (h:l.length=3):∃a b c,l=[a,b,c]:=by match l,h with|[a,b,c],_=>exact⟨a,b,c,rfl⟩
theorem list18 {α:Type} {l:List α} (h:l.length=18):∃a1 a2 a3 a4 a5 a6 b0 b1 b2 b3 b4 b5 b6 b7 b8 b9 c1 c2,l=[a1,a2,a3,a4,a5,a6,b0,b1,b2,b3,b4,b5,b6,b7,b8,b9,c1,c2]:=by
 match l,h with
 |[a1,a2,a3,a4,a5,a6,b0,b1,b2,b3,b4,b5,b6,b7,b8,b9,c1,c2],_=>exact⟨a1,a2,a3,a4,a5,a6,b0,b1,b2,b3,b4,b5,b6,b7,b8,b9,c1,c2,rfl⟩
theorem arg_bool {H:Type} {enc:TypeId×Value→H} {W:World} {base:Nat} {v:Value} {d:DataW H} {p:List MemPlace}
  (hv:Value.okWide Tryz.prog W .any base 4 v) (h:DataW.Trod enc Tryz.prog W 0 (fun _=>true) true 4 v d p):∃b,RepP W (fun _=>False) (Bo b) v:=by
 obtain⟨b,rfl,rfl,rfl⟩:=Go.RowKit.open_bool und_bool2 hv h;exact⟨b, .v _⟩
theorem sh_course {n:Nat} {avs:List AV} (h:Shaped Tryz.prog (n+4) 34 avs):∃c:Crs,avs=c.cells∧c.S.length≤maxLen∧c.D.length≤maxLen:=by
 obtain⟨hz,h2⟩:=shaped_agg (by kernel_rfl) td34 h;obtain⟨a,b,c,rfl⟩:=list3c hz;obtain⟨W,h0,b0,_⟩:=sh_moves (h2 (0,1,32) (by simp));obtain⟨S,h1,b1⟩:=sh_nums (h2 (1,1,27) (by simp));obtain⟨D,h3,b3⟩:=sh_nums (h2 (2,1,27) (by simp));simp at h0 h1 h3;subst h0 h1 h3;exact⟨⟨W,S,D⟩,rfl,b1,b3⟩
theorem sh_line {n:Nat} {avs:List AV} (h:Shaped Tryz.prog (n+5) 38 avs):∃l:Lin,avs=l.cells∧LinR l:=by
 obtain⟨hz,h2⟩:=shaped_agg (by kernel_rfl) td38 h;obtain⟨a1,a2,a3,a4,a5,a6,b0,b1,b2,b3,b4,b5,b6,b7,b8,b9,c1,c2,rfl⟩:=list18 hz;obtain⟨o,h0,o1,o2⟩:=sh_course (h2 (0,3,34) (by simp));obtain⟨hh,h1,p1,p2⟩:=sh_course (h2 (3,3,34) (by simp));obtain⟨t,h3,q1⟩:=sh_train (h2 (6,10,36) (by simp));obtain⟨x,h4,_⟩:=sh_int (h2 (16,1,3) (by simp));obtain⟨y,h5,_⟩:=sh_int (h2 (17,1,3) (by simp));simp at h0 h1 h3 h4 h5;obtain⟨r1,r2,r3⟩:=h0;obtain⟨r4,r5,r6⟩:=h1;obtain⟨t0,t1,t2,t3,t4,t5,t6,t7,t8,t9⟩:=h3;subst r1 r2 r3 r4 r5 r6 t0 t1 t2 t3 t4 t5 t6 t7 t8 t9 h4 h5;exact⟨⟨o,hh,t,x,y⟩,rfl,⟨o1,p1,o2,p2,q1⟩⟩
theorem sh_srv {n:Nat} {avs:List AV} (h:Shaped Tryz.prog (n+7) 29 avs):∃s:Srv,avs=s.cells∧(∀l∈s.L,LinR l)∧s.L.length≤maxLen∧s.H.length≤maxLen∧s.O.length≤maxLen:=by
 obtain⟨hz,h2⟩:=shaped_agg (by kernel_rfl) td29 h;obtain⟨a,b,c,rfl⟩:=list3c hz;obtain⟨els,hl,hb,he⟩:=shaped_slice (by kernel_rfl) td26 (h2 (0,1,26) (by simp));obtain⟨L,rfl,hR⟩:=list_of (c:=Lin.cells) (R:=LinR) (fun el hel=>by obtain⟨l,h1,h2⟩:=sh_line (he el hel);exact⟨l,h1,h2⟩);obtain⟨H,h1,b1⟩:=sh_nums (h2 (1,1,27) (by simp));obtain⟨O,h3,b3⟩:=sh_nums (h2 (2,1,27) (by simp));rw[List.length_map]at hb;simp at hl h1 h3;subst hl h1 h3;exact⟨⟨L,H,O⟩,rfl,hR,hb,b1,b3⟩
end Go.Mo
end
