import Derived.Test.YtonfebmohoopgaaK4
import Derived.Lib.Mul64
set_option maxRecDepth 100000
set_option maxHeartbeats 8000000
set_option linter.unusedVariables false
set_option linter.unusedSimpArgs false
section
namespace Go.Cur
open Go.AM Go.Proofs
theorem upN_any (p:List Nat) (k:Nat) (x:Int) (h0:0≤x):((upN p).take k).any (fun y=>decide (x=y))=(p.take k).any fun y=>decide (x.toNat=y):=by
 unfold upN;rw[←List.map_take,List.any_map]
 congr 1
 funext y
 exact decide_eq_decide.2 (by simp;omega)
theorem firstI_idx {p:List Nat} {x:Int} (h0:0≤x) (hx:x.toNat∈p):firstI (upN p) (fun y=>decide (x=y))=((p.idxOf x.toNat:Nat):Int):=by
 have hg:=idxOf_get hx;refine firstI_hit (x:=x) (by have:=upN_get hg;rwa [Int.toNat_of_nonneg h0]at this) (by simp) ?_;rw[upN_any _ _ _ h0];rw[List.any_eq_false];intro y hy;obtain⟨j,hj⟩:=List.getElem?_of_mem hy;have hjl:=(List.getElem?_eq_some_iff.1 hj).1;rw[List.length_take]at hjl;rw[List.getElem?_take,if_pos (by omega)]at hj;have hlt:j<p.idxOf x.toNat:=by omega
 have hn:=List.not_of_lt_findIdx (p:=(· ==x.toNat)) (xs:=p) hlt
 have hy2:p[j]'(by omega)=y:=(List.getElem?_eq_some_iff.1 hj).2;simp only[decide_eq_true_eq];rintro e;rw[hy2,←e]at hn;simp at hn
theorem c_where (g:Gr) (s:Sta) (p:List Nat) (f:Int) (hp:p.length≤1000) (h0:0≤f) (h1:f<g.Feeds.length) (hA:0≤(fdI g f).At) (hm:(fdI g f).At.toNat∈p):
  PureCall Try.prog 73 [I f, .iptr [iL (upN p)], .iptr [net g s]] (I ((p.idxOf (fdI g f).At.toNat:Nat):Int)):=by
 have gf:=fdI_get h0 h1;have hi:=c_IndexN (upN p) (fdI g f).At (by rw[upN_len];omega);rw[firstI_idx hA hm]at hi;refine PureCall.of_body Try.func73 rfl (by decide) (by simp[Try.ntmps73]) ?_;simp only[Try.ntmps73,Try.results73];refine aS fun K hK=>?_;simp -dsimp;apply hK;clear hK K;refine awp_sd mixed rfl fun K hK=>?_;simp -dsimp [gf,h0];refine callK_intro _ (hi) (by simp) ?_;simp -dsimp [gf,h0];refine hK _ _ _ (by decide+kernel) ?_;clear hK K;exact awp_ret (by simp)
def fitB (P:Part) (m a:Nat):Bool:=(List.range m).all fun b=>if a.testBit b then decide (0≤P.V b*P.den (bitS a)-P.num (bitS a) (P.p b))else decide (P.V b*P.den (bitS a)-P.num (bitS a) (P.p b)≤0)
def fitC (V:Nat→Int) (q:Nat→Nat) (nu:Nat→Int) (de:Int) (a b:Nat):Bool:=if a.testBit b then decide (0≤V b*de-nu (q b))else decide (V b*de-nu (q b)≤0)
theorem fitB_eq (P:Part) (m a:Nat):fitB P m a=(List.range m).all (fitC P.V P.p (P.num (bitS a)) (P.den (bitS a)) a):=rfl
theorem all_succ (f:Nat→Bool) (b:Nat):(List.range (b+1)).all f=((List.range b).all f&&f b):=by rw[List.range_succ,List.all_append];simp
def zerosL (n:Nat):List Int:=List.replicate n 0
def sumU (us:Kvs) (p:List Nat):Int:=sm (fun x=>igt us x) p
def noneU (us:Kvs) (p:List Nat):Bool:=p.all fun(x:Nat)=>igt us x==0
theorem sumU_snoc {us:Kvs} {p:List Nat} {k x:Nat} (h:p[k]?=some x):sumU us (p.take (k+1))=sumU us (p.take k)+igt us x:=by
 unfold sumU;rw[List.take_add_one,h,sm_append];show _+(igt us x+0)=_;omega
theorem noneU_snoc {us:Kvs} {p:List Nat} {k x:Nat} (h:p[k]?=some x):noneU us (p.take (k+1))=(noneU us (p.take k)&&(igt us x==0)):=by
 unfold noneU;rw[List.take_add_one,h,List.all_append];simp
theorem sumU_bd {us:Kvs} (hus:∀x,-40≤igt us x∧igt us x≤40):∀p:List Nat,-40*(p.length:Int)≤sumU us p∧sumU us p≤40*(p.length:Int)
 |[]=>by simp[sumU,sm]
 |x::p=>by
  have h1:=hus x;have h2:=sumU_bd hus p;unfold sumU at h2 ⊢;rw[sm,List.length_cons];omega
def shiftL (x0:Int) (xs:List Int):Int:=xs.foldl maxI x0
structure NetOk (g:Gr) (s:Sta):Prop where
 gr:grB g=true
 sf:s.Feeds.length=g.Feeds.length
 sw:s.Wires.length=g.Wires.length
structure PartOk (g:Gr) (s:Sta) (p:List Nat):Prop where
 n1:1≤p.length
 n10:p.length≤10
 nd:p.Nodup
 cl:∀w∈onW g.Wires s.Wires,w.a∈p↔w.b∈p
theorem NetOk.wires {g:Gr} {s:Sta} (h:NetOk g s):∀w∈g.Wires,wrB g w=true:=by
 have h1:=h.gr;simp only[grB,Bool.and_eq_true]at h1;have key:∀k,wrTo g k=true→∀i,i<k→∀w,g.Wires[i]?=some w→wrB g w=true:=by
  intro k
  induction k with
  |zero=>intro _ i hi;omega
  |succ k ih=>
   intro hk i hi w hw;simp only[wrTo,Bool.and_eq_true]at hk
   rcases Nat.lt_succ_iff_lt_or_eq.1 hi with h|h
   ·exact ih hk.1 i h w hw
   ·subst h;have:=hk.2;rw[hw]at this;simp only[Bool.and_eq_true]at this;exact this.1
 intro w hw;obtain⟨i,hi⟩:=List.getElem?_of_mem hw;exact key _ h1.1.2 i (List.getElem?_eq_some_iff.1 hi).1 w hi
theorem NetOk.feeds {g:Gr} {s:Sta} (h:NetOk g s):∀f∈g.Feeds,0≤f.At∧f.At<g.Nodes∧1≤f.Volts∧f.Volts≤1000∧1≤f.Siem∧f.Siem≤4∧0≤f.Limit∧f.Limit≤2000:=by
 have h1:=h.gr;simp only[grB,Bool.and_eq_true]at h1;have key:∀k,fdTo g k=true→∀i,i<k→∀f,g.Feeds[i]?=some f→inr f.At 0 (g.Nodes-1)=true∧inr f.Volts 1 1000=true∧inr f.Siem 1 4=true∧inr f.Limit 0 2000=true:=by
  intro k
  induction k with
  |zero=>intro _ i hi;omega
  |succ k ih=>
   intro hk i hi w hw;simp only[fdTo,Bool.and_eq_true]at hk
   rcases Nat.lt_succ_iff_lt_or_eq.1 hi with h|h
   ·exact ih hk.1 i h w hw
   ·subst h;have:=hk.2;rw[hw]at this;simp only[fdB,Bool.and_eq_true]at this;exact⟨this.1.1.1.1,this.1.1.1.2,this.1.1.2,this.1.2⟩
 intro f hf;obtain⟨i,hi⟩:=List.getElem?_of_mem hf;have:=key _ h1.2 i (List.getElem?_eq_some_iff.1 hi).1 f hi;simp only[inr_iff]at this;omega
theorem feedL_mem {g:Gr} {s:Sta} {p:List Nat} {f:Int} (h:f∈feedL g s (upN p)):0≤f∧f<g.Feeds.length∧(fdI g f).At.toNat∈p∧bAt s.Feeds f.toNat=true:=by
 unfold feedL at h;rw[List.mem_filter,upI_mem]at h;obtain⟨⟨h0,h1⟩,h2⟩:=h;simp only[fdOn,Bool.and_eq_true,decide_eq_true_eq]at h2;exact⟨h0,h1,(upN_mem.1 h2.2).2,h2.1⟩
theorem feed_at {g:Gr} {s:Sta} {p:List Nat} {fs:List Int} (hnt:NetOk g s) (hfs:fs=feedL g s (upN p)) {b:Nat} (hb:b<fs.length):
  fs[b]?=some (at0 fs b)∧0≤at0 fs b∧at0 fs b<g.Feeds.length∧g.Feeds[(at0 fs b).toNat]?=some (fdI g (at0 fs b))∧0≤(fdI g (at0 fs b)).At∧(fdI g (at0 fs b)).At.toNat∈p∧1≤(fdI g (at0 fs b)).Volts∧(fdI g (at0 fs b)).Volts≤1000∧1≤(fdI g (at0 fs b)).Siem∧(fdI g (at0 fs b)).Siem≤4:=by
 have h1:=at0_nat hb;have hm:=feedL_mem (by rw[←hfs];exact List.mem_of_getElem? h1);have h2:=fdI_get hm.1 hm.2.1;have h3:=hnt.feeds _ (List.mem_of_getElem? h2);exact⟨h1,hm.1,hm.2.1,h2,h3.1,hm.2.2.1,h3.2.2.1,h3.2.2.2.1,h3.2.2.2.2.1,h3.2.2.2.2.2.1⟩
theorem shiftL_snoc {x0:Int} {xs:List Int} {b:Nat} {x:Int} (h:xs[b]?=some x):shiftL x0 (xs.take (b+1))=maxI (shiftL x0 (xs.take b)) x:=by
 unfold shiftL;rw[List.take_add_one,h,List.foldl_append];rfl
theorem maxI_bd {x y B:Int} (h1:-B≤x∧x≤B) (h2:-B≤y∧y≤B):-B≤maxI x y∧maxI x y≤B:=by
 unfold maxI;split<;>omega
theorem shiftL_bd {B:Int}:∀(xs:List Int) (x0:Int),(-B≤x0∧x0≤B)→(∀x∈xs,-B≤x∧x≤B)→ -B≤shiftL x0 xs∧shiftL x0 xs≤B
 |[],x0,h,_=>h
 |x::xs,x0,h,hx=>by
  unfold shiftL;rw[List.foldl_cons];exact shiftL_bd xs _ (maxI_bd h (hx x (by simp))) fun y hy=>hx y (by simp[hy])
def shl (nl:List Int) (sh:Int) (i:Nat):List Int:=(nl.take i).map (fun x=>x+sh)++nl.drop i
theorem shl_len (nl:List Int) (sh:Int) (i:Nat):(shl nl sh i).length=nl.length:=by
 unfold shl;simp only[List.length_append,List.length_map,List.length_take,List.length_drop];omega
theorem shl_get {nl:List Int} {sh:Int} {i:Nat} {x:Int} (h:nl[i]?=some x):(shl nl sh i)[i]?=some x:=by
 have hi:=(List.getElem?_eq_some_iff.1 h).1;unfold shl;rw[List.getElem?_append_right (by simp;omega)];simp only[List.length_map,List.length_take,Nat.min_eq_left (Nat.le_of_lt hi),Nat.sub_self,List.getElem?_drop,Nat.add_zero];exact h
theorem shl_set {nl:List Int} {sh:Int} {i:Nat} {x:Int} (h:nl[i]?=some x):(shl nl sh i).set i (x+sh)=shl nl sh (i+1):=by
 obtain⟨hi,hx⟩:=List.getElem?_eq_some_iff.1 h;have hl:((nl.take i).map fun x=>x+sh).length=i:=by simp;omega
 have hd:nl.drop i=x::nl.drop (i+1):=by rw[List.drop_eq_getElem_cons hi,hx]
 unfold shl;rw[List.set_append,if_neg (by omega),hl,Nat.sub_self,hd,List.set_cons_zero,List.take_add_one,h];simp
theorem shl_zero (nl:List Int) (sh:Int):shl nl sh 0=nl:=by simp[shl]
theorem shl_all {nl:List Int} {sh:Int} {n:Nat} (h:nl.length=n):shl nl sh n=nl.map fun x=>x+sh:=by
 unfold shl;rw[List.take_of_length_le (by omega),List.drop_of_length_le (by omega),List.append_nil]
def Sml (P:Part) (S:Nat→Bool):Prop:=(∀k,-1000000000000000≤P.num S k∧P.num S k≤1000000000000000)∧0<P.den S∧P.den S≤100000000000000
def Sml0 (P:Part) (i0:Nat):Prop:=(∀k,-1000000000000000≤P.num0 i0 k∧P.num0 i0 k≤1000000000000000)∧0<P.den0 i0∧P.den0 i0≤100000000000000
theorem hxn_2 (H:Nat→Option ARow) {r:Nat} (hr:2≤r):Hxn H [some 0,some 1] r=H r:=by
 unfold Hxn;have:newName [some 0,some 1] r=none:=by
  unfold newName;rw[List.findIdx?_eq_none_iff];intro x hx;simp only[List.mem_cons,List.not_mem_nil,or_false]at hx
  rcases hx with rfl|rfl<;>simp<;>omega
 rw[this]
theorem frz_row {H:Nat→Option ARow} {r n:Nat} {l:List Int} (hr:H r=some (.els 1 (l.map nCell))) (hl:l.length=n) (h1:1≤n):frz H 3 (.row r 0 n)=iL l:=by
 have hp:plainEls (l.map nCell)=true:=by simp
 simp only[frz,hr];rw[if_pos (by simp;omega),if_pos hp,List.drop_zero,List.take_of_length_le (by simp;omega)]
theorem b0_frz (x y z:Option ARow) (M:Hp) (l bl:List Int) {n:Nat} (h:l.set 0 0=bl) (hl:bl.length=n) (h1:1≤n):frz (Hxn (hget (x::y::z::some (.els 1 ((l.map nCell).set 0 [I 0]))::M)) [some 0,some 1]) 3 (.row 3 0 n)=iL bl:=by
 refine frz_row (l:=bl) ?_ hl h1;rw[hxn_2 _ (by omega)];show some (ARow.els 1 ((l.map nCell).set 0 [I 0]))=_;rw[←h,List.map_set];rfl
theorem A0_rows (W:List Wn) (u:Nat→Int) (p:List Nat) (fs:List Nat) (q:Nat→Nat) (s V:Nat→Int) (x y R:Option ARow) (i0:Nat) (hi0:p.getD 0 0=i0) (h1:1≤p.length) (hnd:p.Nodup):
  frz (Hxn (hget (x::y::some (.els 1 ((outs 4 p.length p.length).set 0 [.row (p.length+4) 0 p.length]))::R::(mrows (Lf W p) p.length p.length++[some (.els 1 ((List.replicate p.length [I 0]).set 0 [I 1]))]))) [some 0,some 1]) 3 (.row 2 0 p.length)
   =mL (eqM ((⟨p,lw W,u,fs,q,s,V⟩:Part).A0 i0) p):=by
 refine frz_rows (es:=(outs 4 p.length p.length).set 0 [.row (p.length+4) 0 p.length]) h1 ?_ (by simp) (matL_sq _ _).len fun i hi=>?_
 ·rw[hxn_2 _ (by omega)];rfl
 ·by_cases h0:i=0
  ·subst h0;refine⟨p.length+4,_,by rw[List.getElem?_set_self (by simpa using hi)],matL_get hi,?_,by simp⟩;rw[hxn_2 _ (by omega)];show hget (mrows (Lf W p) p.length p.length++_) p.length=_;rw[hget_mtail0];show some (ARow.els 1 _)=some (ARow.els 1 _)
   congr 2
   refine List.ext_getElem? fun j=>?_
   by_cases hj:j<p.length
   ·rw[List.getElem?_map,List.getElem?_map,List.getElem?_range hj]
    by_cases hj0:j=0
    ·subst hj0;rw[List.getElem?_set_self (by simpa using hj)];have hA:(⟨p,lw W,u,fs,q,s,V⟩:Part).A0 i0 (p.getD 0 0) (p.getD 0 0)=1:=by
      unfold Part.A0;rw[if_pos hi0,if_pos hi0]
     simp only[Option.map_some,hA]
    ·have hne:p.getD j 0≠p.getD 0 0:=fun e=>hj0 (getD_inj hnd hj hi e);have hA:(⟨p,lw W,u,fs,q,s,V⟩:Part).A0 i0 (p.getD 0 0) (p.getD j 0)=0:=by
      unfold Part.A0;rw[if_pos hi0,if_neg (by rw[←hi0];exact hne)]
     rw[List.getElem?_set_ne (fun e=>hj0 e.symm),List.getElem?_replicate,if_pos hj];simp only[Option.map_some,hA]
   ·rw[List.getElem?_eq_none (by simp;omega),List.getElem?_eq_none (by simp;omega)]
  ·refine⟨i+4,_,by rw[List.getElem?_set_ne (fun e=>h0 e.symm),outs_get hi],matL_get hi,?_,by simp⟩;rw[hxn_2 _ (by omega)];show hget (mrows (Lf W p) p.length p.length++_) i=_;rw[hget_mrows hi];unfold mrow;rw[List.map_map]
   congr 2
   refine List.map_congr_left fun j _=>?_;have hne:p.getD i 0≠i0:=fun e=>h0 (getD_inj hnd hi (by omega) (e.trans hi0.symm));show [I (lw W (p.getD i 0) (p.getD j 0))]=[I _];have hA:(⟨p,lw W,u,fs,q,s,V⟩:Part).A0 i0 (p.getD i 0) (p.getD j 0)=lw W (p.getD i 0) (p.getD j 0):=by
    unfold Part.A0;rw[if_neg hne]
   simp only[hA]
theorem b0_row (us:Kvs) (p:List Nat) (L:Nat→Nat→Int) (fs:List Nat) (q:Nat→Nat) (s V:Nat→Int) (i0:Nat) (hi0:p.getD 0 0=i0) (h1:1≤p.length) (hnd:p.Nodup):
  (rgt us p).set 0 0=p.map ((⟨p,L,fun x=>igt us x,fs,q,s,V⟩:Part).b0 i0):=by
 refine List.ext_getElem? fun i=>?_
 by_cases hi:i<p.length
 ·rw[List.getElem?_map,getD_get hi]
  by_cases h0:i=0
  ·subst h0;rw[List.getElem?_set_self (by simpa [rgt]using hi)];simp only[Option.map_some];unfold Part.b0;rw[if_pos hi0]
  ·have hne:p.getD i 0≠i0:=fun e=>h0 (getD_inj hnd hi (by omega) (e.trans hi0.symm));rw[List.getElem?_set_ne (fun e=>h0 e.symm)];unfold rgt;rw[List.getElem?_map,getD_get hi];simp only[Option.map_some];unfold Part.b0;rw[if_neg hne]
 ·rw[List.getElem?_eq_none (by simp[rgt];omega),List.getElem?_eq_none (by simp;omega)]
theorem at_bd {P:Part} {S:Nat→Bool} {c:Nat→Int} {C:Int} {i:Nat} (hC:0≤C) (h:∀b∈P.fs,0≤c b∧c b≤C):0≤P.at_ S c i∧P.at_ S c i≤C*P.fs.length:=by
 unfold Part.at_;generalize P.fs=l at h ⊢
 induction l with
 |nil=>simp[sm]
 |cons b l ih=>
  have h1:=h b (by simp);have h2:=ih fun b hb=>h b (by simp[hb]);rw[sm,List.length_cons,Int.natCast_add,Int.mul_add]
  split<;>omega
theorem A_rows (f:Nat→Nat→Int) (x y R:Option ARow) {n:Nat} (h1:1≤n):frz (Hxn (hget (x::y::some (.els 1 (outs 4 n n))::R::mrows f n n)) [some 0,some 1]) 3 (.row 2 0 n)=mL (matL f n n):=by
 refine frz_rows (es:=outs 4 n n) h1 ?_ (by simp) (matL_sq _ _).len fun i hi=>?_
 ·rw[hxn_2 _ (by omega)];rfl
 ·refine⟨i+4,_,outs_get hi,matL_get hi,?_,by simp⟩;rw[hxn_2 _ (by omega)];show hget (mrows f n n) i=_;rw[hget_mrows' hi];unfold mrow;rw[List.map_map];rfl
theorem b_frz (x y z:Option ARow) (M:Hp) (bl:List Int) {n:Nat} (hl:bl.length=n) (h1:1≤n):frz (Hxn (hget (x::y::z::some (.els 1 (bl.map nCell))::M)) [some 0,some 1]) 3 (.row 3 0 n)=iL bl:=by
 refine frz_row (l:=bl) ?_ hl h1;rw[hxn_2 _ (by omega)];rfl
theorem c_volts (g:Gr) (s:Sta) (p:List Nat) (us:Kvs) (fs:List Int) (hfs:fs=feedL g s (upN p)) (hnt:NetOk g s) (hpt:PartOk g s p) (hI:IntM us) (hus:∀x,-40≤igt us x∧igt us x≤40) (v:List Int) (d:Int) (ok:Bool) (i0:Nat) (hi0:p.getD 0 0=i0)
  (q0:fs=[]→v=zerosL p.length∧d=1∧ok=noneU us p)
  (q1:fs≠[]→sumU us p<0→v=[]∧d=0∧ok=false)
  (q2:fs≠[]→sumU us p=0→Sml0 (Pt g (onW g.Wires s.Wires) us p fs fs.length) i0∧d=(Pt g (onW g.Wires s.Wires) us p fs fs.length).den0 i0∧ok=true∧
   v=p.map fun k=>(Pt g (onW g.Wires s.Wires) us p fs fs.length).num0 i0 k+shiftL ((Pt g (onW g.Wires s.Wires) us p fs fs.length).V 0*(Pt g (onW g.Wires s.Wires) us p fs fs.length).den0 i0-(Pt g (onW g.Wires s.Wires) us p fs fs.length).num0 i0 ((Pt g (onW g.Wires s.Wires) us p fs fs.length).p 0)) ((List.range fs.length).map fun b=>(Pt g (onW g.Wires s.Wires) us p fs fs.length).V b*(Pt g (onW g.Wires s.Wires) us p fs fs.length).den0 i0-(Pt g (onW g.Wires s.Wires) us p fs fs.length).num0 i0 ((Pt g (onW g.Wires s.Wires) us p fs fs.length).p b)))
  (q3:fs≠[]→0<sumU us p→(∀a,1≤a→a<2^fs.length→Sml (Pt g (onW g.Wires s.Wires) us p fs fs.length) (bitS a))∧ok=true∧∃a0,1≤a0∧a0<2^fs.length∧fitB (Pt g (onW g.Wires s.Wires) us p fs fs.length) fs.length a0=true∧(∀a,1≤a→a<a0→fitB (Pt g (onW g.Wires s.Wires) us p fs fs.length) fs.length a=false)∧
   d=(Pt g (onW g.Wires s.Wires) us p fs fs.length).den (bitS a0)∧v=p.map fun k=>(Pt g (onW g.Wires s.Wires) us p fs fs.length).num (bitS a0) k):
  PureCall Try.prog 56 [net g s,iL (upN p), .mpc false [.i .i64] us] (.tup [iL v,I d,Bo ok]):=by
 have hpl:=upN_len p;have hb:=grB_bd hnt.gr;have hn10:=hpt.n10;have hfd:=c_feeds g s (upN p) hnt.sf (by omega) (by omega);rw[←hfs]at hfd;have hfm:∀f∈fs,0≤f∧f<g.Feeds.length∧(fdI g f).At.toNat∈p∧bAt s.Feeds f.toNat=true:=fun f hf=>feedL_mem (by rw[←hfs];exact hf);have hfl:fs.length≤12:=by
  have:=List.length_filter_le (fdOn g s (upN p)) (upI g.Feeds.length);rw[upI_len]at this;rw[hfs];unfold feedL;omega
 have heq:=m_equations g s p us p.length rfl hpt.n1 hpt.n10 hpt.nd hI hus hnt.sw hb.2.2.1 hnt.wires hpt.cl;refine PureCall.of_bodyG Try.func56 rfl (by decide) (by simp[Try.ntmps56]) ?_;intro J hJ;simp only[Try.ntmps56,Try.results56];refine gS fun K hK=>?_;simp -dsimp;apply hK;clear hK K;refine gS fun K hK=>?_;simp -dsimp;apply hK;clear hK K;refine gwp_seq_k fun K1 hK1=>?_;refine gS fun K hK=>?_;simp -dsimp;apply hK;clear hK K;refine gwp_block ?_;refine gwp_prune [2,3,4,9,10,36,37,38] (Or.inr (by simp)) ?_;simp only[zP,Nat.reduceEqDiff,reduceIte];refine gwp_loop_l [2,3,4,36,37] (α:=Nat) (fun k=>[(9,I (sumU us (p.take k))),(10,Bo (noneU us (p.take k))),(38,I k)]) (fun k=>[some (.els 1 [[net g s]]),some (.els 1 [[iL (upN p)]])]) (fun k=>k≤p.length) (fun k=>p.length-k) 0 ?_ ?_ ?_
 ·exact Nat.zero_le _
 ·exact gsub (sub_same (by simp[sumU,noneU,sm])) (by simp)
 rintro k k1;simp only[zP,Nat.reduceEqDiff,reduceIte];refine gS fun K hK=>?_;simp -dsimp;apply hK;clear hK K;refine gwp_seq_k fun K2 hK2=>?_;refine gwp_cond rfl (fun hc0=>?_) (fun hc0=>?_)
 ·skip
  try simp at hc0
  have hkn:k<p.length:=by rw[←hpl];simpa using hc0
  obtain⟨x,hx⟩:∃x,p[k]?=some x:=⟨_,List.getElem?_eq_getElem hkn⟩;have gx:=upN_get hx;have wk:=zW k (by omega);have hbd:=sumU_bd hus (p.take k);have htl:(p.take k).length=k:=by rw[List.length_take];omega
  rw[htl]at hbd;have ws:IntKind.i64.wrap (sumU us (p.take k)+igt us x)=sumU us (p.take k)+igt us x:=wrap_in (by have:=hus x;omega) (by have:=hus x;omega);refine gwp_skip ?_;simp only[zT,reduceIte,Nat.reduceEqDiff];refine hK2 _ _ ?_;refine gwp_prune [2,3,4,9,10,36,37,38] (Or.inr (by simp)) ?_;simp only[zP,Nat.reduceEqDiff,reduceIte];refine gwp_seq_k fun K3 hK3=>?_;refine gwp_block ?_;refine gS fun K hK=>?_;simp -dsimp [gx];apply hK;clear hK K;refine gS fun K hK=>?_;simp -dsimp [igt_look hI,ws];refine valK_intro (_) (fun hm=>rfl) ?_;simp -dsimp [igt_look hI,ws];apply hK;clear hK K;refine gR fun K hK=>?_;simp -dsimp [igt_look hI];refine valK_intro (_) (fun hm=>rfl) ?_;simp -dsimp [igt_look hI];apply hK;clear hK K;simp only[zT,reduceIte,Nat.reduceEqDiff];refine hK3 _ _ ?_;refine gwp_prune [2,3,4,9,10,36,37,38] (Or.inr (by simp)) ?_;simp only[zP,Nat.reduceEqDiff,reduceIte];refine gR fun K hK=>?_;simp -dsimp [wk];apply hK;clear hK K;simp only[zT,reduceIte,Nat.reduceEqDiff];exact⟨k+1,by omega,by omega,gsub (sub_rb [some 0,some 1] rfl (by simp[sumU_snoc hx,noneU_snoc hx]) (by simp)) (by simp)⟩
 ·skip
  try simp at hc0
  have hkp:¬k<p.length:=by rw[←hpl];simpa using hc0
  have htp:p.take k=p:=List.take_of_length_le (by omega);rw[htp];refine gwp_exit ?_;simp only[zT,reduceIte,Nat.reduceEqDiff];refine hK1 _ _ ?_;refine gwp_prune [2,3,4,9,10] (Or.inr (by simp)) ?_;simp only[zP,Nat.reduceEqDiff,reduceIte];refine gS fun K hK=>?_;simp -dsimp;refine callK_bare _ (fun hm=>hfd) ?_;simp -dsimp;apply hK;clear hK K;refine gS fun K hK=>?_;simp -dsimp;apply hK;clear hK K;refine gwp_seq_k fun K4 hK4=>?_;refine gwp_block ?_;refine gS fun K hK=>?_;simp -dsimp;apply hK;clear hK K;refine gwp_cond rfl (fun hc1=>?_) (fun hc1=>?_)
  ·skip
   try simp at hc1
   have hf0:fs=[]:=hc1;have f9:Fits (upN p).length 9:=fits_of (by omega) (by omega);obtain⟨e1,e2,e3⟩:=q0 hf0;refine gS fun K hK=>?_;simp -dsimp [f9];apply hK;clear hK K;exact gwp_ret (by simp[e1,e2,e3,zerosL,hpl,resP,tupOf])
  ·skip
   try simp at hc1
   have hf0:fs≠[]:=by rintro rfl;simp at hc1
   have hml:1≤fs.length:=by cases fs with|nil=>exact absurd rfl hf0|cons a l=>simp
   refine gS fun K hK=>?_;simp -dsimp;apply hK;clear hK K;refine gwp_cond rfl (fun hc2=>?_) (fun hc2=>?_)
   ·skip
    try simp at hc2
    obtain⟨e1,e2,e3⟩:=q1 hf0 hc2;refine gS fun K hK=>?_;simp -dsimp;apply hK;clear hK K;refine gwp_weak (gsub (sub_nil 6 1 (by simp)) (by simp)) ?_;exact gwp_ret (by simp[e1,e2,e3,resP,tupOf])
   ·skip
    try simp at hc2
    refine gS fun K hK=>?_;simp -dsimp;apply hK;clear hK K;refine gwp_cond rfl (fun hc3=>?_) (fun hc3=>?_)
    ·skip
     try simp at hc3
     obtain⟨⟨z1,z2,z3⟩,e2,e3,e1⟩:=q2 hf0 (by simpa using hc3);have hp0:0<p.length:=by have:=hpt.n1;omega
     have f9:Fits p.length 9:=fits_of (by omega) (by omega);have gr0:(rgt us p)[0]?=some (-igt us (p.getD 0 0)):=by unfold rgt;rw[List.getElem?_map,getD_get hp0];rfl
     have hsol:=m_solved (eqM ((Pt g (onW g.Wires s.Wires) us p fs fs.length).A0 i0) p) (p.map ((Pt g (onW g.Wires s.Wires) us p fs fs.length).b0 i0)) p.length (matL_sq _ _) hpt.n1 hpt.n10 (by simp);have hv0:(p.map fun k=>wr (num ((Pt g (onW g.Wires s.Wires) us p fs fs.length).A0 i0) ((Pt g (onW g.Wires s.Wires) us p fs fs.length).b0 i0) p k))=p.map fun k=>(Pt g (onW g.Wires s.Wires) us p fs fs.length).num0 i0 k:=List.map_congr_left fun k _=>wr_id (by have:=z1 k;unfold Part.num0 at this;show _≤Cur.num _ _ (Pt g (onW g.Wires s.Wires) us p fs fs.length).ns k;omega) (by have:=z1 k;unfold Part.num0 at this;show Cur.num _ _ (Pt g (onW g.Wires s.Wires) us p fs fs.length).ns k≤_;omega);have hd0:wr (D ((Pt g (onW g.Wires s.Wires) us p fs fs.length).A0 i0) p)=(Pt g (onW g.Wires s.Wires) us p fs fs.length).den0 i0:=wr_id (by unfold Part.den0 at z2;show _≤D _ (Pt g (onW g.Wires s.Wires) us p fs fs.length).ns;omega) (by unfold Part.den0 at z3;show D _ (Pt g (onW g.Wires s.Wires) us p fs fs.length).ns≤_;omega);rw[eqM_sol _ _ _ hpt.nd,eqM_det,hv0,hd0]at hsol;have hbl:=b0_row us p (lw (onW g.Wires s.Wires)) (List.range fs.length) (fun b=>(fdOf g fs b).At.toNat) (fun b=>(fdOf g fs b).Siem) (fun b=>(fdOf g fs b).Volts) i0 hi0 hpt.n1 hpt.nd;obtain⟨bl,hbl2⟩:∃bl,bl=p.map ((Pt g (onW g.Wires s.Wires) us p fs fs.length).b0 i0):=⟨_,rfl⟩;obtain⟨M,hM⟩:∃M,M=eqM ((Pt g (onW g.Wires s.Wires) us p fs fs.length).A0 i0) p:=⟨_,rfl⟩;have hbl3:(rgt us p).set 0 0=bl:=by rw[hbl2];exact hbl
     rw[←hbl2,←hM]at hsol;have hzl:∀k x,p[k]?=some x→(p.map fun k=>(Pt g (onW g.Wires s.Wires) us p fs fs.length).num0 i0 k)[k]?=some ((Pt g (onW g.Wires s.Wires) us p fs fs.length).num0 i0 x):=fun k x h=>by rw[List.getElem?_map,h];rfl
     obtain⟨nu,hnu⟩:∃nu,nu=fun k=>(Pt g (onW g.Wires s.Wires) us p fs fs.length).num0 i0 k:=⟨_,rfl⟩;rw[←hnu]at hsol hzl;obtain⟨nl,hnl⟩:∃nl,nl=p.map nu:=⟨_,rfl⟩;rw[←hnl]at hsol hzl;have hfa:=fun b (hb:b<fs.length)=>feed_at hnt hfs hb;obtain⟨d0,hd00⟩:∃d0,d0=(Pt g (onW g.Wires s.Wires) us p fs fs.length).den0 i0:=⟨_,rfl⟩;rw[←hd00]at hsol z2 z3 e2 e1;have hnk:∀k,(Pt g (onW g.Wires s.Wires) us p fs fs.length).num0 i0 k=nu k:=fun k=>by rw[hnu]
     simp only[hnk]at e1 z1 hzl;have hnb:∀k,-1000000000000000≤nu k∧nu k≤1000000000000000:=z1;have hPV:∀(b:Nat),(Pt g (onW g.Wires s.Wires) us p fs fs.length).V b=(fdI g (at0 fs b)).Volts:=fun b=>rfl;have hPp:∀(b:Nat),(Pt g (onW g.Wires s.Wires) us p fs fs.length).p b=(fdI g (at0 fs b)).At.toNat:=fun b=>rfl;simp only[hPV,hPp]at e1;have hvd:∀(b:Nat),b<fs.length→ -100000000000000000≤(fdI g (at0 fs b)).Volts*d0∧(fdI g (at0 fs b)).Volts*d0≤100000000000000000:=fun b hb=>by
      have h:=hfa b hb;have h1:=Int.mul_nonneg (show 0≤(fdI g (at0 fs b)).Volts by omega) (show 0≤d0 by omega);have h2:=Int.mul_le_mul h.2.2.2.2.2.2.2.1 z3 (by omega) (by omega);omega
     have hw1:∀(b:Nat),b<fs.length→IntKind.i64.wrap ((fdI g (at0 fs b)).Volts*d0)=(fdI g (at0 fs b)).Volts*d0:=fun b hb=>wrap_in (by have:=hvd b hb;omega) (by have:=hvd b hb;omega);have hw2:∀(b:Nat),b<fs.length→IntKind.i64.wrap ((fdI g (at0 fs b)).Volts*d0-nu (fdI g (at0 fs b)).At.toNat)=(fdI g (at0 fs b)).Volts*d0-nu (fdI g (at0 fs b)).At.toNat:=fun b hb=>wrap_in (by have:=hvd b hb;have:=hnb (fdI g (at0 fs b)).At.toNat;omega) (by have:=hvd b hb;have:=hnb (fdI g (at0 fs b)).At.toNat;omega);have hwh:=fun b (hb:b<fs.length)=>c_where g s p (at0 fs b) (by omega) (hfa b hb).2.1 (hfa b hb).2.2.1 (hfa b hb).2.2.2.2.1 (hfa b hb).2.2.2.2.2.1;have hzp:=fun b (hb:b<fs.length)=>hzl _ _ (idxOf_get (hfa b hb).2.2.2.2.2.1);have hpi:=fun b (hb:b<fs.length)=>List.idxOf_lt_length_of_mem (hfa b hb).2.2.2.2.2.1;have hnll:nl.length=p.length:=by rw[hnl];simp
     clear hnk hnu hd00;have a0:=hfa 0 hml;have a1:=hw1 0 hml;have a2:=hw2 0 hml;have a3:=hpi 0 hml;have a4:=hzp 0 hml;have a5:=hwh 0 hml;simp only[Int.natCast_zero]at a0 a1 a2 a3 a4 a5;obtain⟨xs,hxs⟩:∃xs:List Int,xs=(List.range fs.length).map fun(b:Nat)=>(fdI g (at0 fs b)).Volts*d0-nu (fdI g (at0 fs b)).At.toNat:=⟨_,rfl⟩;obtain⟨x0,hx0⟩:∃x0,x0=(fdI g (at0 fs 0)).Volts*d0-nu (fdI g (at0 fs 0)).At.toNat:=⟨_,rfl⟩;rw[←hxs]at e1;have hx0':(fdI g (at0 fs ((0:Nat):Int))).Volts*d0-nu (fdI g (at0 fs ((0:Nat):Int))).At.toNat=x0:=hx0.symm;have hxg:∀(b:Nat),b<fs.length→xs[b]?=some ((fdI g (at0 fs b)).Volts*d0-nu (fdI g (at0 fs b)).At.toNat):=fun b hb=>by rw[hxs,List.getElem?_map,List.getElem?_range hb];rfl
     have hxb:∀x∈xs,-200000000000000000≤x∧x≤200000000000000000:=fun x hx=>by
      rw[hxs]at hx;obtain⟨b,hb,rfl⟩:=List.mem_map.1 hx;have:=hvd b (List.mem_range.1 hb);have:=hnb (fdI g (at0 fs b)).At.toNat;omega
     have hx0b:-200000000000000000≤x0∧x0≤200000000000000000:=by rw[hx0];have:=hvd 0 hml;have:=hnb (fdI g (at0 fs 0)).At.toNat;simp only[Int.natCast_zero]at*;omega
     have hxl:xs.length=fs.length:=by rw[hxs];simp
     refine gS fun K hK=>?_;simp -dsimp;refine callK_mat heq (by simp) (fun g=>by simp) ?_;simp -dsimp;apply hK;clear hK K;refine gS fun K hK=>?_;simp -dsimp [f9,hp0,outs_get hp0,gr0,hpl,Nat.add_assoc];apply hK;clear hK K;refine gS fun K hK=>?_;simp -dsimp [hp0,outs_get hp0,gr0,hpl,Nat.add_assoc];apply hK;clear hK K;refine gwp_weak (gsub (sub_rf (T':=[(3, .ptr 0 0 0),(4, .ptr 1 0 0),(13,iL fs),(14, .clo 73 [.ptr 1 0 0, .ptr 0 0 0]),(15,mL M),(16,iL bl)]) (H':=[some (.els 1 [[net g s]]),some (.els 1 [[iL (upN p)]])]) [some 0,some 1] rfl ⟨.inr (by simp), .inr (by simp), .inr (by simp), .inr (by simp), .inr ?_, .inr ?_,trivial⟩ (by simp)) (by simp)) ?_
     ·rw[hM];exact A0_rows _ _ p _ _ _ _ _ _ _ i0 hi0 hpt.n1 hpt.nd
     ·exact b0_frz _ _ _ _ (rgt us p) bl hbl3 (by rw[←hbl3];simp[rgt]) hpt.n1
     ·refine gS fun K hK=>?_;simp -dsimp;refine callK_mut [] [] [none,none,some 0] (hsol) (by decide) rfl (by simp) (by simp) rfl (by simp) ?_;simp -dsimp;apply hK;clear hK K;refine gwp_sd mixed rfl (by decide) rfl rfl fun K hK=>?_;simp -dsimp [a0.1,a0.2.1,a0.2.2.2.1,a1,a2,a3,a4];refine callK_intro _ (a5) (by simp) ?_;simp -dsimp [a0.1,a0.2.1,a0.2.2.2.1,a1,a2,a3,a4];refine hK _ _ _ (by decide+kernel) ?_;clear hK K;refine gwp_seq_k fun K5 hK5=>?_;refine gS fun K hK=>?_;simp -dsimp;apply hK;clear hK K;refine gwp_block ?_;refine gwp_prune [3,14,17,18,19,119,120,121] (Or.inr (by simp)) ?_;simp only[zP,Nat.reduceEqDiff,reduceIte];refine gwp_loop_l [3,14,17,18,119,120] (α:=Nat) (fun b=>[(19,I (shiftL x0 (xs.take b))),(121,I b)]) (fun b=>[some (.els 1 [[net g s]]),some (.els 1 [[iL (upN p)]]),some (.els 1 (nl.map nCell))]) (fun b=>b≤fs.length) (fun b=>fs.length-b) 0 ?_ ?_ ?_
      ·exact Nat.zero_le _
      ·refine gsub (sub_rb [some 0,some 1,some 2] rfl ?_ (by simp)) (by simp);simp[shiftL,hx0]
      rintro b b1;simp only[zP,Nat.reduceEqDiff,reduceIte];refine gS fun K hK=>?_;simp -dsimp;apply hK;clear hK K;refine gwp_seq_k fun K6 hK6=>?_;refine gwp_cond rfl (fun hc4=>?_) (fun hc4=>?_)
      ·have hbl:b<fs.length:=by simpa using hc4
       have wb:=zW b (by omega);refine gwp_skip ?_;simp only[zT,reduceIte,Nat.reduceEqDiff];refine hK6 _ _ ?_;refine gwp_prune [3,14,17,18,19,119,120,121] (Or.inr (by simp)) ?_;simp only[zP,Nat.reduceEqDiff,reduceIte];refine gwp_seq_k fun K7 hK7=>?_;refine gwp_block ?_;refine gS fun K hK=>?_;simp -dsimp [(hfa b hbl).1];apply hK;clear hK K;refine gwp_draw mixed rfl (by decide) rfl rfl fun K hK=>?_;simp -dsimp [(hfa b hbl).1,(hfa b hbl).2.1,(hfa b hbl).2.2.2.1,hw1 b hbl,hw2 b hbl,hpi b hbl,hzp b hbl];refine callK_intro _ (hwh b hbl) (by simp) ?_;simp -dsimp [(hfa b hbl).1,(hfa b hbl).2.1,(hfa b hbl).2.2.2.1,hw1 b hbl,hw2 b hbl,hpi b hbl,hzp b hbl];refine hK _ _ _ (by decide+kernel) ?_;clear hK K;simp only[zT,reduceIte,Nat.reduceEqDiff];refine hK7 _ _ ?_;refine gwp_prune [3,14,17,18,19,119,120,121] (Or.inr (by simp)) ?_;simp only[zP,Nat.reduceEqDiff,reduceIte];refine gR fun K hK=>?_;simp -dsimp [wb];apply hK;clear hK K;simp only[zT,reduceIte,Nat.reduceEqDiff];exact⟨b+1,by omega,by omega,gsub (sub_rb [some 0,some 1,some 2] rfl (by simp[shiftL_snoc (hxg b hbl),maxI]) (by simp)) (by simp)⟩
      ·have hbl:¬b<fs.length:=by simpa using hc4
       have htx:xs.take b=xs:=List.take_of_length_le (by omega);rw[htx];have hsb:=shiftL_bd xs x0 hx0b hxb;generalize hsh:shiftL x0 xs=sh at hsb ⊢;refine gwp_exit ?_;simp only[zT,reduceIte,Nat.reduceEqDiff];refine hK5 _ _ ?_;refine gwp_prune [17,18,19] (Or.inr (by simp)) ?_;simp only[zP,Nat.reduceEqDiff,reduceIte];refine gwp_seq_k fun K8 hK8=>?_;refine gS fun K hK=>?_;simp -dsimp;apply hK;clear hK K;refine gwp_block ?_;refine gwp_prune [17,18,19,147,148] (Or.inr (by simp)) ?_;simp only[zP,Nat.reduceEqDiff,reduceIte];refine gwp_loop_l [17,18,19,147] (α:=Nat) (fun i=>[(148,I i)]) (fun i=>[some (.els 1 [[net g s]]),some (.els 1 [[iL (upN p)]]),some (.els 1 ((shl nl sh i).map nCell))]) (fun i=>i≤p.length) (fun i=>p.length-i) 0 ?_ ?_ ?_
       ·exact Nat.zero_le _
       ·refine gsub (sub_rb [some 0,some 1,some 2] rfl (by simp) (by simp[shl_zero])) (by simp)
       rintro i i1;simp only[zP,Nat.reduceEqDiff,reduceIte];refine gS fun K hK=>?_;simp -dsimp;apply hK;clear hK K;refine gwp_seq_k fun K9 hK9=>?_;refine gwp_cond rfl (fun hc5=>?_) (fun hc5=>?_)
       ·have hin:i<p.length:=by simpa using hc5
        have wi:=zW i (by omega);obtain⟨x,hx⟩:∃x,nl[i]?=some x:=⟨_,List.getElem?_eq_getElem (by omega)⟩;have hxn:-1000000000000000≤x∧x≤1000000000000000:=by
         rw[hnl,List.getElem?_map]at hx;obtain⟨y,_,rfl⟩:=Option.map_eq_some_iff.1 hx;exact hnb y
        have gsh:=shl_get (sh:=sh) hx;have wx:IntKind.i64.wrap (x+sh)=x+sh:=wrap_in (by omega) (by omega);have hst:=shl_set (sh:=sh) hx;refine gwp_skip ?_;simp only[zT,reduceIte,Nat.reduceEqDiff];refine hK9 _ _ ?_;refine gwp_prune [17,18,19,147,148] (Or.inr (by simp)) ?_;simp only[zP,Nat.reduceEqDiff,reduceIte];refine gwp_seq_k fun K10 hK10=>?_;refine gwp_block ?_;refine gS fun K hK=>?_;simp -dsimp;apply hK;clear hK K;refine gR fun K hK=>?_;simp -dsimp [hin,gsh,wx];apply hK;clear hK K;simp only[zT,reduceIte,Nat.reduceEqDiff];refine hK10 _ _ ?_;refine gwp_prune [17,18,19,147,148] (Or.inr (by simp)) ?_;simp only[zP,Nat.reduceEqDiff,reduceIte];refine gR fun K hK=>?_;simp -dsimp [wi];apply hK;clear hK K;simp only[zT,reduceIte,Nat.reduceEqDiff];exact⟨i+1,by omega,by omega,gsub (sub_rb [some 0,some 1,some 2] rfl (by simp) (by simp[←hst,List.map_set])) (by simp)⟩
       ·have hin0:¬i<p.length:=by simpa using hc5
        have hin:i=p.length:=by omega
        refine gwp_exit ?_;simp only[zT,reduceIte,Nat.reduceEqDiff];refine hK8 _ _ ?_;refine gwp_prune [17,18] (Or.inr (by simp)) ?_;simp only[zP,Nat.reduceEqDiff,reduceIte];refine gS fun K hK=>?_;simp -dsimp;apply hK;clear hK K;have hsl:shl nl sh p.length=v:=by
         rw[shl_all hnll,e1,hnl,List.map_map,hx0',hsh];rfl
        have hvl:v.length=p.length:=by rw[←hsl,shl_len,hnll]
        rw[hin,hsl];exact gwp_ret (by simp[e2,e3,resP,tupOf,←hvl])
    ·skip
     try simp at hc3
     have hsp:0<sumU us p:=by omega
     obtain⟨hsm,e3,a0,ha1,ha2,haf,hal,e2,e1⟩:=q3 hf0 hsp;have hfa:=fun b (hb:b<fs.length)=>feed_at hnt hfs hb;have hwh:=fun b (hb:b<fs.length)=>c_where g s p (at0 fs b) (by omega) (hfa b hb).2.1 (hfa b hb).2.2.1 (hfa b hb).2.2.2.2.1 (hfa b hb).2.2.2.2.2.1;have hpi:=fun b (hb:b<fs.length)=>List.idxOf_lt_length_of_mem (hfa b hb).2.2.2.2.2.1;have hm64:fs.length≤IntKind.i64.bits:=Nat.le_trans (show fs.length≤12 by omega) (by decide);have hsh:IntKind.i64.wrap (2^fs.length)=2^fs.length:=by have:=shl1 fs.length (by omega);rw[Int.toNat_natCast,Int.one_mul,Int.natCast_pow]at this;exact this
     have hpow:2^fs.length≤2^12:=Nat.pow_le_pow_right (by omega) hfl;refine gwp_skip ?_;simp only[zT,reduceIte,Nat.reduceEqDiff];refine hK4 _ _ ?_;refine gwp_prune [2,3,4,13,14] (Or.inr (by simp)) ?_;simp only[zP,Nat.reduceEqDiff,reduceIte];refine gwp_seq_k fun K11 hK11=>?_;refine gS fun K hK=>?_;simp -dsimp [hm64,hsh];apply hK;clear hK K;refine gwp_block ?_;refine gwp_prune [2,3,4,13,14,163,164] (Or.inr (by simp)) ?_;simp only[zP,Nat.reduceEqDiff,reduceIte];refine gwp_loop_l [2,3,4,13,14,163] (α:=Nat) (fun a=>[(164,I a)]) (fun a=>[some (.els 1 [[net g s]]),some (.els 1 [[iL (upN p)]])]) (fun a=>a≤a0) (fun a=>2^fs.length-a) 0 ?_ ?_ ?_
     ·exact Nat.zero_le _
     ·exact gsub (sub_same (by simp)) (by simp)
     rintro a a1;simp only[zP,Nat.reduceEqDiff,reduceIte];refine gS fun K hK=>?_;simp -dsimp;apply hK;clear hK K;refine gwp_seq_k fun K12 hK12=>?_;refine gwp_cond rfl (fun hc6=>?_) (fun hc6=>?_)
     ·have hal2:a<2^fs.length:=by omega
      have wa:=zW a (by omega);refine gwp_skip ?_;simp only[zT,reduceIte,Nat.reduceEqDiff];refine hK12 _ _ ?_;refine gwp_prune [2,3,4,13,14,163,164] (Or.inr (by simp)) ?_;simp only[zP,Nat.reduceEqDiff,reduceIte];refine gwp_seq_k fun K13 hK13=>?_;refine gwp_block ?_;refine gS fun K hK=>?_;simp -dsimp;apply hK;clear hK K;refine gwp_seq_k fun K14 hK14=>?_;refine gS fun K hK=>?_;simp -dsimp;apply hK;clear hK K;refine gwp_cond rfl (fun hc7=>?_) (fun hc7=>?_)
      ·skip
       try simp at hc7
       refine gwp_exit ?_;simp only[zT,reduceIte,Nat.reduceEqDiff];refine hK13 _ _ ?_;refine gwp_prune [2,3,4,13,14,163,164] (Or.inr (by simp)) ?_;simp only[zP,Nat.reduceEqDiff,reduceIte];refine gR fun K hK=>?_;simp -dsimp [wa];apply hK;clear hK K;simp only[zT,reduceIte,Nat.reduceEqDiff];exact⟨a+1,by omega,by omega,gsub (sub_rb [some 0,some 1] rfl (by simp) (by simp)) (by simp)⟩
      ·skip
       try simp at hc7
       refine gwp_skip ?_;simp only[zT,reduceIte,Nat.reduceEqDiff];refine hK14 _ _ ?_;refine gwp_prune [2,3,4,13,14,23,163,164] (Or.inr (by simp)) ?_;simp only[zP,Nat.reduceEqDiff,reduceIte];refine gS fun K hK=>?_;simp -dsimp;refine callK_mat heq (by simp) (fun g=>by simp) ?_;simp -dsimp;apply hK;clear hK K;refine gwp_seq_k fun K15 hK15=>?_;refine gS fun K hK=>?_;simp -dsimp;apply hK;clear hK K;refine gwp_block ?_;refine gwp_prune [2,3,4,13,14,23,24,25,163,164,176,177,178] (Or.inr (by simp)) ?_;simp only[zP,Nat.reduceEqDiff,reduceIte];refine gwp_loop_l [2,3,4,13,14,23,24,25,163,164,176,177] (α:=Nat) (fun t=>[(178,I t)]) (fun t=>[some (.els 1 [[net g s]]),some (.els 1 [[iL (upN p)]]),some (.els 1 (outs 4 p.length p.length)),some (.els 1 ((RfL g (onW g.Wires s.Wires) us p fs t a).map nCell))]++mrows (Af g (onW g.Wires s.Wires) us p fs t a) p.length p.length) (fun t=>t≤fs.length) (fun t=>fs.length-t) 0 ?_ ?_ ?_
       ·exact Nat.zero_le _
       ·rw[Af_zero,Rf_zero];exact gsub (sub_same (by simp)) (by simp)
       rintro t t1;simp only[zP,Nat.reduceEqDiff,reduceIte];refine gS fun K hK=>?_;simp -dsimp;apply hK;clear hK K;refine gwp_seq_k fun K16 hK16=>?_;refine gwp_cond rfl (fun hc8=>?_) (fun hc8=>?_)
       ·have htl:t<fs.length:=by simpa using hc8
        have wt:=zW t (by omega);have hbit:bits .and .i64 ((a:Int)/2^t) 1=if a.testBit t then 1 else 0:=by have:=shr_bit a t (by omega);rwa [Int.toNat_natCast]at this
        have ht64:t≤IntKind.i64.bits:=Nat.le_trans (show t≤12 by omega) (by decide);refine gwp_skip ?_;simp only[zT,reduceIte,Nat.reduceEqDiff];refine hK16 _ _ ?_;refine gwp_prune [2,3,4,13,14,23,24,25,163,164,176,177,178] (Or.inr (by simp)) ?_;simp only[zP,Nat.reduceEqDiff,reduceIte];refine gwp_seq_k fun K17 hK17=>?_;refine gwp_block ?_;refine gS fun K hK=>?_;simp -dsimp [(hfa t htl).1];apply hK;clear hK K;refine gS fun K hK=>?_;simp -dsimp [hbit,ht64];apply hK;clear hK K;refine gwp_cond rfl (fun hc9=>?_) (fun hc9=>?_)
        ·have hbt:a.testBit t=true:=by cases h:a.testBit t with|true=>rfl|false=>rw[h]at hc9;simp at hc9
         obtain⟨k,hk⟩:∃k,k=p.idxOf (fdI g (at0 fs t)).At.toNat:=⟨_,rfl⟩;have hkl:k<p.length:=by rw[hk];exact hpi t htl
         have hkl1:k≤p.length+1:=by omega
         have hkg:p[k]?=some (fdI g (at0 fs t)).At.toNat:=by rw[hk];exact idxOf_get (hfa t htl).2.2.2.2.2.1
         have hat:p.getD k 0=(fdOf g fs t).At.toNat:=by rw[getD_get hkl]at hkg;exact Option.some.inj hkg
         have hAe:=Af_on g (onW g.Wires s.Wires) us p fs hpt.nd hbt hkl hat;have hRe:=Rf_on g (onW g.Wires s.Wires) us p fs hpt.nd hbt hkl hat;have hfdo:fdOf g fs t=fdI g (at0 fs t):=rfl;rw[hfdo]at hAe hRe;have hab:(Af g (onW g.Wires s.Wires) us p fs t a k k).natAbs≤400:=by
          have hb1:=at_bd (P:=Pt g (onW g.Wires s.Wires) us p fs t) (S:=bitS a) (c:=(Pt g (onW g.Wires s.Wires) us p fs t).s) (C:=4) (i:=p.getD k 0) (by omega) (fun b hb=>by
           have:=hfa b (by have:=List.mem_range.1 hb;omega);show 0≤(fdI g (at0 fs b)).Siem∧(fdI g (at0 fs b)).Siem≤4;omega)
          have hb2:(Pt g (onW g.Wires s.Wires) us p fs t).fs.length=t:=List.length_range;rw[hb2]at hb1;have hb3:(lw (onW g.Wires s.Wires) (p.getD k 0) (p.getD k 0)).natAbs≤320:=Nat.le_trans (lw_abs fun x hx=>by
           obtain⟨w',hw',e⟩:=onW_mem hx;have:=hnt.wires w' hw';simp only[wrB,Bool.and_eq_true,inr_iff]at this;rw[e];simp only;omega) (by have:=onW_len g.Wires s.Wires;omega)
          unfold Af Part.A;rw[if_pos rfl];show(lw _ _ _+_).natAbs≤400;omega
         have hrb:(Rf g (onW g.Wires s.Wires) us p fs t a k).natAbs≤50000:=by
          have hb1:=at_bd (P:=Pt g (onW g.Wires s.Wires) us p fs t) (S:=bitS a) (c:=fun b=>(Pt g (onW g.Wires s.Wires) us p fs t).s b*(Pt g (onW g.Wires s.Wires) us p fs t).V b) (C:=4000) (i:=p.getD k 0) (by omega) (fun b hb=>by
           have h:=hfa b (by have:=List.mem_range.1 hb;omega);show 0≤(fdI g (at0 fs b)).Siem*(fdI g (at0 fs b)).Volts∧(fdI g (at0 fs b)).Siem*(fdI g (at0 fs b)).Volts≤4000;exact⟨Int.mul_nonneg (by omega) (by omega),Int.mul_le_mul h.2.2.2.2.2.2.2.2.2 h.2.2.2.2.2.2.2.1 (by omega) (by omega)⟩)
          have hb2:(Pt g (onW g.Wires s.Wires) us p fs t).fs.length=t:=List.length_range;rw[hb2]at hb1;have hb3:=hus (p.getD k 0);unfold Rf Part.b;show(-igt us _+_).natAbs≤50000;omega
         have hsv:0≤(fdI g (at0 fs t)).Siem*(fdI g (at0 fs t)).Volts∧(fdI g (at0 fs t)).Siem*(fdI g (at0 fs t)).Volts≤4000:=by
          have h:=hfa t htl;exact⟨Int.mul_nonneg (by omega) (by omega),Int.mul_le_mul h.2.2.2.2.2.2.2.2.2 h.2.2.2.2.2.2.2.1 (by omega) (by omega)⟩
         have w1:IntKind.i64.wrap (Af g (onW g.Wires s.Wires) us p fs t a k k+(fdI g (at0 fs t)).Siem)=Af g (onW g.Wires s.Wires) us p fs t a k k+(fdI g (at0 fs t)).Siem:=wrap_in (by have:=hfa t htl;omega) (by have:=hfa t htl;omega);have w2:IntKind.i64.wrap ((fdI g (at0 fs t)).Siem*(fdI g (at0 fs t)).Volts)=(fdI g (at0 fs t)).Siem*(fdI g (at0 fs t)).Volts:=wrap_in (by omega) (by omega);have w3:IntKind.i64.wrap (Rf g (onW g.Wires s.Wires) us p fs t a k+(fdI g (at0 fs t)).Siem*(fdI g (at0 fs t)).Volts)=Rf g (onW g.Wires s.Wires) us p fs t a k+(fdI g (at0 fs t)).Siem*(fdI g (at0 fs t)).Volts:=wrap_in (by omega) (by omega);have grk:=RfL_get g (onW g.Wires s.Wires) us p fs (t:=t) (a:=a) hkl;have hwk:=hwh t htl;rw[←hk]at hwk;generalize Af g (onW g.Wires s.Wires) us p fs t a=f at w1 hAe ⊢;generalize Rf g (onW g.Wires s.Wires) us p fs t a k=rk at w3 grk hRe;generalize RfL g (onW g.Wires s.Wires) us p fs t a=rl at grk hRe ⊢;refine gwp_sd mixed rfl (by decide) rfl rfl fun K hK=>?_;simp -dsimp [(hfa t htl).1,(hfa t htl).2.1,(hfa t htl).2.2.2.1,Nat.add_assoc];refine callK_intro _ (hwk) (by simp) ?_;simp -dsimp [(hfa t htl).1,(hfa t htl).2.1,(hfa t htl).2.2.2.1,Nat.add_assoc];refine hK _ _ _ (by exact draw_pairs [(0,5),(1,5),(2,5),(3,5),(4,5),(0,8),(1,8),(2,8),(3,8),(4,8),(5,8),(6,8),(7,8),(0,9),(1,9),(2,9),(3,9),(4,9),(5,9),(6,9),(7,9),(8,9),(0,10),(1,10),(2,10),(3,10),(4,10),(5,10),(6,10),(7,10),(0,11),(1,11),(2,11),(3,11),(4,11),(5,11),(6,11),(7,11),(8,11),(9,11),(10,11)] (by decide+kernel) (by decide+kernel) (by simp[confl]<;>omega)) ?_;clear hK K;refine gwp_sd mixed rfl (by decide) rfl rfl fun K hK=>?_;simp -dsimp [hkl1,Nat.add_assoc,outs_get hkl,hkl,hget_mrows hkl,mrow,mrow_get hkl,hset_mrows hkl,w1];refine hK _ _ _ (by exact draw_pairs [(0,1),(0,4),(1,4),(2,4),(3,4),(0,7),(1,7),(2,7),(3,7),(4,7),(5,7),(6,7),(0,8),(1,8),(2,8),(3,8),(4,8),(5,8),(6,8)] (by decide+kernel) (by decide+kernel) (by simp[confl]<;>omega)) ?_;clear hK K;refine gwp_draw mixed rfl (by decide) rfl rfl fun K hK=>?_;simp -dsimp [hkl1,Nat.add_assoc,grk,hkl,w2,w3];refine hK _ _ _ (by exact draw_pairs [(0,1),(0,4),(1,4),(2,4),(3,4),(0,5),(1,5),(2,5),(3,5),(0,6),(1,6),(2,6),(3,6),(4,6),(5,6),(0,7),(1,7),(2,7),(3,7),(4,7),(5,7),(0,8),(1,8),(2,8),(3,8)] (by decide+kernel) (by decide+kernel) (by simp[confl]<;>omega)) ?_;clear hK K;simp only[zT,reduceIte,Nat.reduceEqDiff];refine hK17 _ _ ?_;refine gwp_prune [2,3,4,13,14,23,24,25,163,164,176,177,178] (Or.inr (by simp)) ?_;simp only[zP,Nat.reduceEqDiff,reduceIte];refine gR fun K hK=>?_;simp -dsimp [wt];apply hK;clear hK K;simp only[zT,reduceIte,Nat.reduceEqDiff];refine⟨t+1,by omega,by omega,gsub (sub_cat (F':=[some (.els 1 [[net g s]]),some (.els 1 [[iL (upN p)]]),some (.els 1 (outs 4 p.length p.length)),some (.els 1 ((RfL g (onW g.Wires s.Wires) us p fs (t+1) a).map nCell))]) [some 0,some 1,some 2,some 3] (Af g (onW g.Wires s.Wires) us p fs (t+1) a) p.length p.length 4 (by simp[nodupB]) (fun i hi=>by simp) ?_ (by simp) ?_) (by simp)⟩
         ·intro i hi;show hget (mrows _ p.length p.length++_) i=_;rw[hget_mrows hi];rw[←hget_mrows' (m:=p.length) hi,←hget_mrows' (m:=p.length) hi,mrows_congr hAe]
         ·have hro:=ren_outs (g:=some 0::some 1::some 2::some 3::(List.range p.length).map fun i=>some (i+4)) (c:=4) (c':=4) (m:=p.length) (n:=p.length) (fun i hi=>newName_cat (gf:=[some 0,some 1,some 2,some 3]) hi (by simp));rw[←hRe,List.map_set];simp[hro]
        ·refine gwp_skip ?_;simp only[zT,reduceIte,Nat.reduceEqDiff];refine hK17 _ _ ?_;refine gwp_prune [2,3,4,13,14,23,24,25,163,164,176,177,178] (Or.inr (by simp)) ?_;simp only[zP,Nat.reduceEqDiff,reduceIte];refine gR fun K hK=>?_;simp -dsimp [wt];apply hK;clear hK K;simp only[zT,reduceIte,Nat.reduceEqDiff];have hbt:a.testBit t=false:=by cases h:a.testBit t with|false=>rfl|true=>rw[h]at hc9;simp at hc9
         refine⟨t+1,by omega,by omega,?_⟩;rw[Af_off _ _ _ _ _ hbt,Rf_off _ _ _ _ _ hbt];exact gsub (sub_same (by simp)) (by simp)
       ·have htl:¬t<fs.length:=by simpa using hc8
        have hte:t=fs.length:=by omega
        rw[hte];have hsol:=m_solved (eqM ((Pt g (onW g.Wires s.Wires) us p fs fs.length).A (bitS a)) p) (p.map ((Pt g (onW g.Wires s.Wires) us p fs fs.length).b (bitS a))) p.length (matL_sq _ _) hpt.n1 hpt.n10 (by simp);obtain⟨z1,z2,z3⟩:=hsm a (by omega) hal2;have hv0:(p.map fun k=>wr (Cur.num ((Pt g (onW g.Wires s.Wires) us p fs fs.length).A (bitS a)) ((Pt g (onW g.Wires s.Wires) us p fs fs.length).b (bitS a)) p k))=p.map fun k=>(Pt g (onW g.Wires s.Wires) us p fs fs.length).num (bitS a) k:=List.map_congr_left fun k _=>wr_id (by have:=z1 k;unfold Part.num at this;show _≤Cur.num _ _ (Pt g (onW g.Wires s.Wires) us p fs fs.length).ns k;omega) (by have:=z1 k;unfold Part.num at this;show Cur.num _ _ (Pt g (onW g.Wires s.Wires) us p fs fs.length).ns k≤_;omega);have hd0:wr (D ((Pt g (onW g.Wires s.Wires) us p fs fs.length).A (bitS a)) p)=(Pt g (onW g.Wires s.Wires) us p fs fs.length).den (bitS a):=wr_id (by unfold Part.den at z2;show _≤D _ (Pt g (onW g.Wires s.Wires) us p fs fs.length).ns;omega) (by unfold Part.den at z3;show D _ (Pt g (onW g.Wires s.Wires) us p fs fs.length).ns≤_;omega);rw[eqM_sol _ _ _ hpt.nd,eqM_det,hv0,hd0,←RfL_eq]at hsol;have hfit:=fitB_eq (Pt g (onW g.Wires s.Wires) us p fs fs.length) fs.length a;obtain⟨nl,hnl⟩:∃nl,nl=p.map fun k=>(Pt g (onW g.Wires s.Wires) us p fs fs.length).num (bitS a) k:=⟨_,rfl⟩;have hzl:∀k x,p[k]?=some x→nl[k]?=some ((Pt g (onW g.Wires s.Wires) us p fs fs.length).num (bitS a) x):=fun k x h=>by rw[hnl,List.getElem?_map,h];rfl
        have hnle:∀a',a'=a→(p.map fun k=>(Pt g (onW g.Wires s.Wires) us p fs fs.length).num (bitS a') k)=nl∧(Pt g (onW g.Wires s.Wires) us p fs fs.length).den (bitS a')=(Pt g (onW g.Wires s.Wires) us p fs fs.length).den (bitS a):=by rintro a' rfl;exact⟨hnl.symm,rfl⟩
        rw[←hnl]at hsol;obtain⟨M,hM⟩:∃M,M=eqM ((Pt g (onW g.Wires s.Wires) us p fs fs.length).A (bitS a)) p:=⟨_,rfl⟩;rw[←hM]at hsol;obtain⟨de,hde⟩:∃de,de=(Pt g (onW g.Wires s.Wires) us p fs fs.length).den (bitS a):=⟨_,rfl⟩;rw[←hde]at hsol z2 z3 hnle hfit;obtain⟨nu,hnu⟩:∃nu,nu=(Pt g (onW g.Wires s.Wires) us p fs fs.length).num (bitS a):=⟨_,rfl⟩;rw[←hnu]at z1 hzl hfit;have hnll:nl.length=p.length:=by rw[hnl];simp
        have hVe:(Pt g (onW g.Wires s.Wires) us p fs fs.length).V=fun(b:Nat)=>(fdI g (at0 fs b)).Volts:=rfl;have hpe:(Pt g (onW g.Wires s.Wires) us p fs fs.length).p=fun(b:Nat)=>(fdI g (at0 fs b)).At.toNat:=rfl;rw[hVe,hpe]at hfit;clear hnu hde hVe hpe;refine gwp_exit ?_;simp only[zT,reduceIte,Nat.reduceEqDiff];refine hK15 _ _ ?_;refine gwp_prune [2,3,4,13,14,23,24,25,163,164] (Or.inr (by simp)) ?_;simp only[zP,Nat.reduceEqDiff,reduceIte];refine gwp_weak (gsub (sub_rf (T':=[(2, .mpc false [.i .i64] us),(3, .ptr 0 0 0),(4, .ptr 1 0 0),(13,iL fs),(14, .clo 73 [.ptr 1 0 0, .ptr 0 0 0]),(23,I a),(24,mL M),(25,iL (RfL g (onW g.Wires s.Wires) us p fs fs.length a)),(163,I (2^fs.length)),(164,I a)]) (H':=[some (.els 1 [[net g s]]),some (.els 1 [[iL (upN p)]])]) [some 0,some 1] rfl ⟨.inr (by simp), .inr (by simp), .inr (by simp), .inr (by simp), .inr (by simp), .inr (by simp), .inr ?_, .inr ?_, .inr (by simp), .inr (by simp),trivial⟩ (by simp)) (by simp)) ?_
        ·rw[hM];exact A_rows _ _ _ _ hpt.n1
        ·exact b_frz _ _ _ _ _ (RfL_len _ _ _ _ _ _ _) hpt.n1
        ·refine gS fun K hK=>?_;simp -dsimp;refine callK_mut [] [] [none,none,some 0] (hsol) (by decide) rfl (by simp) (by simp) rfl (by simp) ?_;simp -dsimp;apply hK;clear hK K;refine gS fun K hK=>?_;simp -dsimp;apply hK;clear hK K;refine gwp_seq_k fun K18 hK18=>?_;refine gS fun K hK=>?_;simp -dsimp;apply hK;clear hK K;refine gwp_block ?_;refine gwp_prune [2,3,4,13,14,23,30,31,32,163,164,228,229,230] (Or.inr (by simp)) ?_;simp only[zP,Nat.reduceEqDiff,reduceIte];refine gwp_loop_l [2,3,4,13,14,23,30,31,163,164,228,229] (α:=Nat) (fun b=>[(32,Bo ((List.range b).all (fitC (fun(b:Nat)=>(fdI g (at0 fs b)).Volts) (fun(b:Nat)=>(fdI g (at0 fs b)).At.toNat) nu de a))),(230,I b)]) (fun b=>[some (.els 1 [[net g s]]),some (.els 1 [[iL (upN p)]]),some (.els 1 (nl.map nCell))]) (fun b=>b≤fs.length) (fun b=>fs.length-b) 0 ?_ ?_ ?_
         ·exact Nat.zero_le _
         ·exact gsub (sub_rb [some 0,some 1,some 2] rfl (by simp) (by simp)) (by simp)
         rintro b b1;simp only[zP,Nat.reduceEqDiff,reduceIte];refine gS fun K hK=>?_;simp -dsimp;apply hK;clear hK K;refine gwp_seq_k fun K19 hK19=>?_;refine gwp_cond rfl (fun hc10=>?_) (fun hc10=>?_)
         ·have hbl:b<fs.length:=by simpa using hc10
          have wb:=zW b (by omega);have hbit:bits .and .i64 ((a:Int)/2^b) 1=if a.testBit b then 1 else 0:=by have:=shr_bit a b (by omega);rwa [Int.toNat_natCast]at this
          have hb64:b≤IntKind.i64.bits:=Nat.le_trans (show b≤12 by omega) (by decide);have hvd:-100000000000000000≤(fdI g (at0 fs b)).Volts*de∧(fdI g (at0 fs b)).Volts*de≤100000000000000000:=by
           have h:=hfa b hbl;have h1:=Int.mul_nonneg (show 0≤(fdI g (at0 fs b)).Volts by omega) (show 0≤de by omega);have h2:=Int.mul_le_mul h.2.2.2.2.2.2.2.1 z3 (by omega) (by omega);omega
          have w1:IntKind.i64.wrap ((fdI g (at0 fs b)).Volts*de)=(fdI g (at0 fs b)).Volts*de:=wrap_in (by omega) (by omega);have w2:IntKind.i64.wrap ((fdI g (at0 fs b)).Volts*de-nu (fdI g (at0 fs b)).At.toNat)=(fdI g (at0 fs b)).Volts*de-nu (fdI g (at0 fs b)).At.toNat:=wrap_in (by have:=z1 (fdI g (at0 fs b)).At.toNat;omega) (by have:=z1 (fdI g (at0 fs b)).At.toNat;omega);have hzp:=hzl _ _ (idxOf_get (hfa b hbl).2.2.2.2.2.1);refine gwp_skip ?_;simp only[zT,reduceIte,Nat.reduceEqDiff];refine hK19 _ _ ?_;refine gwp_prune [2,3,4,13,14,23,30,31,32,163,164,228,229,230] (Or.inr (by simp)) ?_;simp only[zP,Nat.reduceEqDiff,reduceIte];refine gwp_seq_k fun K20 hK20=>?_;refine gwp_block ?_;refine gS fun K hK=>?_;simp -dsimp [(hfa b hbl).1];apply hK;clear hK K;refine gwp_sd mixed rfl (by decide) rfl rfl fun K hK=>?_;simp -dsimp [(hfa b hbl).1,(hfa b hbl).2.1,(hfa b hbl).2.2.2.1,w1,w2,hpi b hbl,hzp];refine callK_intro _ (hwh b hbl) (by simp) ?_;simp -dsimp [(hfa b hbl).1,(hfa b hbl).2.1,(hfa b hbl).2.2.2.1,w1,w2,hpi b hbl,hzp];refine hK _ _ _ (by decide+kernel) ?_;clear hK K;refine gR fun K hK=>?_;simp -dsimp [hbit,hb64];apply hK;clear hK K;simp only[zT,reduceIte,Nat.reduceEqDiff];refine hK20 _ _ ?_;refine gwp_prune [2,3,4,13,14,23,30,31,32,163,164,228,229,230] (Or.inr (by simp)) ?_;simp only[zP,Nat.reduceEqDiff,reduceIte];refine gR fun K hK=>?_;simp -dsimp [wb];apply hK;clear hK K;simp only[zT,reduceIte,Nat.reduceEqDiff];refine⟨b+1,by omega,by omega,gsub (sub_rb [some 0,some 1,some 2] rfl ?_ (by simp)) (by simp)⟩;rw[all_succ];unfold fitC
          cases hbb:a.testBit b<;>simp[hbb]
         ·have hbl:¬b<fs.length:=by simpa using hc10
          have hbe:b=fs.length:=by omega
          rw[hbe,←hfit];refine gwp_exit ?_;simp only[zT,reduceIte,Nat.reduceEqDiff];refine hK18 _ _ ?_;refine gwp_prune [2,3,4,13,14,30,31,32,163,164] (Or.inr (by simp)) ?_;simp only[zP,Nat.reduceEqDiff,reduceIte];refine gS fun K hK=>?_;simp -dsimp;apply hK;clear hK K;refine gwp_cond rfl (fun hc11=>?_) (fun hc11=>?_)
          ·refine gS fun K hK=>?_;simp -dsimp;apply hK;clear hK K;have hae:a0=a:=by
            rcases Nat.lt_or_ge a a0 with h|h
            ·have:=hal a (by omega) h;rw[this]at hc11;cases hc11
            ·omega
           obtain⟨g1,g2⟩:=hnle a0 hae;have htk:List.take p.length (nl.map nCell)=nl.map nCell:=List.take_of_length_le (by simp;omega);exact gwp_ret (by simp[e1,e2,e3,g1,g2,hnll,htk,resP,tupOf])
          ·refine gwp_skip ?_;simp only[zT,reduceIte,Nat.reduceEqDiff];refine hK13 _ _ ?_;refine gwp_prune [2,3,4,13,14,163,164] (Or.inr (by simp)) ?_;simp only[zP,Nat.reduceEqDiff,reduceIte];refine gR fun K hK=>?_;simp -dsimp [wa];apply hK;clear hK K;simp only[zT,reduceIte,Nat.reduceEqDiff];have hae:a0≠a:=by
            rintro rfl;rw[haf]at hc11;cases hc11
           exact⟨a+1,by omega,by omega,gsub (sub_rb [some 0,some 1] rfl (by simp) (by simp)) (by simp)⟩
     ·exfalso;have h:((a:Nat):Int)<2^fs.length:=by have:=Int.ofNat_lt.2 (show a<2^fs.length by omega);rwa [Int.natCast_pow]at this
      exact absurd h (of_decide_eq_false hc6)
end Go.Cur
end
section
namespace Go.Cur
open Go.AM Go.Proofs
theorem ins_perm (x:Int):∀l,(ins x l).Perm (x::l)
 |[]=>List.Perm.refl _
 |y::l=>by
  simp only[ins]
  split
  ·exact List.Perm.refl _
  ·exact((ins_perm x l).cons y).trans (List.Perm.swap x y l)
theorem srt_perm (l:List Int):(srt l).Perm l:=by
 have gen:∀(l s:List Int),(l.foldl (fun s x=>ins x s) s).Perm (s++l):=by
  intro l
  induction l with
  |nil=>intro s;simp
  |cons x l ih=>
   intro s;rw[List.foldl_cons];refine(ih (ins x s)).trans ?_;refine((ins_perm x s).append_right l).trans ?_;exact(List.perm_middle (l₁:=s) (l₂:=l) (a:=x)).symm
 have:=gen l [];simpa [srt]using this
theorem srt_eq {l m:List Int} (hm:m.Pairwise (· ≤ ·)) (h:l.Perm m):srt l=m:=
 List.Perm.eq_of_pairwise (fun a b _ _ h1 h2=>Int.le_antisymm h1 h2) (srt_sorted l) hm ((srt_perm l).trans h)
abbrev netE (g:Gr) (s:Sta):List (Nat×Nat):=edges (onW g.Wires s.Wires)
def partL (g:Gr) (s:Sta):List (List Nat):=partsN (netE g s) g.Nodes.toNat
def pAV (p:List Nat):List AV:=[iL (upN p)]
theorem pAV_len (l:List (List Nat)):∀z∈l.map pAV,z.length=1:=by
 intro z hz;obtain⟨q,_,rfl⟩:=List.mem_map.1 hz
 rfl
theorem onW_ok {g:Gr} {s:Sta} (h:NetOk g s):OkW (onW g.Wires s.Wires) g.Nodes.toNat:=fun w hw=>by
 obtain⟨w',hw',rfl⟩:=onW_mem hw;have:=h.wires w' hw';simp only[wrB,Bool.and_eq_true,inr_iff,Bool.not_eq_true',decide_eq_false_iff_not]at this;have hn:=(grB_bd h.gr).1;refine⟨?_,?_,?_,?_⟩<;>simp only<;>omega
theorem netE_ok {g:Gr} {s:Sta} (h:NetOk g s):∀e∈netE g s,e.1<g.Nodes.toNat∧e.2<g.Nodes.toNat:=edges_ok (onW_ok h)
def metB (E:List (Nat×Nat)) (n k:Nat) (part:List Nat) (j:Nat):Bool:=decide (nm E n j<k)||decide (j∈part)
def metL (E:List (Nat×Nat)) (n k:Nat) (part:List Nat):List Bool:=(List.range n).map (metB E n k part)
theorem metL_len (E:List (Nat×Nat)) (n k:Nat) (part:List Nat):(metL E n k part).length=n:=by simp[metL]
theorem metL_get {E:List (Nat×Nat)} {n k j:Nat} {part:List Nat} (h:j<n):(metL E n k part)[j]?=some (metB E n k part j):=by
 unfold metL;rw[List.getElem?_map,List.getElem?_range h];rfl
theorem metL_set {E:List (Nat×Nat)} {n k j:Nat} {part:List Nat}:(metL E n k part).set j true=metL E n k (part++[j]):=by
 refine List.ext_getElem? fun i=>?_
 by_cases hi:i<n
 ·rw[metL_get hi]
  by_cases h:i=j
  ·subst h;rw[List.getElem?_set_self (by rw[metL_len];exact hi)];simp[metB]
  ·rw[List.getElem?_set_ne (fun e=>h e.symm),metL_get hi];simp[metB,h]
 ·rw[List.getElem?_eq_none (by simp[metL];omega),List.getElem?_eq_none (by simp[metL];omega)]
theorem metL_zero (E:List (Nat×Nat)) (n:Nat):metL E n 0 []=List.replicate n false:=by
 refine List.ext_getElem? fun i=>?_
 by_cases hi:i<n
 ·rw[metL_get hi,List.getElem?_replicate,if_pos hi];simp[metB]
 ·rw[List.getElem?_eq_none (by simp[metL];omega),List.getElem?_eq_none (by simp;omega)]
theorem metL_next {E:List (Nat×Nat)} {n k:Nat} {part:List Nat} (h:∀j,j<n→(j∈part↔nm E n j=k)):metL E n k part=metL E n (k+1) []:=by
 unfold metL;refine List.map_congr_left fun j hj=>?_;have:=h j (List.mem_range.1 hj);unfold metB;simp only[this,List.not_mem_nil,decide_false,Bool.or_false];rw[Bool.eq_iff_iff];simp only[Bool.or_eq_true,decide_eq_true_eq];omega
def headsTo (E:List (Nat×Nat)) (n k:Nat):Nat:=((List.range k).filter fun i=>decide (nm E n i=i)).length
theorem headsTo_succ (E:List (Nat×Nat)) (n k:Nat):headsTo E n (k+1)=headsTo E n k+if nm E n k=k then 1 else 0:=by
 unfold headsTo;rw[List.range_succ,List.filter_append,List.length_append]
 by_cases h:nm E n k=k<;>simp[h]
theorem heads_at {E:List (Nat×Nat)} {n k:Nat} (hk:k<n) (h:nm E n k=k):(heads E n)[headsTo E n k]?=some k:=by
 have:∀d,∃v,(List.range (k+1+d)).filter (fun i=>decide (nm E n i=i))=(List.range k).filter (fun i=>decide (nm E n i=i))++k::v:=by
  intro d
  induction d with
  |zero=>exact⟨[],by rw[Nat.add_zero,List.range_succ,List.filter_append];simp[h]⟩
  |succ d ih=>
   obtain⟨v,hv⟩:=ih;refine⟨v++if nm E n (k+1+d)=k+1+d then [k+1+d]else [],?_⟩;rw[←Nat.add_assoc,List.range_succ,List.filter_append,hv,List.append_assoc]
   by_cases hx:nm E n (k+1+d)=k+1+d<;>simp[hx]
 obtain⟨v,hv⟩:=this (n-(k+1));rw[show k+1+(n-(k+1))=n by omega]at hv;unfold heads headsTo;rw[hv,List.getElem?_append_right (Nat.le_refl _),Nat.sub_self];rfl
structure Grow (E:List (Nat×Nat)) (n k:Nat) (part:List Nat) (i:Nat):Prop where
 nd:part.Nodup
 sub:∀x∈part,x∈cp E n k
 first:k∈part
 done:∀j x,j<i→part[j]?=some x→∀e∈E,(e.1=x→e.2∈part)∧(e.2=x→e.1∈part)
theorem Grow.all {E:List (Nat×Nat)} {n k:Nat} {part:List Nat} (h:Grow E n k part part.length) (hk:k∈heads E n):∀x,x∈part↔x∈cp E n k:=by
 refine fun x=>⟨h.sub x,fun hx=>cp_whole hk h.first (fun e he=>?_) hx⟩;constructor
 ·intro h1;obtain⟨j,hj⟩:=List.getElem?_of_mem h1;exact(h.done j _ (List.getElem?_eq_some_iff.1 hj).1 hj e he).1 rfl
 ·intro h1;obtain⟨j,hj⟩:=List.getElem?_of_mem h1;exact(h.done j _ (List.getElem?_eq_some_iff.1 hj).1 hj e he).2 rfl
theorem Grow.more {E:List (Nat×Nat)} {n k i x:Nat} {part:List Nat} (h:Grow E n k part i) (hi:i≤part.length) (hx:x∈cp E n k) (hn:x∉part):Grow E n k (part++[x]) i:=by
 refine⟨?_,fun y hy=>?_,by simp[h.first],fun j y hj hy e he=>?_⟩
 ·rw[List.nodup_append];exact⟨h.nd,by simp,fun a ha b hb=>by simp at hb;subst hb;rintro rfl;exact hn ha⟩
 ·rcases List.mem_append.1 hy with hy|hy
  ·exact h.sub y hy
  ·simp at hy;subst hy;exact hx
 ·rw[List.getElem?_append_left (by omega)]at hy;obtain⟨h1,h2⟩:=h.done j y hj hy e he;exact⟨fun e=>by simp[h1 e],fun e=>by simp[h2 e]⟩
theorem Grow.len {E:List (Nat×Nat)} {n k i:Nat} {part:List Nat} (h:Grow E n k part i):part.length≤(cp E n k).length:=h.nd.length_le_of_subset h.sub
theorem cp_le {E:List (Nat×Nat)} {n k:Nat}:(cp E n k).length≤n:=by
 have:=List.length_filter_le (fun j=>decide (nm E n j=k)) (List.range n);simpa [cp]using this
theorem upN_sorted {p:List Nat} (h:p.Pairwise (· < ·)):(upN p).Pairwise (· ≤ ·):=by
 unfold upN;rw[List.pairwise_map];exact h.imp fun h=>by omega
theorem Grow.sorted {E:List (Nat×Nat)} {n k:Nat} {part:List Nat} (h:Grow E n k part part.length) (hk:k∈heads E n):srt (upN part)=upN (cp E n k):=by
 refine srt_eq (upN_sorted cp_sorted) ?_;unfold upN;exact((List.perm_ext_iff_of_nodup h.nd cp_nodup).2 (h.all hk)).map _
theorem upN_take (p:List Nat):List.take p.length ((upN p).map nCell)=(upN p).map nCell:=List.take_of_length_le (by simp[upN_len])
theorem c_parts (cs:List AV):PureCall Try.prog 26 [.iptr cs] (.clo 47 [.iptr [.iptr cs]]):=by
 refine PureCall.of_body Try.func26 rfl (by decide) (by simp[Try.ntmps26]) ?_;simp only[Try.ntmps26,Try.results26];refine aS fun K hK=>?_;simp -dsimp;apply hK;clear hK K;refine aS fun K hK=>?_;simp -dsimp;apply hK;clear hK K;exact awp_ret (by simp)
theorem c_parts1 (g:Gr) (s:Sta) (hnt:NetOk g s) (n:Nat) (hn:g.Nodes=n) (E:List (Nat×Nat)) (hE:E=netE g s) (h12:∀k∈heads E n,(cp E n k).length≤12) (xs:List (List AV)) (hx0:xs=((heads E n).map (cp E n)).map pAV):IterCall Try.prog 47 [.iptr [net g s]] xs:=by
 have hb:=grB_bd hnt.gr;have hEo:∀e∈E,e.1<n∧e.2<n:=by
  have:=netE_ok hnt;rw[←hE]at this;intro e he;have:=this e he;omega
 have f0:Fits n 2:=fits_of (by omega) (by omega);have f1:Fits n 9:=fits_of (by omega) (by omega);have hhl:xs.length=headsTo E n n:=by rw[hx0,List.length_map,List.length_map];rfl
 refine IterCallW.of_body Try.func47 rfl (by decide) (by simp[Try.ntmps47]) (by simp[Try.ntmps47]) (by simp[Try.results47]) ?_;intro J l hmk hY;simp only[Try.ntmps47,Try.results47];refine gS fun K hK=>?_;simp -dsimp [hn,f0];apply hK;clear hK K;refine gS fun K hK=>?_;simp -dsimp [hn];apply hK;clear hK K;refine gwp_block ?_;refine gwp_prune [0,1,3,20,21,999999] (Or.inl (by decide)) ?_;simp only[zP,Nat.reduceEqDiff,reduceIte];refine gwp_loop_l [0,1,3,20] (α:=Nat) (fun k=>[(21,I k),(999999,cntV (headsTo E n k))]) (fun k=>[some (.els 1 ((metL E n k []).map bCell))]) (fun k=>k≤n) (fun k=>n-k) 0 ?_ ?_ ?_
 ·exact Nat.zero_le _
 ·exact gsub (sub_rb [some 0] rfl (by simp[headsTo]) (by simp[metL_zero])) (by simp[headsTo])
 rintro k k1;simp only[zP,Nat.reduceEqDiff,reduceIte];refine gS fun K hK=>?_;simp -dsimp;apply hK;clear hK K;refine gwp_seq_k fun K1 hK1=>?_;refine gwp_cond rfl (fun hc0=>?_) (fun hc0=>?_)
 ·skip
  try simp at hc0
  have wk:=zW k (by omega);have gm:=metL_get (E:=E) (n:=n) (k:=k) (part:=[]) hc0;have hms:metL E n k [k]=(metL E n k []).set k true:=(metL_set (E:=E) (n:=n) (k:=k) (j:=k) (part:=[])).symm;have hml:=metL_len E n k [];have hmb:metB E n k [] k=decide (nm E n k<k):=by simp[metB]
  refine gwp_skip ?_;simp only[zT,reduceIte,Nat.reduceEqDiff];refine hK1 _ _ ?_;refine gwp_prune [0,1,3,20,21,999999] (Or.inl (by decide)) ?_;simp only[zP,Nat.reduceEqDiff,reduceIte];refine gwp_seq_k fun K2 hK2=>?_;refine gwp_block ?_;refine gS fun K hK=>?_;simp -dsimp;apply hK;clear hK K;refine gwp_seq_k fun K3 hK3=>?_;refine gS fun K hK=>?_;simp -dsimp [gm,hc0,hmb];apply hK;clear hK K;refine gwp_cond rfl (fun hc1=>?_) (fun hc1=>?_)
  ·skip
   try simp at hc1
   refine gwp_exit ?_;simp only[zT,reduceIte,Nat.reduceEqDiff];refine hK2 _ _ ?_;refine gwp_prune [0,1,3,20,21,999999] (Or.inl (by decide)) ?_;simp only[zP,Nat.reduceEqDiff,reduceIte];refine gR fun K hK=>?_;simp -dsimp [wk];apply hK;clear hK K;simp only[zT,reduceIte,Nat.reduceEqDiff];have hh:headsTo E n (k+1)=headsTo E n k:=by rw[headsTo_succ,if_neg (by omega)];rfl
   have hme:metL E n k []=metL E n (k+1) []:=metL_next fun j hj=>by
    simp only[List.not_mem_nil,false_iff];intro e;have h2:=nm_nm hEo j;rw[e]at h2;omega
   exact⟨k+1,by omega,by omega,gsub (sub_rb [some 0] rfl (by simp[hh]) (by simp[hme])) (by simp[hh])⟩
  ·skip
   try simp at hc1
   have hnk:nm E n k=k:=by have:=nm_le (E:=E) (n:=n) (k:=k);omega
   have hkh:k∈heads E n:=heads_mem.2 ⟨hc0,hnk⟩;refine gwp_skip ?_;simp only[zT,reduceIte,Nat.reduceEqDiff];refine hK3 _ _ ?_;refine gwp_prune [0,1,3,4,20,21,999999] (Or.inl (by decide)) ?_;simp only[zP,Nat.reduceEqDiff,reduceIte];refine gS fun K hK=>?_;simp -dsimp [hc0,hml];apply hK;clear hK K;refine gwp_flag (by decide) ?_;refine gS fun K hK=>?_;simp -dsimp;apply hK;clear hK K;refine gwp_seq_k fun K4 hK4=>?_;refine gS fun K hK=>?_;simp -dsimp;apply hK;clear hK K;refine gwp_block ?_;refine gwp_prune [0,1,3,5,6,20,21,999999] (Or.inl (by decide)) ?_;simp only[zP,Nat.reduceEqDiff,reduceIte];refine gwp_loop_l [0,1,3,20,21] (α:=Nat×List Nat) (fun x=>[(5, .row 1 0 x.2.length),(6,I x.1),(999999,cntV (headsTo E n k))]) (fun x=>[some (.els 1 ((metL E n k x.2).map bCell)),some (.els 1 ((upN x.2).map nCell))]) (fun x=>x.1≤x.2.length∧Grow E n k x.2 x.1) (fun x=>n-x.1) (0,[k]) ?_ ?_ ?_
   ·exact⟨Nat.zero_le _,⟨by simp,by simpa using cp_self hkh,by simp,fun j x hj=>by omega⟩⟩
   ·refine gsub (sub_rb [some 0,some 1] rfl (by simp) ?_) (by simp);simp[hms,List.map_set,upN]
   rintro⟨i,part⟩ ⟨i1,i2⟩;simp only at i1 i2 ⊢;simp only[zP,Nat.reduceEqDiff,reduceIte];refine gwp_seq_k fun K5 hK5=>?_;refine gS fun K hK=>?_;simp -dsimp;apply hK;clear hK K;refine gwp_cond rfl (fun hc2=>?_) (fun hc2=>?_)
   ·have hil:i<part.length:=by simpa using hc2
    obtain⟨x,hx⟩:∃x,part[i]?=some x:=⟨_,List.getElem?_eq_getElem hil⟩;have hpn:part.length≤n:=Nat.le_trans i2.len cp_le;have hxc:=i2.sub x (List.mem_of_getElem? hx);have hxn:x<n:=(cp_mem.1 hxc).1;have wi:=zW i (by omega);refine gwp_skip ?_;simp only[zT,reduceIte,Nat.reduceEqDiff];refine hK5 _ _ ?_;refine gwp_prune [0,1,3,5,6,20,21,999999] (Or.inl (by decide)) ?_;simp only[zP,Nat.reduceEqDiff,reduceIte];refine gwp_seq_k fun K6 hK6=>?_;refine gwp_block ?_;refine gS fun K hK=>?_;simp -dsimp;apply hK;clear hK K;refine gwp_block ?_;refine gwp_prune [0,1,3,5,6,20,21,43,44,45,999999] (Or.inl (by decide)) ?_;simp only[zP,Nat.reduceEqDiff,reduceIte];refine gwp_loop_l [0,1,3,6,20,21,43,44] (α:=Nat×List Nat) (fun y=>[(5, .row 1 0 y.2.length),(45,I y.1),(999999,cntV (headsTo E n k))]) (fun y=>[some (.els 1 ((metL E n k y.2).map bCell)),some (.els 1 ((upN y.2).map nCell))]) (fun y=>y.1≤g.Wires.length∧i<y.2.length∧Grow E n k y.2 i∧y.2[i]?=some x∧∀w∈onW (g.Wires.take y.1) (s.Wires.take y.1),(w.a=x→w.b∈y.2)∧(w.b=x→w.a∈y.2)) (fun y=>g.Wires.length-y.1) (0,part) ?_ ?_ ?_
    ·exact⟨Nat.zero_le _,hil,i2,hx,fun w hw=>by simp[onW]at hw⟩
    ·exact gsub (sub_rb [some 0,some 1] rfl (by simp) (by simp)) (by simp)
    rintro⟨q,pt⟩ ⟨j1,j2,j3,j4,j5⟩;simp only at j1 j2 j3 j4 j5 ⊢;simp only[zP,Nat.reduceEqDiff,reduceIte];refine gS fun K hK=>?_;simp -dsimp;apply hK;clear hK K;refine gwp_seq_k fun K7 hK7=>?_;refine gwp_cond rfl (fun hc3=>?_) (fun hc3=>?_)
    ·have hql:q<g.Wires.length:=by simpa using hc3
     obtain⟨w,hq⟩:∃w,g.Wires[q]?=some w:=⟨_,List.getElem?_eq_getElem hql⟩;have wq:=zW q (by omega);have hwb:=hnt.wires w (List.mem_of_getElem? hq);simp only[wrB,Bool.and_eq_true,inr_iff,Bool.not_eq_true',decide_eq_false_iff_not]at hwb;obtain⟨⟨⟨hwA,hwB⟩,hAB⟩,hwS⟩:=hwb;have hsw:=hnt.sw;have gsw:=bAt_get (l:=s.Wires) (k:=q) (by omega);have hsn:=onW_snoc hq gsw;obtain⟨a,ha⟩:∃a:Nat,w.A=a:=⟨w.A.toNat,by omega⟩;obtain⟨b,hb⟩:∃b:Nat,w.B=b:=⟨w.B.toNat,by omega⟩;obtain⟨wA,wB,wS,wSw⟩:=w;simp only at ha hb hwS hsn hwA hwB hAB;subst ha hb;simp only[Int.toNat_natCast]at hsn;have gx:=upN_get j4;have hptn:pt.length≤n:=Nat.le_trans j3.len cp_le;refine gwp_skip ?_;simp only[zT,reduceIte,Nat.reduceEqDiff];refine hK7 _ _ ?_;refine gwp_prune [0,1,3,5,6,20,21,43,44,45,999999] (Or.inl (by decide)) ?_;simp only[zP,Nat.reduceEqDiff,reduceIte];refine gwp_seq_k fun K8 hK8=>?_;refine gwp_block ?_;refine gS fun K hK=>?_;simp -dsimp [hq];apply hK;clear hK K;refine gwp_seq_k fun K9 hK9=>?_;refine gwp_sd mixed rfl (by decide) rfl rfl fun K hK=>?_;simp -dsimp [gsw,gx,j2];refine hK _ _ _ (by decide+kernel) ?_;clear hK K;refine gwp_cond rfl (fun hc4=>?_) (fun hc4=>?_)
     ·refine gwp_exit ?_;simp only[zT,reduceIte,Nat.reduceEqDiff];refine hK8 _ _ ?_;refine gwp_prune [0,1,3,5,6,20,21,43,44,45,999999] (Or.inl (by decide)) ?_;simp only[zP,Nat.reduceEqDiff,reduceIte];refine gR fun K hK=>?_;simp -dsimp [wq];apply hK;clear hK K;simp only[zT,reduceIte,Nat.reduceEqDiff];refine⟨(q+1,pt),⟨by simp only;omega,j2,j3,j4,fun w hw=>?_⟩,by simp only;omega,gsub (sub_rb [some 0,some 1] rfl (by simp) (by simp)) (by simp)⟩;rw[hsn]at hw
      rcases List.mem_append.1 hw with hw|hw
      ·exact j5 w hw
      ·cases hon:bAt s.Wires q with
       |false=>rw[hon]at hw;simp at hw
       |true=>
        rw[hon]at hw;simp only[if_true,List.mem_singleton]at hw;subst hw;simp[hon,bne,beq_d]at hc4;simp only;exact⟨fun e=>absurd e (by omega),fun e=>absurd e (by omega)⟩
     ·have hon:bAt s.Wires q=true:=by cases h:bAt s.Wires q with|true=>rfl|false=>rw[h]at hc4;simp at hc4
      have hax:a=x∨b=x:=by
       rw[hon]at hc4;simp only[bne,beq_d,Bool.not_true,Bool.false_or]at hc4
       rcases Decidable.em ((a:Int)=x)with h|h
       ·exact Or.inl (by omega)
       ·rcases Decidable.em ((b:Int)=x)with h2|h2
        ·exact Or.inr (by omega)
        ·simp[h,h2]at hc4
      obtain⟨o,ho⟩:∃o:Nat,o=if a=x then b else a:=⟨_,rfl⟩;have hmem:(⟨a,b,wS⟩:Wn)∈onW g.Wires s.Wires:=onW_take (k:=q+1) (by rw[hsn,hon];simp);have hed:(a,b)∈E:=by rw[hE];exact List.mem_map.2 ⟨_,hmem,rfl⟩
      have hnab:=nm_eq hEo hed;have hbds:=hEo _ hed;simp only at hnab hbds;have hxk:nm E n x=k:=(cp_mem.1 hxc).2;have hoc:o<n∧nm E n o=k:=by
       rcases hax with h|h
       ·subst h;rw[ho,if_pos rfl];exact⟨hbds.2,by rw[←hnab];exact hxk⟩
       ·by_cases h2:a=x
        ·rw[ho,if_pos h2,h];exact⟨hxn,hxk⟩
        ·subst h;rw[ho,if_neg h2];exact⟨hbds.1,by rw[hnab];exact hxk⟩
      have hoe:(a:Int)+b-x=o:=by
       rw[ho]
       split<;>omega
      have wab:IntKind.i64.wrap ((a:Int)+b)=(a:Int)+b:=wrap_in (by omega) (by omega);have wabx:IntKind.i64.wrap ((a:Int)+b-x)=o:=by rw[hoe];exact wrap_in (by omega) (by omega)
      have gmo:=metL_get (E:=E) (n:=n) (k:=k) (part:=pt) hoc.1;have hmo:metB E n k pt o=decide (o∈pt):=by unfold metB;rw[decide_eq_false (by omega),Bool.false_or]
      have hj5:∀pt':List Nat,(∀y∈pt,y∈pt')→o∈pt'→∀w∈onW (g.Wires.take (q+1)) (s.Wires.take (q+1)),(w.a=x→w.b∈pt')∧(w.b=x→w.a∈pt'):=by
       intro pt' hsub hop w hw;rw[hsn,hon]at hw
       rcases List.mem_append.1 hw with hw|hw
       ·exact⟨fun e=>hsub _ ((j5 w hw).1 e),fun e=>hsub _ ((j5 w hw).2 e)⟩
       ·simp only[if_true,List.mem_singleton]at hw;subst hw;simp only;refine⟨fun e=>?_,fun e=>?_⟩
        ·rw[if_pos e]at ho;rw[←ho];exact hop
        ·rw[if_neg (by omega)]at ho;rw[←ho];exact hop
      have hmsl:=metL_len E n k pt;have hms2:metL E n k (pt++[o])=(metL E n k pt).set o true:=metL_set.symm;have hul:=upN_len pt;have fpt:Fits (pt.length+1) 9:=fits_of (by omega) (by omega);refine gwp_skip ?_;simp only[zT,reduceIte,Nat.reduceEqDiff];refine hK9 _ _ ?_;refine gwp_prune [0,1,3,5,6,8,20,21,43,44,45,999999] (Or.inl (by decide)) ?_;simp only[zP,Nat.reduceEqDiff,reduceIte];refine gwp_sd mixed rfl (by decide) rfl rfl fun K hK=>?_;simp -dsimp [gx,j2,wab,wabx];refine hK _ _ _ (by decide+kernel) ?_;clear hK K;refine gS fun K hK=>?_;simp -dsimp [gmo,hmo,hoc.1];apply hK;clear hK K;refine gwp_cond rfl (fun hc5=>?_) (fun hc5=>?_)
      ·refine gS fun K hK=>?_;simp -dsimp [hoc.1,hmsl,gmo];apply hK;clear hK K;refine gR fun K hK=>?_;simp -dsimp [fpt,hul];apply hK;clear hK K;simp only[zT,reduceIte,Nat.reduceEqDiff];refine hK8 _ _ ?_;refine gwp_prune [0,1,3,5,6,20,21,43,44,45,999999] (Or.inl (by decide)) ?_;simp only[zP,Nat.reduceEqDiff,reduceIte];refine gR fun K hK=>?_;simp -dsimp [wq];apply hK;clear hK K;simp only[zT,reduceIte,Nat.reduceEqDiff];have hno:o∉pt:=by simpa using hc5
       have hup:upN (pt++[o])=upN pt++[(o:Int)]:=by simp[upN]
       refine⟨(q+1,pt++[o]),⟨by simp only;omega,by simp;omega,j3.more (by omega) (cp_mem.2 hoc) hno,?_,hj5 _ (fun y hy=>by simp[hy]) (by simp)⟩,by simp only;omega,gsub (sub_rb [some 0,some 3] rfl (by simp) (by simp[hms2,hup,List.map_set,upN_take])) (by simp)⟩;simp only;rw[List.getElem?_append_left j2];exact j4
      ·refine gwp_skip ?_;simp only[zT,reduceIte,Nat.reduceEqDiff];refine hK8 _ _ ?_;refine gwp_prune [0,1,3,5,6,20,21,43,44,45,999999] (Or.inl (by decide)) ?_;simp only[zP,Nat.reduceEqDiff,reduceIte];refine gR fun K hK=>?_;simp -dsimp [wq];apply hK;clear hK K;simp only[zT,reduceIte,Nat.reduceEqDiff];have hno:o∈pt:=by simpa using hc5
       exact⟨(q+1,pt),⟨by simp only;omega,j2,j3,j4,hj5 _ (fun y hy=>hy) hno⟩,by simp only;omega,gsub (sub_rb [some 0,some 1] rfl (by simp) (by simp)) (by simp)⟩
    ·have hqe:¬q<g.Wires.length:=by simpa using hc3
     have hsw:=hnt.sw;have ht1:g.Wires.take q=g.Wires:=List.take_of_length_le (by omega);have ht2:s.Wires.take q=s.Wires:=List.take_of_length_le (by omega);rw[ht1,ht2]at j5;refine gwp_exit ?_;simp only[zT,reduceIte,Nat.reduceEqDiff];refine hK6 _ _ ?_;refine gwp_prune [0,1,3,5,6,20,21,999999] (Or.inl (by decide)) ?_;simp only[zP,Nat.reduceEqDiff,reduceIte];refine gR fun K hK=>?_;simp -dsimp [wi];apply hK;clear hK K;simp only[zT,reduceIte,Nat.reduceEqDiff];have hptn:pt.length≤n:=Nat.le_trans j3.len cp_le;refine⟨(i+1,pt),⟨by simp only;omega,j3.nd,j3.sub,j3.first,fun j y hj hy e he=>?_⟩,by simp only;omega,gsub (sub_rb [some 0,some 1] rfl (by simp) (by simp)) (by simp)⟩
     rcases Nat.lt_succ_iff_lt_or_eq.1 hj with h|h
     ·exact j3.done j y h hy e he
     ·subst h;rw[j4]at hy;simp only[Option.some.injEq]at hy;subst hy;rw[hE]at he;obtain⟨w,hw,rfl⟩:=List.mem_map.1 he;exact j5 w hw
   ·have hil:¬i<part.length:=by simpa using hc2
    have hie:i=part.length:=by omega
    rw[hie]at i2;have hpl12:part.length≤12:=Nat.le_trans i2.len (h12 k hkh);have hp1:1≤part.length:=List.length_pos_of_mem i2.first
    have hsort:=m_Sort (upN part) (by rw[upN_len];exact hp1) (by rw[upN_len];exact hpl12);rw[i2.sorted hkh,upN_len]at hsort;have hcl:(cp E n k).length=part.length:=((List.perm_ext_iff_of_nodup i2.nd cp_nodup).2 (i2.all hkh)).length_eq.symm;have hmn:metL E n k part=metL E n (k+1) []:=metL_next fun j hj=>by rw[i2.all hkh];exact⟨fun h=>(cp_mem.1 h).2,fun h=>cp_mem.2 ⟨hj,h⟩⟩
    rw[hmn];have hxs:xs[headsTo E n k]?=some [iL (upN (cp E n k))]:=by rw[hx0,List.getElem?_map,List.getElem?_map,heads_at hc0 hnk];rfl
    refine gwp_exit ?_;simp only[zT,reduceIte,Nat.reduceEqDiff];refine hK4 _ _ ?_;refine gwp_prune [0,1,3,5,20,21,999999] (Or.inl (by decide)) ?_;simp only[zP,Nat.reduceEqDiff,reduceIte];refine gS fun K hK=>?_;simp -dsimp;refine callK_mut [1] [] [none,some 0] (hsort) (by decide) rfl (by simp) (by simp) rfl (by simp) ?_;simp -dsimp;apply hK;clear hK K;refine gwp_weak (gsub (sub_rf (T':=[(0, .v (.func (.yield l) #[] #[])),(1, .iptr [net g s]),(3, .row 0 0 n),(5,iL (upN (cp E n k))),(20,I n),(21,I k),(999999,cntV (headsTo E n k))]) (H':=[some (.els 1 ((metL E n (k+1) []).map bCell))]) [some 0] rfl ⟨.inr (by simp), .inr (by simp), .inr (by simp), .inr ?_, .inr (by simp), .inr (by simp), .inr (by simp[cntV]),trivial⟩ (by simp)) (by simp)) ?_
    ·simp[←hcl,upN_take,upN_len]
    ·refine gwp_sy hmk hY rfl (by decide) rfl rfl fun K hK=>?_;simp -dsimp;refine yK_intro hxs ?_ ?_
     ·apply hK;clear hK K;refine gwp_cond rfl (fun hc6=>?_) (fun hc6=>?_)
      ·simp at hc6
      ·refine gwp_skip ?_;simp only[zT,reduceIte,Nat.reduceEqDiff];refine hK2 _ _ ?_;refine gwp_prune [0,1,3,20,21,999999] (Or.inl (by decide)) ?_;simp only[zP,Nat.reduceEqDiff,reduceIte];refine gR fun K hK=>?_;simp -dsimp [wk];apply hK;clear hK K;simp only[zT,reduceIte,Nat.reduceEqDiff];have hh:headsTo E n (k+1)=headsTo E n k+1:=by rw[headsTo_succ,if_pos hnk]
       exact⟨k+1,by omega,by omega,gsub (sub_rb [some 0] rfl (by simp[hh]) (by simp)) (by simp[hh])⟩
     ·apply hK;clear hK K;refine gwp_cond rfl (fun hc6=>?_) (fun hc6=>?_)
      ·exact gwp_ret (by simp)
      ·simp at hc6
 ·skip
  try simp at hc0
  have hke:k=n:=by omega
  subst hke;refine gwp_exit ?_
  try simp only[zT,reduceIte,Nat.reduceEqDiff]
  simp[hhl]
end Go.Cur
end
section
namespace Go.Cur
open Go.AM Go.Proofs
theorem flat_pAV (l:List (List Nat)):(l.map pAV).all (fun e=>e.all flatC)=true:=by simp[flatC,pAV]
@[simp high] theorem flat_pAV_ren (l:List (List Nat)) (g:List (Option Nat)) (n:Nat):(l.map pAV).map (fun e=>e.map (renAV g n))=l.map pAV:=map_flatC (fun x h=>flatC_ren h g n) (flat_pAV l)
@[simp high] theorem flat_pAV_frzP (l:List (List Nat)) (H:Hp) (n:Nat):(l.map pAV).map (fun e=>e.map (frzP H n))=l.map pAV:=map_flatC (fun x h=>flatC_frzP h H n) (flat_pAV l)
def Few12 (g:Gr) (s:Sta):Prop:=∀p∈partL g s,p.length≤12
theorem c_iter (g:Gr) (s:Sta) (hnt:NetOk g s) (h12:Few12 g s):IterCall Try.prog 47 [.iptr [net g s]] ((partL g s).map pAV):=by
 have hb:=grB_bd hnt.gr;exact c_parts1 g s hnt g.Nodes.toNat (by omega) _ rfl (fun k hk=>h12 _ (List.mem_map.2 ⟨k,hk,rfl⟩)) _ rfl
def longB (g:Gr) (s:Sta):Bool:=(partL g s).any fun p=>decide (10<p.length)
theorem c_long (g:Gr) (s:Sta) (hnt:NetOk g s) (h12:Few12 g s):PureCall Try.prog 23 [net g s] (Bo (longB g s)):=by
 have hit:=c_iter g s hnt h12;have hc:=c_parts (ntC g (bL s.Feeds) (bL s.Wires));unfold longB;generalize partL g s=L at hit;refine PureCall.of_bodyG Try.func23 rfl (by decide) (by simp[Try.ntmps23]) ?_;intro J hJ;simp only[Try.ntmps23,Try.results23];refine gS fun K hK=>?_;simp -dsimp;apply hK;clear hK K;refine gwp_seq_k fun K1 hK1=>?_;refine gS fun K hK=>?_;simp -dsimp;refine callK_intro _ (hc) (by simp) ?_;simp -dsimp;apply hK;clear hK K;refine gwp_block ?_;refine gwp_prune [2,5] (Or.inr (by simp)) ?_;simp only[zP,Nat.reduceEqDiff,reduceIte];refine gwp_range_s hJ [2,5] (fun _=>[some (.els 1 [[Bo false]])]) (fun n=>(L.take n).any (fun p=>decide (10<p.length))=false) rfl (hit) rfl (by simp) (by decide) (by decide) (by decide) (pAV_len L) ?_ ?_ ?_ ?_
 ·trivial
 ·exact sub_same (by simp)
 ·intro n xv hxn hi l1 J1 hJ1;obtain⟨p,hp,rfl⟩:∃p,L[n]?=some p∧pAV p=xv:=by simpa using hxn
  have hpl:=upN_len p;simp only[pAV];simp only[List.zip_cons_cons,List.zip_nil_left,List.zip_nil_right,List.cons_append,List.nil_append];refine gR fun K hK=>?_;simp -dsimp;apply hK;clear hK K;simp only[onlyN];intro J2 hJ2;refine gwp_prune [2,3,5] (Or.inr (by simp)) ?_;simp only[zP,Nat.reduceEqDiff,reduceIte];refine gwp_block ?_;refine gS fun K hK=>?_;simp -dsimp [hpl];apply hK;clear hK K;refine gwp_cond rfl (fun hc0=>?_) (fun hc0=>?_)
  ·skip
   try simp at hc0
   have hany:L.any (fun p=>decide (10<p.length))=true:=List.any_eq_true.2 ⟨p,List.mem_of_getElem? hp,by simp;omega⟩;refine gS fun K hK=>?_;simp -dsimp;apply hK;clear hK K;exact gwp_ret ⟨[some (.els 1 [[Bo true]])],sub_rb [some 0] rfl (by simp) (by simp),by simp[hany]⟩
  ·skip
   try simp at hc0
   refine gwp_skip ?_;simp only[thenA,inBlockA,roundQ,reduceIte,Nat.reduceEqDiff,eq_self];refine⟨?_,sub_rb [some 0] rfl (by simp) (by simp)⟩;rw[List.take_add_one,List.any_append,hi,hp];simp;omega
 ·intro hdone;simp only[zT,reduceIte,Nat.reduceEqDiff];refine hK1 _ _ ?_;refine gwp_prune [2] (Or.inr (by simp)) ?_;simp only[zP,Nat.reduceEqDiff,reduceIte];refine gS fun K hK=>?_;simp -dsimp;apply hK;clear hK K;refine gwp_ret ?_;rw[List.take_of_length_le (by simp)]at hdone;simp[hdone]
theorem m_AppendParts (g:Gr) (s:Sta) (L:List (List Nat)) (hn:L.length≤1000) (hit:IterCall Try.prog 47 [.iptr [net g s]] (L.map pAV)):MutCall Try.prog 46 [.v (.slice none 0 0), .clo 47 [.iptr [net g s]]] [] [] (.row 0 0 L.length) [] [some (.els 1 (L.map pAV))]:=by
 refine MutCall.of_bodyG [] Try.func46 rfl (by decide) (by simp[Try.ntmps46]) rfl rfl ?_;intro J hJ;simp only[Try.ntmps46,Try.results46];refine gS fun K hK=>?_;simp -dsimp;apply hK;clear hK K;refine gwp_seq_k fun K1 hK1=>?_;refine gS fun K hK=>?_;simp -dsimp;apply hK;clear hK K;refine gwp_block ?_;refine gwp_prune [2,6] (Or.inr (by simp)) ?_;simp only[zP,Nat.reduceEqDiff,reduceIte];refine gwp_range_s hJ [2,6] (fun n=>[some (.els 1 [[.row 1 0 n]]),some (.els 1 ((L.take n).map pAV))]) (fun n=>n≤L.length) rfl (hit) rfl (by simp) (by decide) (by decide) (by decide) (pAV_len _) ?_ ?_ ?_ ?_
 ·exact Nat.zero_le _
 ·exact(sub_nilc 0 0 0 1 (es:=[[.v (.slice none 0 0)]]) (e:=[.v (.slice none 0 0)]) (by simp) (by simp) (by simp)).trans (sub_same (by simp))
 ·intro n xv hxn hi l1 J1 hJ1;obtain⟨q,hq,rfl⟩:∃q,L[n]?=some q∧pAV q=xv:=by simpa using hxn
  have hnl:n<L.length:=(List.getElem?_eq_some_iff.1 hq).1;have f1:Fits (n+1) 25:=fits_of (by omega) (by omega);have hts:L.take (n+1)=L.take n++[q]:=by rw[List.take_add_one,hq];rfl
  have htl:(L.take n).length=n:=by rw[List.length_take];omega
  generalize L.take n=L' at hts htl ⊢;subst htl;simp only[pAV];simp only[List.zip_cons_cons,List.zip_nil_left,List.zip_nil_right,List.cons_append,List.nil_append];refine gR fun K hK=>?_;simp -dsimp;apply hK;clear hK K;simp only[onlyN];intro J2 hJ2;refine gwp_prune [2,5,6] (Or.inr (by simp)) ?_;simp only[zP,Nat.reduceEqDiff,reduceIte];refine gwp_block ?_;refine gR fun K hK=>?_;simp -dsimp [f1];apply hK;clear hK K;simp only[thenA,inBlockA,roundQ,reduceIte,Nat.reduceEqDiff,eq_self];refine⟨hnl,sub_rb [some 0,some 2] rfl (by simp) (by simp[hts,pAV])⟩
 ·intro hdone;simp only[zT,reduceIte,Nat.reduceEqDiff];refine hK1 _ _ ?_;refine gwp_prune [2] (Or.inr (by simp)) ?_;simp only[zP,Nat.reduceEqDiff,reduceIte];refine gS fun K hK=>?_;simp -dsimp;apply hK;clear hK K;have hte:L.take (L.map pAV).length=L:=List.take_of_length_le (by simp);exact gwp_ret ⟨[some 1],rfl,by simp,by simp,by simp,by simp[resP,tupOf]⟩
theorem m_CollectParts (g:Gr) (s:Sta) (L:List (List Nat)) (hn:L.length≤1000) (hit:IterCall Try.prog 47 [.iptr [net g s]] (L.map pAV)):MutCall Try.prog 25 [.clo 47 [.iptr [net g s]]] [] [] (.row 0 0 L.length) [] [some (.els 1 (L.map pAV))]:=by
 have h:=m_AppendParts g s L hn hit;refine MutCall.of_bodyG [] Try.func25 rfl (by decide) (by simp[Try.ntmps25]) rfl rfl ?_;intro J hJ;simp only[Try.ntmps25,Try.results25];refine gS fun K hK=>?_;simp -dsimp;apply hK;clear hK K;refine gS fun K hK=>?_;simp -dsimp;refine callK_mut [] [] [some 0] (h) (by decide) rfl (by simp) (by simp) rfl (by simp) ?_;simp -dsimp;apply hK;clear hK K;exact gwp_ret ⟨[some 0],rfl,by simp,by simp,by simp,by simp[resP,tupOf]⟩
theorem PureCall.argR {P:Program} {f:FuncId} {args args':List AV} {res:AV} (h:PureCall P f args' res) (hl:args.length=args'.length)
  (hr:∀(i:Nat) c c',args[i]?=some c→args'[i]?=some c'→∀(w:World) (S:Nat→Prop) (y:Value),RepP w S c y→RepP w S c' y):PureCall P f args res:=by
 have key:∀{w:World} {S:Nat→Prop} {vs:List Value},(∀(i:Nat) c x,args[i]?=some c→vs[i]?=some x→RepP w S c x)→∀(i:Nat) c x,args'[i]?=some c→vs[i]?=some x→RepP w S c x:=by
  intro w S vs h i c x h1 h2;have hil:i<args.length:=by rw[hl];exact(List.getElem?_eq_some_iff.1 h1).1
  exact hr i _ c (List.getElem?_eq_getElem hil) h1 w S x (h i _ x (List.getElem?_eq_getElem hil) h2)
 rcases h with⟨h1,h2⟩|h2
 ·exact Or.inl ⟨h1,fun S0 w vs a b c=>h2 S0 w vs a (by rw[←hl];exact b) (key c)⟩
 ·exact Or.inr fun S0 w vs a b=>h2 S0 w vs (by rw[←hl];exact a) (key b)
theorem c_begin_n {res:AV} (g:Gr) (s:Sta) (h:PureCall Try.prog 22 [g.av,s.av,lL []] res):PureCall Try.prog 22 [g.av,s.av, .v (.slice none 0 0)] res:=by
 refine PureCall.argR h rfl fun i c c' h1 h2 w S y hy=>?_
 match i with
 |0=>simp at h1 h2;subst h1 h2;exact hy
 |1=>simp at h1 h2;subst h1 h2;exact hy
 |2=>
  simp only[List.getElem?_cons_succ,List.getElem?_cons_zero,Option.some.injEq]at h1 h2;subst h1 h2;exact nil_lst hy
 |i+3=>simp at h1
theorem fine_net {g:Gr} {s:Sta} {l:List Ld} (h:fineB g s l=true):NetOk g s:=by
 simp only[fineB,stB,Bool.and_eq_true,decide_eq_true_eq]at h;exact⟨h.1.1,h.1.2.1.1,h.1.2.1.2⟩
theorem partL_len (g:Gr) (s:Sta):(partL g s).length≤g.Nodes.toNat:=by
 unfold partL partsN;rw[List.length_map];have:=List.length_filter_le (fun i=>decide (nm (netE g s) g.Nodes.toNat i=i)) (List.range g.Nodes.toNat);simpa [heads]using this
theorem c_Parts_t (g:Gr) (s:Sta) (hf:fineB g s []=true) (h12:Few12 g s):PureCall Try.prog 11 [g.av,s.av] (.tup [.lst 1 ((partL g s).map pAV),I 0]):=by
 have hnt:=fine_net hf;have hb:=c_begin_n g s (c_begin_t g s [] (by simp) hf);have hc:=c_parts (ntC g (bL s.Feeds) (bL s.Wires));have hll:=partL_len g s;have hbd:=grB_bd hnt.gr;have hco:=m_CollectParts g s (partL g s) (by omega) (c_iter g s hnt h12);refine PureCall.of_bodyG Try.func11 rfl (by decide) (by simp[Try.ntmps11]) ?_;intro J hJ;simp only[Try.ntmps11,Try.results11];refine gS fun K hK=>?_;simp -dsimp;apply hK;clear hK K;refine gS fun K hK=>?_;simp -dsimp;refine callK_intro _ (hb) (by simp) ?_;simp -dsimp;apply hK;clear hK K;refine gwp_seq_k fun K1 hK1=>?_;refine gS fun K hK=>?_;simp -dsimp;apply hK;clear hK K;refine gwp_cond rfl (fun hc0=>?_) (fun hc0=>?_)
 ·simp at hc0
 ·refine gwp_skip ?_;simp only[zT,reduceIte,Nat.reduceEqDiff];refine hK1 _ _ ?_;refine gwp_prune [6] (Or.inr (by simp)) ?_;simp only[zP,Nat.reduceEqDiff,reduceIte];refine gS fun K hK=>?_;simp -dsimp;refine callK_intro _ (hc) (by simp) ?_;simp -dsimp;refine callK_mut [] [] [none,none,some 0] (hco) (by decide) rfl (by simp) (by simp) rfl (by simp) ?_;simp -dsimp;apply hK;clear hK K;exact gwp_ret (by simp[resP,tupOf])
end Go.Cur
end
section
namespace Go.Cur
open Go.AM Go.Proofs
theorem c_rin (x lo hi:Int):PureCall Try.prog 14 [I x,I lo,I hi] (Bo (inr x lo hi)):=by
 refine PureCall.of_body Try.func14 rfl (by decide) (by simp[Try.ntmps14]) ?_;simp only[Try.ntmps14,Try.results14];refine aS fun K hK=>?_;simp -dsimp;apply hK;clear hK K;refine aS fun K hK=>?_;simp -dsimp;apply hK;clear hK K;exact awp_ret (by simp[inr])
end Go.Cur
end
section
namespace Go.Cur
open Go.AM Go.Proofs
structure VPart (g:Gr) (s:Sta) (us:Kvs) (p:List Nat) (v:List Int) (d:Int) (vf:Nat→Fr):Prop where
 call:PureCall Try.prog 56 [net g s,iL (upN p), .mpc false [.i .i64] us] (.tup [iL v,I d,Bo true])
 len:v.length=p.length
 d0:0<d
 d1:d≤100000000000000
 nb:∀x∈v,-300000000000000000≤x∧x≤300000000000000000
 fr:∀i k,p[i]?=some k→vf k=red (at0 v (i:Nat)) d
theorem red_bd {n d:Int} (hd:0<d):0<(red n d).Den∧(red n d).Den≤d∧(red n d).Num.natAbs≤n.natAbs:=by
 obtain⟨a,b,g,hg,e,ha,hb⟩:=gcd_dvd (n:=n) hd;have ea':n/g=a:=by rw[ha];exact Int.mul_ediv_cancel_left _ (by omega)
 have eb':d/g=b:=by rw[hb];exact Int.mul_ediv_cancel_left _ (by omega)
 have hb0:0<b:=by
  refine Int.not_le.1 fun h=>?_;have:=Int.mul_nonpos_of_nonneg_of_nonpos (Int.le_of_lt hg) h;omega
 have hbd:b≤d:=by
  have:=Int.mul_le_mul_of_nonneg_right (show(1:Int)≤g by omega) (Int.le_of_lt hb0);omega
 have hna:a.natAbs≤n.natAbs:=by
  rw[ha,Int.natAbs_mul];exact Nat.le_mul_of_pos_left _ (by omega)
 unfold red;rw[e,ea',eb'];exact⟨hb0,hbd,hna⟩
def vlF (n:Nat) (vf:Nat→Fr) (done:List Nat):List Fr:=(List.range n).map fun k=>if k∈done then vf k else⟨0,0⟩
theorem vlF_len (n:Nat) (vf:Nat→Fr) (done:List Nat):(vlF n vf done).length=n:=by simp[vlF]
theorem vlF_get {n:Nat} {vf:Nat→Fr} {done:List Nat} {k:Nat} (h:k<n):(vlF n vf done)[k]?=some (if k∈done then vf k else⟨0,0⟩):=by
 unfold vlF;rw[List.getElem?_map,List.getElem?_range h];rfl
theorem vlF_set {n:Nat} {vf:Nat→Fr} {done:List Nat} {k:Nat}:(vlF n vf done).set k (vf k)=vlF n vf (done++[k]):=by
 refine List.ext_getElem? fun i=>?_
 by_cases hi:i<n
 ·rw[vlF_get hi]
  by_cases h:i=k
  ·subst h;rw[List.getElem?_set_self (by rw[vlF_len];exact hi)];simp
  ·rw[List.getElem?_set_ne (fun e=>h e.symm),vlF_get hi];simp[h]
 ·rw[List.getElem?_eq_none (by simp[vlF];omega),List.getElem?_eq_none (by simp[vlF];omega)]
theorem vlF_nil (n:Nat) (vf:Nat→Fr):vlF n vf []=List.replicate n ⟨0,0⟩:=by
 unfold vlF;refine List.ext_getElem? fun i=>?_
 by_cases hi:i<n
 ·rw[List.getElem?_map,List.getElem?_range hi,List.getElem?_replicate,if_pos hi];simp
 ·rw[List.getElem?_eq_none (by simp;omega),List.getElem?_eq_none (by simp;omega)]
def vlA (n:Nat) (vf:Nat→Fr):List Fr:=(List.range n).map vf
theorem vlF_all {n:Nat} {vf:Nat→Fr} {done:List Nat} (h:∀k,k<n→k∈done):vlF n vf done=vlA n vf:=by
 unfold vlF vlA;exact List.map_congr_left fun k hk=>if_pos (h k (List.mem_range.1 hk))
theorem vlA_get {n:Nat} {vf:Nat→Fr} {k:Nat} (h:k<n):(vlA n vf)[k]?=some (vf k):=by
 unfold vlA;rw[List.getElem?_map,List.getElem?_range h];rfl
theorem partL_all {g:Gr} {s:Sta} (hnt:NetOk g s) {k:Nat} (hk:k<g.Nodes.toNat):k∈(partL g s).flatten:=by
 rw[List.mem_flatten];exact⟨_,List.mem_map.2 ⟨_,nm_head (netE_ok hnt) hk,rfl⟩,cp_mem.2 ⟨hk,rfl⟩⟩
theorem partL_lt {g:Gr} {s:Sta} {p:List Nat} (hp:p∈partL g s) {k:Nat} (hk:k∈p):k<g.Nodes.toNat:=by
 obtain⟨i,_,rfl⟩:=List.mem_map.1 hp;exact(cp_mem.1 hk).1
def ffF (g:Gr) (s:Sta) (vf:Nat→Fr) (i:Nat):Fr:=
 let f:=fdI g i
 let v:=vf f.At.toNat
 if bAt s.Feeds i=true∧0<f.Volts*v.Den-v.Num then red (f.Siem*(f.Volts*v.Den-v.Num)) v.Den else⟨0,1⟩
def flF (g:Gr) (s:Sta) (vf:Nat→Fr) (k:Nat):List Fr:=(List.range g.Feeds.length).map fun i=>if i<k then ffF g s vf i else⟨0,0⟩
theorem flF_get {g:Gr} {s:Sta} {vf:Nat→Fr} {k i:Nat} (h:i<g.Feeds.length):(flF g s vf k)[i]?=some (if i<k then ffF g s vf i else⟨0,0⟩):=by
 unfold flF;rw[List.getElem?_map,List.getElem?_range h];rfl
theorem flF_len (g:Gr) (s:Sta) (vf:Nat→Fr) (k:Nat):(flF g s vf k).length=g.Feeds.length:=by simp[flF]
theorem flF_set {g:Gr} {s:Sta} {vf:Nat→Fr} {k:Nat}:(flF g s vf k).set k (ffF g s vf k)=flF g s vf (k+1):=by
 refine List.ext_getElem? fun i=>?_
 by_cases hi:i<g.Feeds.length
 ·rw[flF_get hi]
  by_cases h:i=k
  ·subst h;rw[List.getElem?_set_self (by rw[flF_len];exact hi)];simp
  ·rw[List.getElem?_set_ne (fun e=>h e.symm),flF_get hi]
   by_cases h2:i<k
   ·rw[if_pos h2,if_pos (by omega)]
   ·rw[if_neg h2,if_neg (by omega)]
 ·rw[List.getElem?_eq_none (by simp[flF];omega),List.getElem?_eq_none (by simp[flF];omega)]
theorem flF_zero (g:Gr) (s:Sta) (vf:Nat→Fr):flF g s vf 0=List.replicate g.Feeds.length ⟨0,0⟩:=by
 unfold flF;refine List.ext_getElem? fun i=>?_
 by_cases hi:i<g.Feeds.length
 ·rw[List.getElem?_map,List.getElem?_range hi,List.getElem?_replicate,if_pos hi];simp
 ·rw[List.getElem?_eq_none (by simp;omega),List.getElem?_eq_none (by simp;omega)]
def flA (g:Gr) (s:Sta) (vf:Nat→Fr):List Fr:=(List.range g.Feeds.length).map (ffF g s vf)
theorem flF_all (g:Gr) (s:Sta) (vf:Nat→Fr):flF g s vf g.Feeds.length=flA g s vf:=by
 unfold flF flA;exact List.map_congr_left fun k hk=>if_pos (List.mem_range.1 hk)
end Go.Cur
end
section
namespace Go.Cur
open Go.AM Go.Proofs
theorem c_solve_f (g:Gr) (s:Sta) (us:Kvs) (hnt:NetOk g s) (h12:Few12 g s) (vf:Nat→Fr) (t0:Nat) (p0:List Nat) (hp0:(partL g s)[t0]?=some p0) (v0:List Int) (d0:Int) (hc0':PureCall Try.prog 56 [net g s,iL (upN p0), .mpc false [.i .i64] us] (.tup [iL v0,I d0,Bo false])) (hv:∀(t:Nat) p,t<t0→(partL g s)[t]?=some p→∃v d,VPart g s us p v d vf):
  PureCall Try.prog 32 [net g s, .mpc false [.i .i64] us] (.tup [.agg [.v (.slice none 0 0), .v (.slice none 0 0)],Bo false]):=by
 have hbd:=grB_bd hnt.gr;obtain⟨N,hnn⟩:∃N:Nat,g.Nodes.toNat=N:=⟨g.Nodes.toNat,rfl⟩;have hn0:0≤g.Nodes:=by omega
 have hit:=c_iter g s hnt h12;have hc:=c_parts (ntC g (bL s.Feeds) (bL s.Wires));have hcov:=fun k=>partL_all (k:=k) hnt;have hlt:=fun p (hp:p∈partL g s) k (hk:k∈p)=>partL_lt hp hk;rw[hnn]at hcov hlt;have h12':∀p∈partL g s,p.length≤12:=h12;generalize partL g s=L at hit hv hcov hlt h12' hp0;have f0:Fits N 17:=fits_of (by omega) (by omega);have f1:Fits g.Feeds.length 17:=fits_of (by omega) (by omega);refine PureCall.of_bodyG Try.func32 rfl (by decide) (by simp[Try.ntmps32]) ?_;intro J hJ;simp only[Try.ntmps32,Try.results32];refine gS fun K hK=>?_;simp -dsimp;apply hK;clear hK K;refine gwp_sd mixed rfl (by decide) rfl rfl fun K hK=>?_;simp -dsimp [hn0,hnn,f0,f1];refine hK _ _ _ (by decide+kernel) ?_;clear hK K;refine gwp_seq_k fun K1 hK1=>?_;refine gS fun K hK=>?_;simp -dsimp;refine callK_intro _ (hc) (by simp) ?_;simp -dsimp;apply hK;clear hK K;refine gwp_block ?_;refine gwp_prune [2,3,4,5,6,32] (Or.inr (by simp)) ?_;simp only[zP,Nat.reduceEqDiff,reduceIte];refine gwp_range_s hJ [2,3,4,5,6,32] (fun t=>[some (.els 1 [[net g s]]),some (.els 1 [[.mpc false [.i .i64] us]]),some (.els 2 [[.v (.slice none 0 0), .v (.slice none 0 0)]]),some (.els 1 [[Bo false]]),some (.els 2 ((vlF N vf (L.take t).flatten).map Fr.cells)),some (.els 2 ((flF g s vf 0).map Fr.cells)),some (.els 2 [[.row 4 0 N, .row 5 0 g.Feeds.length]])]) (fun t=>t≤t0) rfl (hit) rfl (by simp) (by decide) (by decide) (by decide) (pAV_len L) ?_ ?_ ?_ ?_
 ·exact Nat.zero_le _
 ·exact sub_rb [some 0,some 1,some 2,some 3,some 4,some 5,some 6] rfl (by simp) (by simp[vlF_nil,flF_zero])
 ·intro n xv hxn hi l1 J1 hJ1;obtain⟨p,hp,rfl⟩:∃p,L[n]?=some p∧pAV p=xv:=by simpa using hxn
  have hpm:=List.mem_of_getElem? hp;have hpl:=upN_len p;have hp12:=h12' p hpm;simp only[pAV];simp only[List.zip_cons_cons,List.zip_nil_left,List.zip_nil_right,List.cons_append,List.nil_append];refine gR fun K hK=>?_;simp -dsimp;apply hK;clear hK K;simp only[onlyN];intro J2 hJ2;refine gwp_prune [2,3,4,5,6,7,32] (Or.inr (by simp)) ?_;simp only[zP,Nat.reduceEqDiff,reduceIte];refine gwp_block ?_
  rcases Nat.lt_or_eq_of_le hi with h|h
  rotate_left
  have hpe:p=p0:=by rw[h,hp0]at hp;simpa using hp.symm
  subst hpe
  rotate_left
  obtain⟨v,d,hV⟩:=hv n p h hp;have hcall:=hV.call;have hvl:=hV.len;have hd0:=hV.d0;have hd1:=hV.d1
  rotate_left
  ·refine gS fun K hK=>?_;simp -dsimp;refine callK_intro _ (hc0') (by simp) ?_;simp -dsimp;apply hK;clear hK K;refine gwp_seq_k fun K2 hK2=>?_;refine gS fun K hK=>?_;simp -dsimp;apply hK;clear hK K;refine gwp_cond rfl (fun hc0=>?_) (fun hc0=>?_)
   ·refine gS fun K hK=>?_;simp -dsimp;apply hK;clear hK K;exact gwp_ret ⟨[some (.els 1 [[net g s]]),some (.els 1 [[.mpc false [.i .i64] us]]),some (.els 2 [[.v (.slice none 0 0), .v (.slice none 0 0)]]),some (.els 1 [[Bo false]]),some (.els 2 ((vlF N vf (L.take n).flatten).map Fr.cells)),some (.els 2 ((flF g s vf 0).map Fr.cells)),some (.els 2 [[.row 4 0 N, .row 5 0 g.Feeds.length]])],sub_rb [some 0,some 1,some 2,some 3,some 4,some 5,some 6] rfl (by simp) (by simp),by simp[resP,tupOf]⟩
   ·simp at hc0
  ·refine gS fun K hK=>?_;simp -dsimp;refine callK_intro _ (hcall) (by simp) ?_;simp -dsimp;apply hK;clear hK K;refine gwp_seq_k fun K3 hK3=>?_;refine gS fun K hK=>?_;simp -dsimp;apply hK;clear hK K;refine gwp_cond rfl (fun hc0=>?_) (fun hc0=>?_)
   ·simp at hc0
   ·refine gwp_skip ?_;simp only[zT,reduceIte,Nat.reduceEqDiff];refine hK3 _ _ ?_;refine gwp_prune [2,3,4,5,6,7,8,9,32] (Or.inr (by simp)) ?_;simp only[zP,Nat.reduceEqDiff,reduceIte];refine gS fun K hK=>?_;simp -dsimp;apply hK;clear hK K;refine gwp_block ?_;refine gwp_prune [2,3,4,5,6,8,9,32,45,46,47] (Or.inr (by simp)) ?_;simp only[zP,Nat.reduceEqDiff,reduceIte];refine gwp_loop_l [2,3,4,5,6,8,9,32,45,46] (α:=Nat) (fun i=>[(47,I i)]) (fun i=>[some (.els 1 [[net g s]]),some (.els 1 [[.mpc false [.i .i64] us]]),some (.els 2 [[.v (.slice none 0 0), .v (.slice none 0 0)]]),some (.els 1 [[Bo false]]),some (.els 2 ((vlF N vf ((L.take n).flatten++p.take i)).map Fr.cells)),some (.els 2 ((flF g s vf 0).map Fr.cells)),some (.els 2 [[.row 4 0 N, .row 5 0 g.Feeds.length]])]) (fun i=>i≤p.length) (fun i=>p.length-i) 0 ?_ ?_ ?_
    ·exact Nat.zero_le _
    ·exact gsub (sub_rb [some 0,some 1,some 2,some 3,some 4,some 5,some 6] rfl (by simp) (by simp)) (by simp)
    rintro i i1;simp only[zP,Nat.reduceEqDiff,reduceIte];refine gS fun K hK=>?_;simp -dsimp;apply hK;clear hK K;refine gwp_seq_k fun K4 hK4=>?_;refine gwp_cond rfl (fun hc1=>?_) (fun hc1=>?_)
    ·have hil:i<p.length:=by rw[←hpl];simpa using hc1
     obtain⟨k,hk⟩:∃k,p[i]?=some k:=⟨_,List.getElem?_eq_getElem hil⟩;have gk:=upN_get hk;have gv:=at0_nat (l:=v) (k:=i) (by omega);have hkN:=hlt p hpm k (List.mem_of_getElem? hk);have wi:=zW i (by omega);have hnb:=hV.nb _ (List.mem_of_getElem? gv);have hfr:=c_fraction (at0 v (i:Nat)) d hd0 (by omega) (by omega) (by omega);have hfk:=hV.fr i k hk;rw[←hfk]at hfr;have hvls:=vlF_len N vf ((L.take n).flatten++p.take i);have gvl:=vlF_get (vf:=vf) (done:=(L.take n).flatten++p.take i) hkN;have hst:=vlF_set (n:=N) (vf:=vf) (done:=(L.take n).flatten++p.take i) (k:=k);have hpt:p.take (i+1)=p.take i++[k]:=by rw[List.take_add_one,hk];rfl
     rw[List.append_assoc,←hpt]at hst;generalize vlF N vf ((L.take n).flatten++p.take i)=VL at hvls gvl hst ⊢;refine gwp_skip ?_;simp only[zT,reduceIte,Nat.reduceEqDiff];refine hK4 _ _ ?_;refine gwp_prune [2,3,4,5,6,8,9,32,45,46,47] (Or.inr (by simp)) ?_;simp only[zP,Nat.reduceEqDiff,reduceIte];refine gwp_seq_k fun K5 hK5=>?_;refine gwp_block ?_;refine gS fun K hK=>?_;simp -dsimp [gk];apply hK;clear hK K;refine gwp_draw mixed rfl (by decide) rfl rfl fun K hK=>?_;simp -dsimp [gv,hkN,hvls,gvl];refine callK_intro _ (hfr) (by simp) ?_;simp -dsimp [gv,hkN,hvls,gvl];refine hK _ _ _ (by decide+kernel) ?_;clear hK K;simp only[zT,reduceIte,Nat.reduceEqDiff];refine hK5 _ _ ?_;refine gwp_prune [2,3,4,5,6,8,9,32,45,46,47] (Or.inr (by simp)) ?_;simp only[zP,Nat.reduceEqDiff,reduceIte];refine gR fun K hK=>?_;simp -dsimp [wi];apply hK;clear hK K;simp only[zT,reduceIte,Nat.reduceEqDiff];exact⟨i+1,by omega,by omega,gsub (sub_rb [some 0,some 1,some 2,some 3,some 4,some 5,some 6] rfl (by simp) (by simp[←hst,List.map_set])) (by simp)⟩
    ·have hil:¬i<p.length:=by rw[←hpl];simpa using hc1
     have hpt:p.take i=p:=List.take_of_length_le (by omega);rw[hpt];refine gwp_exit ?_;simp only[thenA,inBlockA,roundQ,reduceIte,Nat.reduceEqDiff,eq_self];have hfl:(L.take (n+1)).flatten=(L.take n).flatten++p:=by rw[List.take_add_one,hp,List.flatten_append];simp
     exact⟨by omega,sub_rb [some 0,some 1,some 2,some 3,some 4,some 5,some 6] rfl (by simp) (by simp[hfl])⟩
 ·intro hdone;have hlt0:=(List.getElem?_eq_some_iff.1 hp0).1;simp at hdone;omega
abbrev allS (l:List Ld):List Bool:=List.replicate l.length true
theorem c_Solve_a (g:Gr) (s:Sta) (l:List Ld) (hl:l.length≤1000) (hf:fineB g s l=false):PureCall Try.prog 17 [g.av,s.av,lL l] (.tup [.v (.slice none 0 0), .v (.slice none 0 0),I 2]):=by
 have hb:=c_begin_f g s l hl hf;refine PureCall.of_body Try.func17 rfl (by decide) (by simp[Try.ntmps17]) ?_;simp only[Try.ntmps17,Try.results17];refine aS fun K hK=>?_;simp -dsimp;apply hK;clear hK K;refine aS fun K hK=>?_;simp -dsimp;refine callK_intro _ (hb) (by simp) ?_;simp -dsimp;apply hK;clear hK K;refine awp_seq_k fun K1 hK1=>?_;refine awp_block ?_;refine aS fun K hK=>?_;simp -dsimp;apply hK;clear hK K;refine awp_cond rfl (fun hc0=>?_) (fun hc0=>?_)
 ·refine aS fun K hK=>?_;simp -dsimp;apply hK;clear hK K;exact awp_ret (by simp)
 ·simp at hc0
theorem c_Solve_l (g:Gr) (s:Sta) (l:List Ld) (hl:l.length≤1000) (hf:fineB g s l=true) (h12:Few12 g s) (hlo:longB g s=true):PureCall Try.prog 17 [g.av,s.av,lL l] (.tup [.v (.slice none 0 0), .v (.slice none 0 0),I 3]):=by
 have hb:=c_begin_t g s l hl hf;have hlg:=c_long g s (fine_net hf) h12;rw[hlo]at hlg;refine PureCall.of_body Try.func17 rfl (by decide) (by simp[Try.ntmps17]) ?_;simp only[Try.ntmps17,Try.results17];refine aS fun K hK=>?_;simp -dsimp;apply hK;clear hK K;refine aS fun K hK=>?_;simp -dsimp;refine callK_intro _ (hb) (by simp) ?_;simp -dsimp;apply hK;clear hK K;refine awp_seq_k fun K1 hK1=>?_;refine awp_block ?_;refine aS fun K hK=>?_;simp -dsimp;apply hK;clear hK K;refine awp_cond rfl (fun hc0=>?_) (fun hc0=>?_)
 ·simp at hc0
 ·refine aS fun K hK=>?_;simp -dsimp;refine callK_intro _ (hlg) (by simp) ?_;simp -dsimp;apply hK;clear hK K;refine awp_cond rfl (fun hc1=>?_) (fun hc1=>?_)
  ·refine aS fun K hK=>?_;simp -dsimp;apply hK;clear hK K;exact awp_ret (by simp)
  ·simp at hc1
theorem c_Solve_n (g:Gr) (s:Sta) (l:List Ld) (hl:l.length≤1000) (hf:fineB g s l=true) (h12:Few12 g s) (hlo:longB g s=false) (hs:PureCall Try.prog 32 [net g s, .mpc false [.i .i64] (tkK l (allS l))] (.tup [.agg [.v (.slice none 0 0), .v (.slice none 0 0)],Bo false])):PureCall Try.prog 17 [g.av,s.av,lL l] (.tup [.v (.slice none 0 0), .v (.slice none 0 0),I 4]):=by
 have hb:=c_begin_t g s l hl hf;have hlg:=c_long g s (fine_net hf) h12;have htk:=c_taken_n l hl;rw[hlo]at hlg;generalize tkK l (allS l)=us at hs htk;refine PureCall.of_body Try.func17 rfl (by decide) (by simp[Try.ntmps17]) ?_;simp only[Try.ntmps17,Try.results17];refine aS fun K hK=>?_;simp -dsimp;apply hK;clear hK K;refine aS fun K hK=>?_;simp -dsimp;refine callK_intro _ (hb) (by simp) ?_;simp -dsimp;apply hK;clear hK K;refine awp_seq_k fun K1 hK1=>?_;refine awp_block ?_;refine aS fun K hK=>?_;simp -dsimp;apply hK;clear hK K;refine awp_cond rfl (fun hc0=>?_) (fun hc0=>?_)
 ·simp at hc0
 ·refine aS fun K hK=>?_;simp -dsimp;refine callK_intro _ (hlg) (by simp) ?_;simp -dsimp;apply hK;clear hK K;refine awp_cond rfl (fun hc1=>?_) (fun hc1=>?_)
  ·simp at hc1
  ·refine awp_skip ?_;simp only[zT,reduceIte,Nat.reduceEqDiff];refine hK1 _ _ ?_;refine awp_prune [2,9] ?_;simp only[zP,Nat.reduceEqDiff,reduceIte];refine aS fun K hK=>?_;simp -dsimp;refine callK_intro _ (htk) (by simp) ?_;simp -dsimp;refine callK_intro _ (hs) (by simp) ?_;simp -dsimp;apply hK;clear hK K;refine awp_seq_k fun K2 hK2=>?_;refine aS fun K hK=>?_;simp -dsimp;apply hK;clear hK K;refine awp_cond rfl (fun hc2=>?_) (fun hc2=>?_)
   ·refine aS fun K hK=>?_;simp -dsimp;apply hK;clear hK K;exact awp_ret (by simp)
   ·simp at hc2
end Go.Cur
end
section
namespace Go.Cur
open Go.AM Go.Proofs
theorem partL_head {g:Gr} {s:Sta} {p:List Nat} (hp:p∈partL g s):∃i,i∈heads (netE g s) g.Nodes.toNat∧p=cp (netE g s) g.Nodes.toNat i:=by
 obtain⟨i,hi,rfl⟩:=List.mem_map.1 hp;exact⟨i,hi,rfl⟩
theorem partL_ok {g:Gr} {s:Sta} {p:List Nat} (hnt:NetOk g s) (hp:p∈partL g s) (h10:p.length≤10):PartOk g s p:=by
 obtain⟨i,hi,rfl⟩:=partL_head hp;refine⟨List.length_pos_of_mem (cp_self hi),h10,cp_nodup,fun w hw=>?_⟩;have he:w.e∈netE g s:=List.mem_map.2 ⟨w,hw,rfl⟩;have h1:=netE_ok hnt _ he;have h2:=nm_eq (netE_ok hnt) he;simp only[cp_mem];unfold Wn.e at h1 h2;simp only at h1 h2;rw[h2];exact⟨fun h=>⟨h1.2,h.2⟩,fun h=>⟨h1.1,h.2⟩⟩
theorem Pt_ok {g:Gr} {s:Sta} {us:Kvs} {p:List Nat} {fs:List Int} (hnt:NetOk g s) (hp:p∈partL g s) (hfs:fs=feedL g s (upN p)):(Pt g (onW g.Wires s.Wires) us p fs fs.length).Ok:=by
 obtain⟨i,hi,e⟩:=partL_head hp;have h:=prt_ok (W:=onW g.Wires s.Wires) (n:=g.Nodes.toNat) (i:=i) (u:=fun x=>igt us x) (fs:=List.range fs.length) (p:=fun b=>(fdOf g fs b).At.toNat) (s:=fun b=>(fdOf g fs b).Siem) (V:=fun b=>(fdOf g fs b).Volts) (onW_ok hnt)
  (fun b hb=>by have:=(feed_at hnt hfs (List.mem_range.1 hb)).2.2.2.2.2.1;rw[e]at this;exact this)
  (fun b hb=>by have:=(feed_at hnt hfs (List.mem_range.1 hb));show 0<(fdI g (at0 fs b)).Siem;omega)
 unfold prt at h;unfold Pt;rw[e];exact h
theorem deg_take {g:Gr}:∀k,k≤g.Wires.length→wrTo g k=true→∀x,deg (g.Wires.take k) x≤3
 |0,_,_,x=>by simp[deg]
 | k+1,hk,h,x=>by
  simp only[wrTo,Bool.and_eq_true]at h;have ih:=deg_take k (by omega) h.1 x;obtain⟨w,hw⟩:∃w,g.Wires[k]?=some w:=⟨_,List.getElem?_eq_getElem (by omega)⟩;have h2:=h.2;rw[hw]at h2;simp only[wrD,Bool.and_eq_true,decide_eq_true_eq]at h2;have e:g.Wires.take (k+1)=g.Wires.take k++[w]:=by rw[List.take_add_one,hw];rfl
  by_cases ha:w.A=x
  ·rw[←ha];exact h2.2.1
  ·by_cases hb:w.B=x
   ·rw[←hb];exact h2.2.2
   ·rw[e,deg_append];simp only[deg,if_neg ha,if_neg hb];omega
theorem deg_le {g:Gr} (h:grB g=true) (x:Int):deg g.Wires x≤3:=by
 simp only[grB,Bool.and_eq_true]at h;have:=deg_take g.Wires.length (Nat.le_refl _) h.1.2 x
 rwa [List.take_length]at this
theorem dg_deg {i:Nat}:∀{l:List Wr} {b:List Bool},(∀w∈l,0≤w.A∧0≤w.B)→(dg (onW l b) i:Int)≤deg l i
 |[],b,_=>by simp[onW,dg,deg]
 |w::l,[],h=>by
  have:=deg_nn (i:Int) (w::l);simp only[onW,List.zip_nil_right,List.filterMap_nil,dg,List.filter_nil,List.length_nil];omega
 | w::l,c::b,h=>by
  have ih:=dg_deg (i:=i) (l:=l) (b:=b) fun w hw=>h w (by simp[hw]);have hw:=h w (by simp);have e:onW (w::l) (c::b)=(if c=true then [⟨w.A.toNat,w.B.toNat,w.Siem⟩]else [])++onW l b:=by
   cases c<;>simp[onW]
  rw[e];simp only[deg];unfold dg at ih ⊢;rw[List.filter_append,List.length_append];have h1:(((if c=true then [(⟨w.A.toNat,w.B.toNat,w.Siem⟩:Wn)]else []).filter fun w=>decide (w.a=i)||decide (w.b=i)).length:Int)≤(if w.A=(i:Int)then 1 else 0)+(if w.B=(i:Int)then 1 else 0):=by
   cases c
   ·simp only[Bool.false_eq_true,if_false,List.filter_nil,List.length_nil]
    split<;>split<;>omega
   ·simp only[if_true,List.filter_cons,List.filter_nil];have ha:decide (w.A.toNat=i)=decide (w.A=(i:Int)):=decide_eq_decide.2 (by omega);have hb:decide (w.B.toNat=i)=decide (w.B=(i:Int)):=decide_eq_decide.2 (by omega);rw[ha,hb]
    by_cases h1:w.A=(i:Int)<;>by_cases h2:w.B=(i:Int)<;>simp[h1,h2]
  omega
theorem lw_12 {g:Gr} {s:Sta} (hnt:NetOk g s) (i:Nat):0≤lw (onW g.Wires s.Wires) i i∧lw (onW g.Wires s.Wires) i i≤12:=by
 have hw:=hnt.wires;have h1:=lw_diag (i:=i) (onW_ok hnt) fun w hw'=>by
  obtain⟨w0,h0,rfl⟩:=onW_mem hw';have:=hw w0 h0;simp only[wrB,Bool.and_eq_true,inr_iff]at this;exact this.2.2
 have h2:=dg_deg (i:=i) (l:=g.Wires) (b:=s.Wires) fun w hw'=>by
  have:=hw w hw';simp only[wrB,Bool.and_eq_true,inr_iff]at this;omega
 have h3:=deg_le hnt.gr (i:Int);omega
theorem sa_map {f:Nat→Nat} {g:Nat→Nat}:∀{l:List Nat},sa f (l.map g)=sa (fun i=>f (g i)) l
 |[]=>rfl
 |i::l=>by rw[List.map_cons,sa,sa,sa_map]
theorem sa_getD (f:Nat→Nat) (p:List Nat):sa (fun j=>f (p.getD j 0)) (List.range p.length)=sa f p:=by
 conv=>rhs;rw[list_range (p:=p)]
 rw[sa_map]
theorem getD_mem {p:List Nat} {i:Nat} (h:i<p.length):p.getD i 0∈p:=List.mem_of_getElem? (getD_get h)
theorem D_le {A:Nat→Nat→Int} {p:List Nat} {R:Nat} (h:∀i∈p,sa (fun k=>(A i k).natAbs) p≤R):(D A p).natAbs≤R^p.length:=by
 rw[D_minor];have:=minor_abs (a:=fun i k=>A (p.getD i 0) (p.getD k 0)) (R:=R) (rows:=List.range p.length) (cols:=List.range p.length) fun i hi=>by
  have:=sa_getD (fun k=>(A (p.getD i 0) k).natAbs) p;rw[this];exact h _ (getD_mem (List.mem_range.1 hi))
 rwa [List.length_range]at this
theorem num_le {A:Nat→Nat→Int} {b:Nat→Int} {p:List Nat} {R B:Nat} (hp:p.Nodup) (h:∀i∈p,sa (fun k=>(A i k).natAbs) p≤R) (hB:∀i∈p,(b i).natAbs≤B) (k:Nat):(num A b p k).natAbs≤R^p.length+bnd R B p.length:=by
 by_cases hk:k∈p
 ·obtain⟨j,hj⟩:=List.getElem?_of_mem hk;have hjl:=(List.getElem?_eq_some_iff.1 hj).1;have e:p.getD j 0=k:=by rw[List.getD_eq_getElem?_getD,hj];rfl
  rw [←e,num_minor hp hjl];have:=minor_mark (a:=fun i c=>if c=j then b (p.getD i 0)else A (p.getD i 0) (p.getD c 0)) (R:=R) (B:=B) (k0:=j) (rows:=List.range p.length) (cols:=List.range p.length) List.nodup_range (List.mem_range.2 hjl)
   (fun i hi=>by simp only[if_true];exact hB _ (getD_mem (List.mem_range.1 hi))) (fun i hi=>by
    refine Nat.le_trans (sa_le (g:=fun c=>(A (p.getD i 0) (p.getD c 0)).natAbs) fun c hc=>?_) ?_
    ·split
     ·exact Nat.zero_le _
     ·exact Nat.le_refl _
    ·have:=sa_getD (fun k=>(A (p.getD i 0) k).natAbs) p;rw[this];exact h _ (getD_mem (List.mem_range.1 hi)))
  rw[List.length_range]at this;omega
 ·have e:num A b p k=D A p:=by
   unfold num D
   congr 1
   exact List.map_congr_left fun j hj=>by
    funext i
    rw[if_neg];rintro rfl;exact hk hj
  rw[e];have:=D_le h;omega
theorem bnd_zero (R:Nat):∀n,bnd R 0 n=0
 |0=>rfl
 |n+1=>by rw[bnd,bnd_zero R n];simp
theorem bnd_mono {R B:Nat} (hR:1≤R):∀{n m:Nat},n≤m→bnd R B n≤bnd R B m:=by
 intro n m h
 induction m with
 |zero=>rw[Nat.le_zero.1 h];exact Nat.le_refl _
 |succ m ih=>
  rcases Nat.lt_or_ge n (m+1)with h1|h1
  ·refine Nat.le_trans (ih (by omega)) ?_;rw[bnd];have:=Nat.mul_le_mul_right (bnd R B m) hR;omega
  ·rw[show n=m+1 by omega];exact Nat.le_refl _
theorem sa_diag {f:Nat→Nat} {i X:Nat}:∀{p:List Nat},p.Nodup→sa (fun k=>f k+if i=k then X else 0) p≤sa f p+X
 |[],_=>by simp[sa]
 | k::p,h=>by
  rw[List.nodup_cons]at h;have ih:=sa_diag (f:=f) (i:=i) (X:=X) h.2;rw[sa,sa]
  by_cases e:i=k
  ·have:sa (fun k=>f k+if i=k then X else 0) p≤sa f p:=sa_le fun j hj=>by
    rw[if_neg]; · omega
    rintro rfl;exact h.1 (e▸hj)
   rw[if_pos e];omega
  ·rw[if_neg e];omega
section
variable {g:Gr} {s:Sta} {us:Kvs} {p:List Nat} {fs:List Int}
theorem L_row (hnt:NetOk g s) (hp:p∈partL g s) (hfs:fs=feedL g s (upN p)) {i:Nat} (hi:i∈p):sa (fun k=>(lw (onW g.Wires s.Wires) i k).natAbs) p≤24:=by
 have h:=row_abs (Pt_ok (us:=[]) hnt hp hfs) (i:=i) hi (lw_12 hnt i).1;have h2:=(lw_12 hnt i).2;change ((sa (fun k=>(lw (onW g.Wires s.Wires) i k).natAbs) p:Nat):Int)=2*lw (onW g.Wires s.Wires) i i at h;omega
theorem fs_len (hnt:NetOk g s) (hfs:fs=feedL g s (upN p)):fs.length≤12:=by
 have hb:=grB_bd hnt.gr;have:=List.length_filter_le (fdOn g s (upN p)) (upI g.Feeds.length);rw[upI_len]at this;rw[hfs];unfold feedL;omega
theorem Pt_smallT (hnt:NetOk g s) (hp:p∈partL g s) (h5:p.length≤5) (hfs:fs=feedL g s (upN p)) (hus:∀x,-40≤igt us x∧igt us x≤40) (S:Nat→Bool) (hS:∃b,b<fs.length∧S b=true):
  (∀k,((Pt g (onW g.Wires s.Wires) us p fs fs.length).num S k).natAbs≤7000000000000)∧0<(Pt g (onW g.Wires s.Wires) us p fs fs.length).den S∧(Pt g (onW g.Wires s.Wires) us p fs fs.length).den S≤2000000000:=by
 have ho:=Pt_ok (us:=us) hnt hp hfs;have hf12:=fs_len (p:=p) hnt hfs;have hat:∀{c:Nat→Int} {C:Int} {i:Nat},0≤C→(∀b,b<fs.length→0≤c b∧c b≤C)→0≤(Pt g (onW g.Wires s.Wires) us p fs fs.length).at_ S c i∧(Pt g (onW g.Wires s.Wires) us p fs fs.length).at_ S c i≤C*12:=by
  intro c C i hC h;have h1:=at_bd (P:=Pt g (onW g.Wires s.Wires) us p fs fs.length) (S:=S) (c:=c) (i:=i) hC fun b hb=>h b (List.mem_range.1 hb);have h2:(Pt g (onW g.Wires s.Wires) us p fs fs.length).fs.length=fs.length:=List.length_range;rw[h2]at h1;exact⟨h1.1,Int.le_trans h1.2 (Int.mul_le_mul_of_nonneg_left (by omega) hC)⟩
 have hfa:=fun b (hb:b<fs.length)=>feed_at hnt hfs hb;have hR:∀i∈p,sa (fun k=>((Pt g (onW g.Wires s.Wires) us p fs fs.length).A S i k).natAbs) p≤72:=by
  intro i hi;have h1:=L_row hnt hp hfs hi;have h2:=hat (c:=(Pt g (onW g.Wires s.Wires) us p fs fs.length).s) (C:=4) (i:=i) (by omega) fun b hb=>by
   have:=hfa b hb;show 0≤(fdI g (at0 fs b)).Siem∧(fdI g (at0 fs b)).Siem≤4;omega
  have h3:=sa_diag (f:=fun k=>(lw (onW g.Wires s.Wires) i k).natAbs) (i:=i) (X:=((Pt g (onW g.Wires s.Wires) us p fs fs.length).at_ S (Pt g (onW g.Wires s.Wires) us p fs fs.length).s i).natAbs) ho.nd;refine Nat.le_trans (sa_le fun k _=>?_) (Nat.le_trans h3 ?_)
  ·unfold Part.A;show(lw (onW g.Wires s.Wires) i k+_).natAbs≤_
   split<;>omega
  ·show sa (fun k=>(lw (onW g.Wires s.Wires) i k).natAbs) p+_≤72;omega
 have hB:∀i∈p,((Pt g (onW g.Wires s.Wires) us p fs fs.length).b S i).natAbs≤48040:=by
  intro i hi;have h2:=hat (c:=fun b=>(Pt g (onW g.Wires s.Wires) us p fs fs.length).s b*(Pt g (onW g.Wires s.Wires) us p fs fs.length).V b) (C:=4000) (i:=i) (by omega) fun b hb=>by
   have h:=hfa b hb;show 0≤(fdI g (at0 fs b)).Siem*(fdI g (at0 fs b)).Volts∧(fdI g (at0 fs b)).Siem*(fdI g (at0 fs b)).Volts≤4000;exact⟨Int.mul_nonneg (by omega) (by omega),Int.mul_le_mul h.2.2.2.2.2.2.2.2.2 h.2.2.2.2.2.2.2.1 (by omega) (by omega)⟩
  have h3:=hus i;unfold Part.b;show(-igt us i+_).natAbs≤48040;omega
 have hpw:72^p.length≤72^5:=Nat.pow_le_pow_right (by omega) h5;have hbn:bnd 72 48040 p.length≤bnd 72 48040 5:=bnd_mono (by omega) h5;have e5:bnd 72 48040 5≤6500000000000:=by decide
 have hpos:=den_pos ho (S:=S) (by obtain⟨b,hb,h⟩:=hS;exact⟨b,List.mem_range.2 hb,h⟩);refine⟨fun k=>?_,hpos,?_⟩
 ·have:=num_le (b:=(Pt g (onW g.Wires s.Wires) us p fs fs.length).b S) ho.nd hR hB k;change ((Pt g (onW g.Wires s.Wires) us p fs fs.length).num S k).natAbs≤_ at this;change _≤72^p.length+bnd 72 48040 p.length at this;omega
 ·have:=D_le hR;change ((Pt g (onW g.Wires s.Wires) us p fs fs.length).den S).natAbs≤_ at this;omega
theorem Pt_small (hnt:NetOk g s) (hp:p∈partL g s) (h5:p.length≤5) (hfs:fs=feedL g s (upN p)) (hus:∀x,-40≤igt us x∧igt us x≤40) (S:Nat→Bool) (hS:∃b,b<fs.length∧S b=true):Sml (Pt g (onW g.Wires s.Wires) us p fs fs.length) S:=by
 obtain⟨a,b,c⟩:=Pt_smallT (us:=us) hnt hp h5 hfs hus S hS;exact⟨fun k=>by have:=a k;omega,b,by omega⟩
theorem Pt_small0A (hnt:NetOk g s) (hp:p∈partL g s) (h5:p.length≤5∨(p.length≤10∧∀x,igt us x=0)) (hfs:fs=feedL g s (upN p)) (hus:∀x,-40≤igt us x∧igt us x≤40) (i0:Nat) (hi0:p.getD 0 0=i0):
  Sml0 (Pt g (onW g.Wires s.Wires) us p fs fs.length) i0∧(p.length≤5→(∀k,((Pt g (onW g.Wires s.Wires) us p fs fs.length).num0 i0 k).natAbs≤1000000000)∧(Pt g (onW g.Wires s.Wires) us p fs fs.length).den0 i0≤10000000):=by
 have ho:=Pt_ok (us:=us) hnt hp hfs;have hR:∀i∈p,sa (fun k=>((Pt g (onW g.Wires s.Wires) us p fs fs.length).A0 i0 i k).natAbs) p≤24:=by
  intro i hi;unfold Part.A0
  by_cases h:i=i0
  ·simp only[if_pos h];have h3:=sa_diag (f:=fun _=>0) (i:=i0) (X:=1) ho.nd;have h4:sa (fun _=>0) (Pt g (onW g.Wires s.Wires) us p fs fs.length).ns=0:=by
    generalize (Pt g (onW g.Wires s.Wires) us p fs fs.length).ns=l
    induction l with
    |nil=>rfl
    |cons x l ih=>rw[sa,ih]
   refine Nat.le_trans (sa_le fun k _=>?_) (Nat.le_trans h3 (by omega))
   by_cases hk:k=i0
   ·subst hk;simp
   ·rw[if_neg hk,if_neg (fun e=>hk e.symm)];exact Nat.zero_le _
  ·simp only[if_neg h];exact L_row hnt hp hfs hi
 obtain⟨tl,hn⟩:∃tl,(Pt g (onW g.Wires s.Wires) us p fs fs.length).ns=i0::tl:=by
  have h1:p≠[]:=by
   obtain⟨i,hi,e⟩:=partL_head hp;rw[e];exact List.ne_nil_of_mem (cp_self hi)
  show∃tl,p=i0::tl
  cases p with
  |nil=>exact absurd rfl h1
  |cons a tl=>exact⟨tl,by rw[←hi0];rfl⟩
 have hpos:=den0_pos ho hn;have hD:=D_le hR;change ((Pt g (onW g.Wires s.Wires) us p fs fs.length).den0 i0).natAbs≤_ at hD
 by_cases h5':p.length≤5
 ·have hB:∀i∈p,((Pt g (onW g.Wires s.Wires) us p fs fs.length).b0 i0 i).natAbs≤40:=by
   intro i hi;unfold Part.b0;have:=hus i;show(if i=i0 then 0 else-igt us i).natAbs≤40
   split<;>omega
  have hpw:24^p.length≤24^5:=Nat.pow_le_pow_right (by omega) h5';have hbn:bnd 24 40 p.length≤bnd 24 40 5:=bnd_mono (by omega) h5';have e5:bnd 24 40 5≤900000000:=by decide
  have hk:∀k,((Pt g (onW g.Wires s.Wires) us p fs fs.length).num0 i0 k).natAbs≤1000000000:=fun k=>by
   have:=num_le (b:=(Pt g (onW g.Wires s.Wires) us p fs fs.length).b0 i0) ho.nd hR hB k;change ((Pt g (onW g.Wires s.Wires) us p fs fs.length).num0 i0 k).natAbs≤_ at this;change _≤24^p.length+bnd 24 40 p.length at this;omega
  exact⟨⟨fun k=>by have:=hk k;omega,hpos,by omega⟩,fun _=>⟨hk,by omega⟩⟩
 ·obtain⟨h10,hz⟩:=h5.resolve_left h5';have hB:∀i∈p,((Pt g (onW g.Wires s.Wires) us p fs fs.length).b0 i0 i).natAbs≤0:=by
   intro i hi;unfold Part.b0;have:=hz i;show(if i=i0 then 0 else-igt us i).natAbs≤0
   split<;>omega
  have hpw:24^p.length≤24^10:=Nat.pow_le_pow_right (by omega) h10;refine⟨⟨fun k=>?_,hpos,by omega⟩,fun h=>absurd h h5'⟩;have:=num_le (b:=(Pt g (onW g.Wires s.Wires) us p fs fs.length).b0 i0) ho.nd hR hB k;change ((Pt g (onW g.Wires s.Wires) us p fs fs.length).num0 i0 k).natAbs≤_ at this;change _≤24^p.length+bnd 24 0 p.length at this;rw[bnd_zero]at this;omega
theorem Pt_small0 (hnt:NetOk g s) (hp:p∈partL g s) (h5:p.length≤5∨(p.length≤10∧∀x,igt us x=0)) (hfs:fs=feedL g s (upN p)) (hus:∀x,-40≤igt us x∧igt us x≤40) (i0:Nat) (hi0:p.getD 0 0=i0):Sml0 (Pt g (onW g.Wires s.Wires) us p fs fs.length) i0:=(Pt_small0A hnt hp h5 hfs hus i0 hi0).1
theorem Pt_small0T (hnt:NetOk g s) (hp:p∈partL g s) (h5:p.length≤5) (hfs:fs=feedL g s (upN p)) (hus:∀x,-40≤igt us x∧igt us x≤40) (i0:Nat) (hi0:p.getD 0 0=i0):
  (∀k,((Pt g (onW g.Wires s.Wires) us p fs fs.length).num0 i0 k).natAbs≤1000000000)∧0<(Pt g (onW g.Wires s.Wires) us p fs fs.length).den0 i0∧(Pt g (onW g.Wires s.Wires) us p fs fs.length).den0 i0≤10000000:=by
 obtain⟨h1,h2⟩:=Pt_small0A (us:=us) hnt hp (Or.inl h5) hfs hus i0 hi0;exact⟨(h2 h5).1,h1.2.1,(h2 h5).2⟩
end
end Go.Cur
end
section
namespace Go.AM
theorem core_renF {B S0:Nat→Prop} {nt:Nat} {w:World} {ρ:Nat→Option Loc} {L:Nat→Prop} {T T':Tm} {H H':Hp} {a:Act} (g:List (Option Nat)) (hn:∀(i j q:Nat),g[i]?=some (some q)→g[j]?=some (some q)→i=j) (hT:subTF H g T T') (hH:renHF H g=H') (hc:Core B S0 nt w ρ L (look T) (hget H) a):
  Core B S0 nt w (renρ ρ g) (fun r=>r<g.length) (look T') (hget H') a:=by
 subst hH;have hren:=renF_rep (g:=g) (H:=hget H) hc.wf (fun r row hr=>hc.rows r row hr);refine⟨⟨?_,?_,?_,hc.wf.low,hc.wf.new⟩,hc.size,hc.defers,?_,?_,?_⟩
 ·intro r r' l l' b h1 h2 k1 k2;obtain⟨q,g1,p1⟩:=renρ_spec h1;obtain⟨q',g2,p2⟩:=renρ_spec h2;have:=hc.wf.inj q q' l l' b p1 p2 k1 k2;subst this;exact hn _ _ _ g1 g2
 ·intro r l b h1 k1;obtain⟨q,g1,p1⟩:=renρ_spec h1;exact hc.wf.own q l b p1 k1
 ·intro r l h1;obtain⟨q,g1,p1⟩:=renρ_spec h1;exact(List.getElem?_eq_some_iff.1 g1).1
 ·intro t;have gen:∀(T':Tm),subTF H g T T'→RepV w (Sx S0 (renρ ρ g)) (renρ ρ g) (fun r=>r<g.length) (look T' t) (a.tmps.getD t undef):=by
   intro T'
   induction T' with
   |nil=>intro _;exact .pure _ _ (.any _)
   | cons p T' ih=>
    obtain⟨i,x⟩:=p;rintro⟨h1,h2⟩;simp only[look]
    split
    ·rename_i e;subst e
     rcases h1 with rfl|rfl
     ·exact .pure _ _ (.any _)
     ·exact hren 3 _ _ (hc.tmps t)
    ·exact ih h2
  exact gen T' hT
 ·intro r row hr;simp only[renHF,hget_map]at hr
  split at hr
  ·rename_i q hq
   split at hr
   ·rename_i q';simp only[Option.map_eq_some_iff]at hr;obtain⟨row0,h0,rfl⟩:=hr;obtain⟨l,hl,hrow⟩:=hc.rows q' row0 h0;refine⟨l,by simp only[renρ,hq];exact hl,?_⟩
    cases row0 with
    |map kvs=>exact hrow
    | itr ag kts left cur=>
     obtain⟨b,h1,h0,h2⟩:=hrow;exact⟨b,h1,h0,h2.same rfl (Nat.le_refl _) (fun b _ hn=>⟨rfl,fun k=>hn (by
      rcases k with h|⟨r,l,h1,h2⟩
      ·exact Or.inl h
      ·obtain⟨q,_,h3⟩:=renρ_spec h1;exact Or.inr ⟨q,l,h3,h2⟩)⟩)⟩
    |els sz es=>
     obtain⟨h1,h2,h3,h4⟩:=hrow;refine⟨h1,?_,fun hb=>by rw[h3 hb];rfl,fun b hb=>?_⟩
     ·intro e he;simp only[List.mem_map]at he;obtain⟨e',he',rfl⟩:=he;simpa using h2 e' he'
     ·obtain⟨c,t,k1,k2,k3,k4⟩:=h4 b hb;refine⟨c,t,k1,k2,by simpa using k3,fun i av hi=>?_⟩;rw[←List.map_flatten]at hi;simp only[List.getElem?_map,Option.map_eq_some_iff]at hi;obtain⟨av0,hi,rfl⟩:=hi;obtain⟨x,p1,p2,p3⟩:=k4 i av0 hi;exact⟨x,p1,p2,hren 3 _ _ p3⟩
   ·cases hr
  ·cases hr
 ·intro r hr;simp only[renHF,hget_map]at hr;simp only[renρ]
  split
  ·rename_i q hq;rw[hq]at hr;simp only[Option.map_eq_none_iff]at hr;exact hc.dead q hr
  ·rfl
def gfro (gs:List Nat) (n:Nat):List (Option Nat):=(List.range n).map fun r=>if gs.contains r then none else some r
theorem gfro_get (gs:List Nat) (n r:Nat):(gfro gs n)[r]?=if r<n then some (if gs.contains r then none else some r)else none:=by
 unfold gfro;rw[List.getElem?_map]
 by_cases h:r<n
 ·rw[if_pos h,List.getElem?_range h];rfl
 ·rw[if_neg h,List.getElem?_eq_none (by simpa using h)];rfl
def bkN (gs:List Nat) (i:Nat):Nat:=gs.getD i 0
def bkAV (gs:List Nat):AV→AV
 | .v x=> .v x
 | .row i k n=>if i<gs.length then .row (bkN gs i) k n else .any
 | .ptr i k o=>if i<gs.length then .ptr (bkN gs i) k o else .any
 | .mp i=>if i<gs.length then .mp (bkN gs i)else .any
 |_=> .any
def bkRow (gs:List Nat):ARow→ARow
 | .els sz es=> .els sz (es.map fun e=>e.map (bkAV gs))
 | .map ag kts kvs=> .map ag kts kvs
 | .itr ag kts left cur=> .itr ag kts left cur
def thawT (gs us kp:List Nat) (n:Nat) (T T':Tm):Tm:=us.map (fun t=>(t,bkAV gs (look T' t)))++kp.map (fun t=>(t,renAV (gfro gs n) 40 (look T t)))
def thawH (gs:List Nat) (H H':Hp):Hp:=(List.range H.length).map fun r=>match gs.findIdx? (· ==r)with
 |some i=>(hget H' i).map (bkRow gs)
 |none=>(hget H r).map (renRow (gfro gs H.length))
def thawJ (B:Nat→Prop) (S0:Nat→Prop) (w:World) (m:Nat→Prop):Jt:={rel:=fun _ S' O w'=>S'=S0∧Ext B w w'∧∀b,O b→B b,mark:=m}
theorem thawJ_ok {B S0:Nat→Prop} {w:World} {m:Nat→Prop} (hB:∀b,w.heap.size≤b→B b):JOk (thawJ B S0 w m):=by
 rintro y S' O O' A A' ⟨rfl,h1,h2⟩ _ _ he ho;refine⟨rfl,h1.trans (he.mono fun b _ hb=>h2 b hb),fun b hb=>?_⟩
 rcases(ho b hb).2 with h|h
 ·exact h2 b h
 ·exact hB b (Nat.le_trans h1.size h)
def bkρ (gs:List Nat) (ρ ρ1:Nat→Option Loc) (r:Nat):Option Loc:=match gs.findIdx? (· ==r)with|some i=>ρ1 i|none=>ρ r
theorem bk_idx {gs:List Nat} (hn:gs.Nodup) {i:Nat} (hi:i<gs.length):gs.findIdx? (· ==bkN gs i)=some i:=by
 rw[List.findIdx?_eq_some_iff_getElem];refine⟨hi,by simp[bkN,hi],fun j hj=>?_⟩;simp only[bkN,List.getD_eq_getElem?_getD,List.getElem?_eq_getElem hi,Option.getD_some,beq_iff_eq];intro e;have:=(List.getElem?_inj (Nat.lt_trans hj hi) hn).1 (show gs[j]?=gs[i]? by rw[List.getElem?_eq_getElem hi,List.getElem?_eq_getElem (Nat.lt_trans hj hi),e]);omega
theorem bk_some {gs:List Nat} {r i:Nat} (h:gs.findIdx? (· ==r)=some i):i<gs.length∧gs[i]?=some r:=by
 rw[List.findIdx?_eq_some_iff_getElem]at h;obtain⟨h1,h2,_⟩:=h;exact⟨h1,by rw[List.getElem?_eq_getElem h1];simpa using h2⟩
theorem bk_none {gs:List Nat} {r:Nat} (h:gs.findIdx? (· ==r)=none):r∉gs:=by
 rw[List.findIdx?_eq_none_iff]at h;intro hr;simpa using h r hr
theorem bk_rep {w:World} {S0:Nat→Prop} {ρ ρ1:Nat→Option Loc} {L1 L:Nat→Prop} {S1 S:Nat→Prop} {gs:List Nat} (hn:gs.Nodup) (hL:∀r∈gs,L r) {x:AV} {y:Value} (h:RepV w S1 ρ1 L1 x y):RepV w S (bkρ gs ρ ρ1) L (bkAV gs x) y:=by
 have nm:∀{i:Nat},i<gs.length→L (bkN gs i)∧bkρ gs ρ ρ1 (bkN gs i)=ρ1 i:=by
  intro i hi;refine⟨hL _ (by simp[bkN,hi]),?_⟩;unfold bkρ;rw[bk_idx hn hi]
 cases x with
 |v c=>rw[exact_v h];exact .pure _ _ (.v _)
 | row i k n=>
  simp only[bkAV]
  split
  ·rename_i hi
   cases h with
   |pure _ _ h=>cases h
   |row _ _ _ _ h1 h2 h3=>exact .row _ _ _ _ (nm hi).1 h2 (fun l hl=>h3 l ((nm hi).2▸hl))
  ·exact .pure _ _ (.any _)
 | ptr i k n=>
  simp only[bkAV]
  split
  ·rename_i hi
   cases h with
   |pure _ _ h=>cases h
   |ptr _ _ _ _ h1 h2 h3=>exact .ptr _ _ _ _ (nm hi).1 h2 (fun l hl=>h3 l ((nm hi).2▸hl))
  ·exact .pure _ _ (.any _)
 | mp i=>
  simp only[bkAV]
  split
  ·rename_i hi
   cases h with
   |pure _ _ h=>cases h
   |mp _ _ h1 h2 h3=>exact .mp _ _ (nm hi).1 h2 (fun l hl=>h3 l ((nm hi).2▸hl))
  ·exact .pure _ _ (.any _)
 |_=>exact .pure _ _ (.any _)
def noItr:Hp→Bool
 |[]=>true
 |some (.itr _ _ _ _)::_=>false
 |_::H=>noItr H
theorem noItr_spec:∀{H:Hp},noItr H=true→∀(r:Nat) ag kts left cur,hget H r≠some (.itr ag kts left cur)
 |[],_,r,_,_,_,_=>by cases r<;>simp[hget]
 |x::H,h,0,_,_,_,_=>by
  intro e;simp only[hget]at e;subst e;simp[noItr]at h
 | x::H,h,r+1,ag,kts,left,cur=>by
  simp only[hget];refine noItr_spec (H:=H) ?_ r ag kts left cur
  cases x with
  |none=>exact h
  |some row=>cases row with
   |itr=>simp[noItr]at h
   |_=>exact h
theorem thaw_core {J:Jt} (hJ:JOk J) {nt:Nat} {kp0:List Nat} {kv:Nat→Value} {T:Tm} {H:Hp} {a:Act} {w:World} (hs:SG J nt kp0 kv T H a w) (gs us kp:List Nat) (Tf:Tm) (Hf:Hp) (hlt:∀r∈gs,r<H.length) (hnd:gs.Nodup) (hT:subTF H (gs.map some) T Tf) (hH:renHF H (gs.map some)=Hf)
  (hkk:∀t∈kp0,t∈kp):∃J1,JOk J1∧SG J1 nt kp (fun t=>a.tmps.getD t undef) Tf Hf a w∧
   ∀T' H' a' w',noItr H'=true→SG J1 nt kp (fun t=>a.tmps.getD t undef) T' H' a' w'→look (thawT gs us kp H.length T T') 999999=look T 999999→SG J nt kp0 kv (thawT gs us kp H.length T T') (thawH gs H H') a' w':=by
 obtain⟨⟨S0,ρ,L,hc,hL,hj,hm⟩,hk⟩:=hs;have hgi:∀(i j q:Nat),(gs.map some)[i]?=some (some q)→(gs.map some)[j]?=some (some q)→i=j:=by
  intro i j q h1 h2;simp only[List.getElem?_map,Option.map_eq_some_iff,Option.some.injEq]at h1 h2;obtain⟨_,h1,rfl⟩:=h1;obtain⟨_,h2,rfl⟩:=h2;exact(List.getElem?_inj (List.getElem?_eq_some_iff.1 h1).1 hnd).1 (h1.trans h2.symm)
 have hf:=core_renF (gs.map some) hgi hT hH hc
 let B1:Nat→Prop:=fun b=>own (renρ ρ (gs.map some)) b∨w.heap.size≤b
 have hrg:∀{r:Nat} {l:Loc},renρ ρ (gs.map some) r=some l→∃q∈gs,ρ q=some l:=by
  intro r l h;obtain⟨q,h1,h2⟩:=renρ_spec h;simp only[List.getElem?_map,Option.map_eq_some_iff,Option.some.injEq]at h1;obtain⟨_,h1,rfl⟩:=h1;exact⟨_,List.mem_of_getElem? h1,h2⟩
 have hJ1:JOk (thawJ B1 S0 w J.mark):=thawJ_ok fun b h=>Or.inr h;refine⟨thawJ B1 S0 w J.mark,hJ1,?_,?_⟩
 ·subst hH;obtain⟨Ds,q1,q2,q3⟩:=hm;exact⟨⟨S0,renρ ρ (gs.map some),fun r=>r<(gs.map some).length,hf.inB (fun _ _=>trivial) (fun _ _=>trivial),fun r h=>by simpa [renHF]using h,⟨rfl,Ext.refl _ _,fun b h=>Or.inl h⟩,Ds,q1,q2,q3⟩,fun _ _=>rfl⟩
 rintro T' H' a' w' hni ⟨⟨S0',ρ1,L1,hc1,hL1,⟨rfl,hx1,ho1⟩,hm1⟩,hk1⟩ hy;have hot:∀{r:Nat} {l:Loc} {b:Nat},r∉gs→ρ r=some l→l.b=some b→¬B1 b:=by
  rintro r l b hr h1 h2 (⟨q,l',h3,h4⟩|h)
  ·obtain⟨q',hq,h5⟩:=hrg h3;exact hr (hc.wf.inj r q' l l' b h1 h5 h2 h4▸hq)
  ·exact absurd (hc.wf.own r l b h1 h2).1 (Nat.not_lt.2 h)
 have hcase:∀{r:Nat} {l:Loc},bkρ gs ρ ρ1 r=some l→(∃i,gs[i]?=some r∧gs.findIdx? (· ==r)=some i∧ρ1 i=some l)∨(r∉gs∧ρ r=some l):=by
  intro r l h;unfold bkρ at h
  split at h
  ·rename_i i hi;exact Or.inl ⟨i,(bk_some hi).2,hi,h⟩
  ·rename_i hi;exact Or.inr ⟨bk_none hi,h⟩
 have hSx:∀b,b<w.heap.size→¬Sx S0' ρ b→w'.heap[b]?=w.heap[b]?∧¬Sx S0' (bkρ gs ρ ρ1) b:=by
  intro b hb hn;have hnB:¬B1 b:=by
   rintro(⟨r,l,h1,h2⟩|h)
   ·obtain⟨q,_,h3⟩:=hrg h1;exact hn (Or.inr ⟨q,l,h3,h2⟩)
   ·omega
  refine⟨hx1.block b hb hnB,?_⟩;rintro(h|⟨r,l,h1,h2⟩)
  ·exact hn (Or.inl h)
  ·rcases hcase h1 with⟨i,_,_,h3⟩|⟨_,h3⟩
   ·exact hnB (ho1 b ⟨i,l,h3,h2⟩)
   ·exact hn (Or.inr ⟨r,l,h3,h2⟩)
 have hgf:∀{r:Nat},(∃q,(gfro gs H.length)[r]?=some (some q))→r<H.length∧r∉gs∧bkρ gs ρ ρ1 r=ρ r∧renρ ρ (gfro gs H.length) r=ρ r:=by
  rintro r ⟨q,hq⟩;have h0:=hq;rw[gfro_get]at hq
  split at hq
  ·rename_i hr
   split at hq
   ·cases hq
   ·rename_i hg;simp only[Option.some.injEq]at hq;subst hq;have hg':r∉gs:=by simpa using hg
    refine⟨hr,hg',?_,by simp only[renρ,h0]⟩;unfold bkρ
    split
    ·rename_i i hi;exact absurd (List.mem_of_getElem? (bk_some hi).2) hg'
    ·rfl
  ·cases hq
 have keep:∀x y,RepV w (Sx S0' ρ) ρ L x y→RepV w' (Sx S0' (bkρ gs ρ ρ1)) (bkρ gs ρ ρ1) (fun r=>r<H.length) (renAV (gfro gs H.length) 40 x) y:=by
  intro x y h;refine(renAV_rep' (g:=gfro gs H.length) (S':=Sx S0' ρ) (fun _ h=>h) 40 x y h).ext hx1.size hSx (fun r hr=>(hgf hr).1) (fun r l hr hl=>?_);rw[(hgf hr).2.2.2,←(hgf hr).2.2.1];exact hl
 refine⟨⟨S0',bkρ gs ρ ρ1,fun r=>r<H.length,⟨⟨?_,?_,?_,hc1.wf.low,?_⟩,hc1.size,rfl,?_,?_,?_⟩,?_,?_,?_⟩,fun t ht=>(hk1 t (hkk t ht)).trans (hk t ht)⟩
 ·intro r r' l l' b h1 h2 k1 k2
  rcases hcase h1 with⟨i,hi,hi',h3⟩|⟨hi,h3⟩<;>rcases hcase h2 with⟨j,hj,hj',h4⟩|⟨hj,h4⟩
  ·have:=hc1.wf.inj i j l l' b h3 h4 k1 k2;subst this;rw[hi]at hj;exact Option.some.inj hj
  ·exact absurd (ho1 b ⟨i,l,h3,k1⟩) (hot hj h4 k2)
  ·exact absurd (ho1 b ⟨j,l',h4,k2⟩) (hot hi h3 k1)
  ·exact hc.wf.inj r r' l l' b h3 h4 k1 k2
 ·intro r l b h1 k1
  rcases hcase h1 with⟨i,hi,_,h3⟩|⟨hi,h3⟩
  ·obtain⟨p1,p2,_⟩:=hc1.wf.own i l b h3 k1;exact⟨p1,p2,trivial⟩
  ·obtain⟨p1,p2,p3⟩:=hc.wf.own r l b h3 k1;exact⟨Nat.lt_of_lt_of_le p1 hx1.size,p2,p3⟩
 ·intro r l h1
  rcases hcase h1 with⟨i,hi,_,h3⟩|⟨hi,h3⟩
  ·exact hlt r (List.mem_of_getElem? hi)
  ·exact hL r (hc.wf.given r l h3)
 ·intro b h
  trivial
 ·have gen:∀(l:Tm),(∀p∈l,RepV w' (Sx S0' (bkρ gs ρ ρ1)) (bkρ gs ρ ρ1) (fun r=>r<H.length) p.2 (a'.tmps.getD p.1 undef))→∀t,RepV w' (Sx S0' (bkρ gs ρ ρ1)) (bkρ gs ρ ρ1) (fun r=>r<H.length) (look l t) (a'.tmps.getD t undef):=by
   intro l
   induction l with
   |nil=>intro _ t;exact .pure _ _ (.any _)
   |cons p l ih=>
    intro h t;obtain⟨i,x⟩:=p;simp only[look]
    split
    ·rename_i e;subst e;exact h (_,x) (by simp)
    ·exact ih (fun p hp=>h p (by simp[hp])) t
  refine gen _ fun p hp=>?_;unfold thawT at hp;rw[List.mem_append]at hp
  rcases hp with hp|hp
  ·obtain⟨t,_,rfl⟩:=List.mem_map.1 hp;exact bk_rep (S0:=S0') hnd hlt (hc1.tmps t)
  ·obtain⟨t,ht,rfl⟩:=List.mem_map.1 hp;show RepV _ _ _ _ (renAV _ 40 (look T t)) (a'.tmps.getD t undef);rw[hk1 t ht];exact keep _ _ (hc.tmps t)
 ·intro r row hr;unfold thawH at hr;rw[hget_map]at hr
  split at hr
  ·rename_i q hq;have hqr:q=r:=by
    by_cases h:r<H.length
    ·rw[List.getElem?_range h]at hq;exact(Option.some.inj hq).symm
    ·rw[List.getElem?_eq_none (by simpa using h)]at hq;cases hq
   subst hqr
   split at hr
   ·rename_i i hi;obtain⟨row1,h1,rfl⟩:=Option.map_eq_some_iff.1 hr;obtain⟨l,hl,hrow⟩:=hc1.rows i row1 h1;refine⟨l,by unfold bkρ;rw[hi];exact hl,?_⟩
    cases row1 with
    |map ag kts kvs=>exact hrow
    |itr ag kts left cur=>
     exact(noItr_spec hni i _ _ _ _ h1).elim
    |els sz es=>
     obtain⟨k1,k2,k3,k4⟩:=hrow;refine⟨k1,?_,fun hb=>by rw[k3 hb];rfl,fun b hb=>?_⟩
     ·intro e he;simp only[List.mem_map]at he;obtain⟨e',he',rfl⟩:=he;simpa using k2 e' he'
     ·obtain⟨c,t,q1,q2,q3,q4⟩:=k4 b hb;refine⟨c,t,q1,q2,by simpa using q3,fun i av hi=>?_⟩;rw[←List.map_flatten]at hi;simp only[List.getElem?_map,Option.map_eq_some_iff]at hi;obtain⟨av0,hi,rfl⟩:=hi;obtain⟨x,p1,p2,p3⟩:=q4 i av0 hi;exact⟨x,p1,p2,bk_rep (S0:=S0') hnd hlt p3⟩
   ·rename_i hi;obtain⟨row1,h1,rfl⟩:=Option.map_eq_some_iff.1 hr;obtain⟨l,hl,hrow⟩:=hc.rows q row1 h1;have hng:=bk_none hi;refine⟨l,by unfold bkρ;rw[hi];exact hl,?_⟩;refine(renRow_rep (g:=gfro gs H.length) (S':=Sx S0' ρ) (fun _ h=>h) hrow).ext hx1.size hSx (fun r hr=>(hgf hr).1) (fun r l hr hl=>?_) (fun b hb=>?_)
    ·rw[(hgf hr).2.2.2,←(hgf hr).2.2.1];exact hl
    ·exact hx1.block b (hc.wf.own q l b hl hb).1 (hot hng hl hb)
  ·cases hr
 ·intro r hr;unfold thawH at hr;rw[hget_map]at hr
  by_cases h:r<H.length
  ·rw[List.getElem?_range h]at hr;simp only at hr;unfold bkρ
   split at hr
   ·rename_i i hi;exact hc1.dead i (by simpa using hr)
   ·exact hc.dead r (by simpa using hr)
  ·unfold bkρ
   split
   ·rename_i i hi;exact absurd (hlt r (List.mem_of_getElem? (bk_some hi).2)) h
   ·cases hρ:ρ r with
    |none=>rfl
    |some l=>exact absurd (hL r (hc.wf.given r l hρ)) h
 ·intro r hr;simpa [thawH]using hr
 ·rw[hy];refine hJ _ _ _ _ _ _ hj hc.wf.low hc.owned (hx1.mono fun b hb h=>?_) ?_
  ·rcases h with⟨r,l,h1,h2⟩|h
   ·obtain⟨q,_,h3⟩:=hrg h1;exact⟨q,l,h3,h2⟩
   ·omega
  ·rintro b ⟨r,l,h1,h2⟩
   rcases hcase h1 with⟨i,_,_,h3⟩|⟨_,h3⟩
   ·refine⟨(hc1.wf.own i l b h3 h2).1,?_⟩
    rcases ho1 b ⟨i,l,h3,h2⟩with⟨r',l',h4,h5⟩|h
    ·obtain⟨q,_,h6⟩:=hrg h4;exact Or.inl ⟨q,l',h6,h5⟩
    ·exact Or.inr h
   ·exact⟨Nat.lt_of_lt_of_le (hc.wf.own r l b h3 h2).1 hx1.size,Or.inl ⟨r,l,h3,h2⟩⟩
 ·exact hm1
theorem MutCall.keep {P:Program} {f:FuncId} {args:List AV} {Hk Hd Hk' Hn:Hp} {res:AV} {d d':Option ARow} (q k k':Nat) {sz sz' s1:Nat} {es es' e1 e1':List (List AV)} {x:Value} {i o:Nat} (h:MutCall P f args Hk (d::Hd) res Hk' (d'::Hn))
  (h1:hget (Hk++d::Hd) q=some (.els sz es)) (h2:es.flatten[k]?=some (.fptr x Hk.length i o)) (h3:hget (Hk'++d'::Hn) q=some (.els sz' es')) (h4:es'.flatten[k']?=some (.fptr x Hk.length i o))
  (h5:d=some (.els s1 e1)) (h6:d'=some (.els s1 e1')):MutCall P f args (Hk++[d]) Hd res (Hk'++[d']) Hn:=by
 have eH:Hk++[d]++Hd=Hk++d::Hd:=by simp
 have eH':Hk'++[d']++Hn=Hk'++d'::Hn:=by simp
 refine⟨h.1,by simp[h.2.1],?_⟩;rw[eH,eH'];intro S0 w ρ vs hh hl hreps;refine(h.2.2 S0 w ρ vs hh hl hreps).mono ?_;rintro e w' ⟨v,ρ',rfl,hh',hrep,hkeep,hfresh,hext⟩;refine⟨v,ρ',rfl,hh',hrep,fun r l' hr hl'=>?_,hfresh,hext⟩
 by_cases hrk:r<Hk.length
 ·exact hkeep r l' hrk hl'
 have hre:r=Hk.length:=by
  rw[List.length_append]at hr;simp at hr;omega
 subst hre;have g1:hget (Hk++d::Hd) Hk.length=some (.els s1 e1):=by rw[hget_eq,List.getElem?_append_right (Nat.le_refl _)];simp[h5]
 have g2:hget (Hk'++d'::Hn) Hk.length=some (.els s1 e1'):=by rw[hget_eq,h.2.1,List.getElem?_append_right (Nat.le_refl _)];simp[h6]
 obtain⟨l,hlr,hrow⟩:=hh.rows _ _ g1;obtain⟨l2,hl2,hrow2⟩:=hh'.rows _ _ g2;rw[hl2]at hl';simp only[Option.some.injEq]at hl';subst hl';have cell:∀{w:World} {ρ:Nat→Option Loc} {L:Nat→Prop} {S:Nat→Prop} {l:Loc} {sz:Nat} {es:List (List AV)} {k:Nat},RowRep w S ρ L l (.els sz es)→es.flatten[k]?=some (.fptr x Hk.length i o)→RepV w S ρ L (.ptr Hk.length i o) x:=by
  intro w ρ L S l sz es k hr hk;obtain⟨_,_,e3,e4⟩:=hr
  cases hb:l.b with
  |none=>rw[e3 hb]at hk;simp at hk
  |some b=>
   obtain⟨c,t,_,_,_,p⟩:=e4 b hb;obtain⟨u,_,_,hu⟩:=p k _ hk
   cases hu with
   |pure _ _ h=>cases h
   |fptr _ _ _ _ h=>exact h
 obtain⟨lq,_,hrq⟩:=hh.rows q _ h1;obtain⟨lq',_,hrq'⟩:=hh'.rows q _ h3;have:=pin_loc (x:= .ptr Hk.length i o) rfl (cell hrq h2) (cell hrq' h4) hlr hl2 hrow hrow2 hext.cells (fun b hb hn=>hext.block b hb (fun ho=>hn (Or.inr ho)));rw[this];exact hlr
theorem row_cell {w:World} {S:Nat→Prop} {ρ:Nat→Option Loc} {L:Nat→Prop} {l:Loc} {sz:Nat} {e e':List AV} (h:RowRep w S ρ L l (.els sz [e])) (hl:e'.length=e.length)
  (hc:∀(k:Nat) a',e'[k]?=some a'→∃a,e[k]?=some a∧∀x,(∃b c t,l.b=some b∧w.heap[b]?=some (.cells c t (0,0))∧c[l.o+k]?=some x)→RepV w S ρ L a x→RepV w S ρ L a' x):RowRep w S ρ L l (.els sz [e']):=by
 obtain⟨h1,h2,h3,h4⟩:=h;refine⟨h1,fun y hy=>?_,fun hb=>(by cases h3 hb),fun b hb=>?_⟩
 ·simp only[List.mem_singleton]at hy;subst hy;rw[hl];exact h2 e (by simp)
 ·obtain⟨c,t,k1,k2,k3,k4⟩:=h4 b hb;refine⟨c,t,k1,k2,by simpa using k3,fun i a hi=>?_⟩;simp only[List.flatten_cons,List.flatten_nil,List.append_nil]at hi k4;obtain⟨a0,g1,g2⟩:=hc i a hi;obtain⟨x,p1,p2,p3⟩:=k4 i a0 g1;exact⟨x,p1,p2,g2 x ⟨b,c,t,hb,k1,p1⟩ p3⟩
theorem gwp_fix {P:Program} {ro:Option Nat} {J:Jt} {nt:Nat} {kp:List Nat} {c:Code} {T:Tm} {H:Hp} {Q:Exit→Tm→Hp→Prop} (q j:Nat) {sz:Nat} {e:List AV} {r i o:Nat} (hr:hget H q=some (.els sz [e])) (hj:e[j]?=some (.ptr r i o))
  (h:∀x,GWp P ro J nt kp c T (hset H q (some (.els sz [e.set j (.fptr x r i o)]))) Q):GWp P ro J nt kp c T H Q:=by
 intro hJ kv a w ⟨⟨S0,ρ,L,hc,hL,hjr,hm⟩,hk⟩;have hql:=hget_lt hr;obtain⟨l,hl,hrow⟩:=hc.rows q _ hr;have hrow0:=hrow;obtain⟨_,_,e3,e4⟩:=hrow0
 cases hb:l.b with
 |none=>cases e3 hb
 | some b=>
  obtain⟨cc,t,k1,k2,k3,k4⟩:=e4 b hb;simp only[List.flatten_cons,List.flatten_nil,List.append_nil]at k4;obtain⟨x,p1,p2,p3⟩:=k4 j _ hj;refine h x hJ kv a w ⟨⟨S0,ρ,L,⟨hc.wf,hc.size,hc.defers,hc.tmps,fun r' row hr'=>?_,fun r' hr'=>?_⟩,fun r' hr'=>by rw[hset_len _ _ _ hql];exact hL r' hr',hjr,hm⟩,hk⟩
  ·rw[hget_hset _ _ _ _ (by omega)]at hr'
   split at hr'
   ·rename_i e';subst e';simp only[Option.some.injEq]at hr';subst hr';refine⟨l,hl,row_cell hrow (by simp) fun k a' ha=>?_⟩
    by_cases hkj:k=j
    ·subst hkj;have hkl:k<e.length:=(List.getElem?_eq_some_iff.1 hj).1;rw[List.getElem?_set_self hkl]at ha;simp only[Option.some.injEq]at ha;subst ha;refine⟨_,hj,?_⟩;rintro y ⟨b',c',t',q1,q2,q3⟩ hy;rw[hb]at q1;simp only[Option.some.injEq]at q1;subst q1;rw[k1]at q2;simp only[Option.some.injEq,Obj.cells.injEq]at q2;rw[←q2.1,p1]at q3;simp only[Option.some.injEq]at q3;subst q3;exact .fptr _ _ _ _ hy
    ·rw[List.getElem?_set_ne (fun e=>hkj e.symm)]at ha;exact⟨a',ha,fun _ _ h=>h⟩
   ·exact hc.rows r' row hr'
  ·rw[hget_hset _ _ _ _ (by omega)]at hr'
   split at hr'
   ·cases hr'
   ·exact hc.dead r' hr'
theorem sub_unfix {nt:Nat} {T:Tm} {H:Hp} (q j:Nat) {sz:Nat} {e:List AV} {x:Value} {r i o:Nat} (hr:hget H q=some (.els sz [e])) (hj:e[j]?=some (.fptr x r i o)):Sub nt T H T (hset H q (some (.els sz [e.set j (.ptr r i o)]))):=by
 rintro w0 B S0 a w ⟨⟨ρ,L,hc,hL⟩,hext⟩;have hql:=hget_lt hr;refine⟨⟨ρ,L,⟨hc.wf,hc.size,hc.defers,hc.tmps,fun r' row hr'=>?_,fun r' hr'=>?_⟩,fun r' hr'=>by rw[hset_len _ _ _ hql];exact hL r' hr'⟩,hext⟩
 ·rw[hget_hset _ _ _ _ (by omega)]at hr'
  split at hr'
  ·rename_i e';subst e';simp only[Option.some.injEq]at hr';subst hr';obtain⟨l,hl,hrow⟩:=hc.rows r' _ hr;refine⟨l,hl,row_cell hrow (by simp) fun k a' ha=>?_⟩
   by_cases hkj:k=j
   ·subst hkj;have hkl:k<e.length:=(List.getElem?_eq_some_iff.1 hj).1;rw[List.getElem?_set_self hkl]at ha;simp only[Option.some.injEq]at ha;subst ha;refine⟨_,hj,fun y _ hy=>?_⟩
    cases hy with
    |pure _ _ h=>cases h
    |fptr _ _ _ _ h=>exact h
   ·rw[List.getElem?_set_ne (fun e=>hkj e.symm)]at ha;exact⟨a',ha,fun _ _ h=>h⟩
  ·exact hc.rows r' row hr'
 ·rw[hget_hset _ _ _ _ (by omega)]at hr'
  split at hr'
  ·cases hr'
  ·exact hc.dead r' hr'
theorem gwp_peek {P:Program} {ro:Option Nat} {J:Jt} {nt:Nat} {kp0:List Nat} {T:Tm} {H:Hp} {Q:Exit→Tm→Hp→Prop} {x y:Code} (us kp:List Nat) (Tf:Tm) (hT:subTF H [] T Tf) (hkk:∀t∈kp0,t∈kp)
  (R:Tm→Prop) (hin:∀J1,JOk J1→GWp P ro J1 nt kp x Tf [] (fun e T' H'=>e= .normal∧R T'))
  (hout:∀T',R T'→look (us.map (fun t=>(t,bkAV [] (look T' t)))++kp.map (fun t=>(t,look T t))) 999999=look T 999999∧
   GWp P ro J nt kp0 y (us.map (fun t=>(t,bkAV [] (look T' t)))++kp.map (fun t=>(t,look T t))) H Q):GWp P ro J nt kp0 (.seq x y) T H Q:=by
 intro hJ kv a w ⟨⟨S0,ρ,L,hc,hL,hj,hm⟩,hk⟩;have hf:=core_renF (T':=Tf) (H':=[]) [] (by intro i j q h;simp at h) hT rfl hc
 let B1:Nat→Prop:=fun b=>w.heap.size≤b
 have hJ1:JOk (thawJ B1 S0 w J.mark):=thawJ_ok fun b h=>h;have hs1:SG (thawJ B1 S0 w J.mark) nt kp (fun t=>a.tmps.getD t undef) Tf [] a w:=by
  refine⟨⟨S0,renρ ρ [],fun r=>r<([]:List (Option Nat)).length,hf,fun r h=>by simp at h,⟨rfl,Ext.refl _ _,?_⟩,hm⟩,fun _ _=>rfl⟩;rintro b ⟨r,l,h1,_⟩;obtain⟨q,h,_⟩:=renρ_spec h1;simp at h
 refine wpIn_seq (wpIn_mono (hin _ hJ1 hJ1 _ a w hs1) ?_);rintro e a' w' ⟨T',H',⟨rfl,hR⟩,⟨⟨S0',ρ1,L1,hc1,hL1,⟨rfl,hx1,ho1⟩,hm1⟩,hk1⟩⟩;obtain⟨hy,ho⟩:=hout T' hR;refine ho hJ kv a' w' ⟨⟨S0',ρ,L,⟨⟨hc.wf.inj,fun r l b h1 h2=>?_,hc.wf.given,hc1.wf.low,fun _ _=>trivial⟩,hc1.size,rfl,?_,?_,hc.dead⟩,hL,?_,hm1⟩,fun t ht=>(hk1 t (hkk t ht)).trans (hk t ht)⟩
 ·obtain⟨p1,p2,p3⟩:=hc.wf.own r l b h1 h2;exact⟨Nat.lt_of_lt_of_le p1 hx1.size,p2,p3⟩
 ·have hS:∀b,b<w.heap.size→¬Sx S0' ρ b→w'.heap[b]?=w.heap[b]?∧¬Sx S0' ρ b:=fun b hb hn=>⟨hx1.block b hb (by show¬w.heap.size≤b;omega),hn⟩;have gen:∀(l:Tm),(∀p∈l,RepV w' (Sx S0' ρ) ρ L p.2 (a'.tmps.getD p.1 undef))→∀t,RepV w' (Sx S0' ρ) ρ L (look l t) (a'.tmps.getD t undef):=by
   intro l
   induction l with
   |nil=>intro _ t;exact .pure _ _ (.any _)
   |cons p l ih=>
    intro h t;obtain⟨i,x⟩:=p;simp only[look]
    split
    ·rename_i e;subst e;exact h (_,x) (by simp)
    ·exact ih (fun p hp=>h p (by simp[hp])) t
  refine gen _ fun p hp=>?_;rw[List.mem_append]at hp
  rcases hp with hp|hp
  ·obtain⟨t,_,rfl⟩:=List.mem_map.1 hp;exact bk_rep (S0:=S0') (gs:=[]) (ρ:=ρ) List.nodup_nil (by simp) (hc1.tmps t)
  ·obtain⟨t,ht,rfl⟩:=List.mem_map.1 hp;show RepV _ _ _ _ (look T t) (a'.tmps.getD t undef);rw[hk1 t ht];exact(hc.tmps t).ext hx1.size hS (fun _ h=>h) (fun _ _ _ h=>h)
 ·intro r row hr;obtain⟨l,hl,hrow⟩:=hc.rows r row hr;refine⟨l,hl,hrow.ext hx1.size (fun b hb hn=>⟨hx1.block b hb (by show¬w.heap.size≤b;omega),hn⟩) (fun _ h=>h) (fun _ _ _ h=>h) (fun b hb=>?_)⟩;have:=(hc.wf.own r l b hl hb).1;exact hx1.block b this (by show¬w.heap.size≤b;omega)
 ·rw[hy];refine hJ _ _ _ _ _ _ hj hc.wf.low hc.owned (hx1.mono fun b hb h=>absurd hb (by show¬b<w.heap.size;exact Nat.not_lt.2 h)) ?_;rintro b ⟨r,l,h1,h2⟩;exact⟨Nat.lt_of_lt_of_le (hc.wf.own r l b h1 h2).1 hx1.size,Or.inl ⟨r,l,h1,h2⟩⟩
end Go.AM
end
section
namespace Go.Cur
open Go.AM Go.Proofs
def partOf (g:Gr) (s:Sta) (k:Nat):List Nat:=cp (netE g s) g.Nodes.toNat (nm (netE g s) g.Nodes.toNat k)
theorem partOf_eq {g:Gr} {s:Sta} {p:List Nat} {k:Nat} (hp:p∈partL g s) (hk:k∈p):p=partOf g s k:=by
 obtain⟨i,_,rfl⟩:=List.mem_map.1 hp;unfold partOf;rw[(cp_mem.1 hk).2]
abbrev stg (g:Gr) (s:Sta) (l:List Ld) (sv:List Bool) (v f c:AV):AV:= .iptr [net g s,lL l,bL sv,v,f,c]
theorem c_part (g:Gr) (s:Sta) (l:List Ld) (sv:List Bool) (v f c:AV) (hnt:NetOk g s) (h12:Few12 g s) (x:Int) (h0:0≤x) (hx:x<g.Nodes):
  PureCall Try.prog 64 [stg g s l sv v f c,I x] (iL (upN (partOf g s x.toNat))):=by
 have hit:=c_iter g s hnt h12;have hc:=c_parts (ntC g (bL s.Feeds) (bL s.Wires));have hpo:=fun(p:List Nat) (hp:p∈partL g s)=>partOf_eq (k:=x.toNat) hp;have hcov:=partL_all hnt (k:=x.toNat) (by omega);have h12':∀p∈partL g s,p.length≤12:=h12;generalize partOf g s x.toNat=po at hpo ⊢;generalize partL g s=L at hit hpo hcov h12';refine PureCall.of_bodyG Try.func64 rfl (by decide) (by simp[Try.ntmps64]) ?_;intro J hJ;simp only[Try.ntmps64,Try.results64];refine gS fun K hK=>?_;simp -dsimp;apply hK;clear hK K;refine gwp_seq_k fun K1 hK1=>?_;refine gS fun K hK=>?_;simp -dsimp;refine callK_intro _ (hc) (by simp) ?_;simp -dsimp;apply hK;clear hK K;refine gwp_block ?_;refine gwp_prune [3,4,10] (Or.inr (by simp)) ?_;simp only[zP,Nat.reduceEqDiff,reduceIte];refine gwp_range_s hJ [3,4,10] (fun _=>[some (.els 1 [[I x]]),some (.els 1 [[.v (.slice none 0 0)]])]) (fun n=>∀p∈L.take n,x.toNat∉p) rfl (hit) rfl (by simp) (by decide) (by decide) (by decide) (pAV_len L) ?_ ?_ ?_ ?_
 ·simp
 ·exact sub_same (by simp)
 ·intro n xv hxn hi l1 J1 hJ1;obtain⟨p,hp,rfl⟩:∃p,L[n]?=some p∧pAV p=xv:=by simpa using hxn
  have hpl:=upN_len p;have hpm:=List.mem_of_getElem? hp;have hpp:=h12' p hpm;simp only[pAV];simp only[List.zip_cons_cons,List.zip_nil_left,List.zip_nil_right,List.cons_append,List.nil_append];refine gR fun K hK=>?_;simp -dsimp;apply hK;clear hK K;simp only[onlyN];intro J2 hJ2;refine gwp_prune [3,4,5,10] (Or.inr (by simp)) ?_;simp only[zP,Nat.reduceEqDiff,reduceIte];refine gwp_block ?_;refine gS fun K hK=>?_;simp -dsimp;refine callK_intro _ (c_Contains (upN p) x (by omega)) (by simp) ?_;simp -dsimp;apply hK;clear hK K;refine gwp_cond rfl (fun hc0=>?_) (fun hc0=>?_)
  ·have hkp:x.toNat∈p:=(upN_mem.1 (by simpa using hc0)).2;have hpe:=hpo p hpm hkp;refine gS fun K hK=>?_;simp -dsimp;apply hK;clear hK K;exact gwp_ret ⟨[some (.els 1 [[I x]]),some (.els 1 [[iL (upN p)]])],sub_rb [some 0,some 1] rfl (by simp) (by simp),by simp[resP,tupOf,hpe]⟩
  ·have hkp:x.toNat∉p:=fun h=>by simp[upN_mem,h0,h]at hc0
   refine gwp_skip ?_;simp only[thenA,inBlockA,roundQ,reduceIte,Nat.reduceEqDiff,eq_self];refine⟨?_,sub_rb [some 0,some 1] rfl (by simp) (by simp)⟩;rw[List.take_add_one,hp];intro q hq
   rcases List.mem_append.1 hq with h|h
   ·exact hi q h
   ·simp at h;rw[h];exact hkp
 ·intro hdone;rw[List.take_of_length_le (by simp)]at hdone;obtain⟨p,hp,hkp⟩:=List.mem_flatten.1 hcov;exact absurd hkp (hdone p hp)
def ldA (l:List Ld) (k:Nat):Ld:=(l[k]?).getD default
theorem ldA_get {l:List Ld} {k:Nat} (h:k<l.length):l[k]?=some (ldA l k):=by
 unfold ldA;rw[List.getElem?_eq_getElem h];rfl
def leS (l:List Ld) (sv:List Bool) (q:Ld→Bool) (out:Int) (i:Nat):Int:=
 if bAt sv i=true∧q (ldA l i)=true∧(out<0∨(ldA l i).Rank≤(ldA l out.toNat).Rank)then i else out
def leL (l:List Ld) (sv:List Bool) (q:Ld→Bool) (n:Nat):Int:=(List.range n).foldl (leS l sv q) (-1)
theorem leL_succ (l:List Ld) (sv:List Bool) (q:Ld→Bool) (n:Nat):leL l sv q (n+1)=leS l sv q (leL l sv q n) n:=by
 unfold leL;rw[List.range_succ,List.foldl_append];rfl
theorem leL_bd (l:List Ld) (sv:List Bool) (q:Ld→Bool) (n:Nat):-1≤leL l sv q n∧leL l sv q n<n:=by
 induction n with
 |zero=>exact⟨by simp[leL],by simp[leL]⟩
 |succ n ih=>
  rw[leL_succ];unfold leS
  split<;>omega
theorem c_least (x0:AV) (l:List Ld) (sv:List Bool) (v f c:AV) (fn:FuncId) (cl:List (List AV)) (q:Ld→Bool) (hl:l.length≤1000) (hs:sv.length=l.length)
  (h:∀x∈l,PureCall Try.prog fn (.agg x.cells::ipts cl) (Bo (q x))):PureCall Try.prog 66 [.iptr [x0,lL l,bL sv,v,f,c], .clo fn (ipts cl)] (I (leL l sv q l.length)):=by
 refine PureCall.of_body Try.func66 rfl (by decide) (by simp[Try.ntmps66]) ?_;simp only[Try.ntmps66,Try.results66];refine aS fun K hK=>?_;simp -dsimp;apply hK;clear hK K;refine aS fun K hK=>?_;simp -dsimp;apply hK;clear hK K;refine awp_seq_k fun K1 hK1=>?_;refine aS fun K hK=>?_;simp -dsimp;apply hK;clear hK K;refine awp_block ?_;refine awp_prune [0,1,5,11,12,13] ?_;simp only[zP,Nat.reduceEqDiff,reduceIte];refine awp_loop_l [0,1,11,12] (α:=Nat) (fun k=>[(5,I (leL l sv q k)),(13,I k)]) (fun k=>[]) (fun k=>k≤l.length) (fun k=>l.length-k) 0 ?_ ?_ ?_
 ·exact Nat.zero_le _
 ·exact sub_same (by simp[leL])
 rintro k k1;simp only[zP,Nat.reduceEqDiff,reduceIte];refine aS fun K hK=>?_;simp -dsimp;apply hK;clear hK K;refine awp_seq_k fun K2 hK2=>?_;refine awp_cond rfl (fun hc0=>?_) (fun hc0=>?_)
 ·skip
  try simp at hc0
  obtain⟨x,hx⟩:∃x,l[k]?=some x:=⟨_,List.getElem?_eq_getElem hc0⟩;have wk:=zW k (by omega);have gb:=bAt_get (l:=sv) (k:=k) (by omega);have hne:¬sv=[]:=by intro e;rw[e]at hs;simp at hs;omega
  have hsu:=leL_succ l sv q k;have hbd:=leL_bd l sv q k;have hxe:ldA l k=x:=by have:=ldA_get hc0;rw[hx]at this;exact(Option.some.inj this).symm
  unfold leS at hsu;rw[hxe]at hsu;generalize leL l sv q k=out at hsu hbd ⊢;refine awp_skip ?_;simp only[zT,reduceIte,Nat.reduceEqDiff];refine hK2 _ _ ?_;refine awp_prune [0,1,5,11,12,13] ?_;simp only[zP,Nat.reduceEqDiff,reduceIte];refine awp_seq_k fun K3 hK3=>?_;refine awp_block ?_;refine aS fun K hK=>?_;simp -dsimp [hx];apply hK;clear hK K;refine awp_sd mixed rfl fun K hK=>?_;simp -dsimp [gb];refine callK_may _ (fun hm=>h x (List.mem_of_getElem? hx)) (by simp) ?_;simp -dsimp [gb];refine idxK_intro ((ldA l out.toNat).cells) (fun hm=>by simp at hm;have:=ldA_get (l:=l) (k:=out.toNat) (by omega);simp[this]) ?_;simp -dsimp [gb];refine hK _ _ _ (by decide+kernel) ?_;clear hK K;refine awp_cond rfl (fun hc1=>?_) (fun hc1=>?_)
  ·refine aR fun K hK=>?_;simp -dsimp;apply hK;clear hK K;simp only[zT,reduceIte,Nat.reduceEqDiff];refine hK3 _ _ ?_;refine awp_prune [0,1,5,11,12,13] ?_;simp only[zP,Nat.reduceEqDiff,reduceIte];refine aR fun K hK=>?_;simp -dsimp [wk];apply hK;clear hK K;simp only[zT,reduceIte,Nat.reduceEqDiff];have hcd:bAt sv k=true∧q x=true∧(out<0∨x.Rank≤(ldA l out.toNat).Rank):=by simpa [and_assoc]using hc1
   rw[if_pos hcd]at hsu;exact⟨k+1,by omega,by omega,sub_rb [] rfl (by simp[hsu]) (by simp)⟩
  ·refine awp_skip ?_;simp only[zT,reduceIte,Nat.reduceEqDiff];refine hK3 _ _ ?_;refine awp_prune [0,1,5,11,12,13] ?_;simp only[zP,Nat.reduceEqDiff,reduceIte];refine aR fun K hK=>?_;simp -dsimp [wk];apply hK;clear hK K;simp only[zT,reduceIte,Nat.reduceEqDiff];have hcd:¬(bAt sv k=true∧q x=true∧(out<0∨x.Rank≤(ldA l out.toNat).Rank)):=fun h=>by simp[h.1,h.2.1]at hc1;omega
   rw[if_neg hcd]at hsu;exact⟨k+1,by omega,by omega,sub_rb [] rfl (by simp[hsu]) (by simp)⟩
 ·skip
  try simp at hc0
  have hke:k=l.length:=by omega
  subst hke;refine awp_exit ?_;simp only[zT,reduceIte,Nat.reduceEqDiff];refine hK1 _ _ ?_;refine awp_prune [5] ?_;simp only[zP,Nat.reduceEqDiff,reduceIte];refine aS fun K hK=>?_;simp -dsimp;apply hK;clear hK K;exact awp_ret (by simp)
end Go.Cur
end
section
namespace Go.Cur
open Go.AM Go.Proofs
abbrev hSa (x:AV) (l:List Ld) (ns:Nat) (vs fs:List Fr) (nc:Nat):Option ARow:=some (.els 6 [[x,lL l, .row 2 0 ns,fL vs,fL fs, .row 4 0 nc]])
abbrev hNa (g:Gr) (fe wi:List Bool):Option ARow:=some (.els 6 [[I g.Nodes, .lst 4 (g.Wires.map Wr.cells), .lst 4 (g.Feeds.map Fd.cells),I g.Least, .row 3 0 fe.length,bL wi]])
abbrev hSb (x:AV) (l:List Ld) (ns:Nat) (vs fs:List Fr) (nc:Nat):Option ARow:=some (.els 6 [[x,lL l, .row 2 0 ns,fL vs,fL fs, .row 3 0 nc]])
abbrev hNb (g:Gr) (fe wi:List Bool):Option ARow:=some (.els 6 [[I g.Nodes, .lst 4 (g.Wires.map Wr.cells), .lst 4 (g.Feeds.map Fd.cells),I g.Least,bL [],bL wi]])
theorem m_cuta (x:Value) (g:Gr) (fe wi:List Bool) (l:List Ld) (sv:List Bool) (vs fs:List Fr) (cuts:List Cu) (kd:Int) (i:Nat) (v:Fr) (hi:i<sv.length) (hc:cuts.length≤1000):
  MutCall Try.prog 65 [.ptr 0 0 0,I kd,I i,v.av] [hSa (.fptr x 1 0 0) l sv.length vs fs cuts.length] [hNa g fe wi,some (.els 1 (sv.map bCell)),some (.els 1 (fe.map bCell)),some (.els 4 (cuts.map Cu.cells))]
   (.tup []) [hSa (.fptr x 1 0 0) l (sv.set i false).length vs fs (cuts++[(⟨kd,i,v⟩:Cu)]).length] [hNa g fe wi,some (.els 1 ((sv.set i false).map bCell)),some (.els 1 (fe.map bCell)),some (.els 4 ((cuts++[(⟨kd,i,v⟩:Cu)]).map Cu.cells))]:=by
 have f1:Fits (cuts.length+1) 33:=fits_of (by omega) (by omega);refine MutCall.of_bodyG [0] Try.func65 rfl (by decide) (by simp[Try.ntmps65]) rfl rfl ?_;intro J hJ;simp only[Try.ntmps65,Try.results65];refine gS fun K hK=>?_;simp -dsimp;apply hK;clear hK K;refine gS fun K hK=>?_;simp -dsimp [hi];apply hK;clear hK K;refine gwp_draw mixed rfl (by decide) rfl rfl fun K hK=>?_;simp -dsimp [f1];refine hK _ _ _ (by decide+kernel) ?_;clear hK K
 try simp only[zT,reduceIte,Nat.reduceEqDiff]
 exact⟨[some 0,some 1,some 2,some 3,some 6],rfl,by simp,by simp[List.map_set],by simp,by simp[resP,tupOf]⟩
theorem m_cutb (x:Value) (g:Gr) (fe wi:List Bool) (l:List Ld) (sv:List Bool) (vs fs:List Fr) (cuts:List Cu) (kd:Int) (i:Nat) (v:Fr) (hi:i<sv.length) (hc:cuts.length≤1000):
  MutCall Try.prog 65 [.ptr 0 0 0,I kd,I i,v.av] [hSb (.fptr x 1 0 0) l sv.length vs fs cuts.length] [hNb g fe wi,some (.els 1 (sv.map bCell)),some (.els 4 (cuts.map Cu.cells))]
   (.tup []) [hSb (.fptr x 1 0 0) l (sv.set i false).length vs fs (cuts++[(⟨kd,i,v⟩:Cu)]).length] [hNb g fe wi,some (.els 1 ((sv.set i false).map bCell)),some (.els 4 ((cuts++[(⟨kd,i,v⟩:Cu)]).map Cu.cells))]:=by
 have f1:Fits (cuts.length+1) 33:=fits_of (by omega) (by omega);refine MutCall.of_bodyG [0] Try.func65 rfl (by decide) (by simp[Try.ntmps65]) rfl rfl ?_;intro J hJ;simp only[Try.ntmps65,Try.results65];refine gS fun K hK=>?_;simp -dsimp;apply hK;clear hK K;refine gS fun K hK=>?_;simp -dsimp [hi];apply hK;clear hK K;refine gwp_draw mixed rfl (by decide) rfl rfl fun K hK=>?_;simp -dsimp [f1];refine hK _ _ _ (by decide+kernel) ?_;clear hK K
 try simp only[zT,reduceIte,Nat.reduceEqDiff]
 exact⟨[some 0,some 1,some 2,some 5],rfl,by simp,by simp[List.map_set],by simp,by simp[resP,tupOf]⟩
end Go.Cur
end
section
namespace Go.Cur
open Go.AM Go.Proofs
def deadB (g:Gr) (s:Sta) (l:List Ld) (sv:List Bool) (i:Nat):Bool:=
 bAt sv i&&(decide ((ldA l i).Units≠0)&&decide ((feedL g s (upN (partOf g s (ldA l i).At.toNat))).length=0))
theorem partOf_len (g:Gr) (s:Sta) (k:Nat):(partOf g s k).length≤g.Nodes.toNat:=by
 unfold partOf cp;have:=List.length_filter_le (fun i=>decide (nm (netE g s) g.Nodes.toNat i=nm (netE g s) g.Nodes.toNat k)) (List.range g.Nodes.toNat);simpa using this
theorem m_deada (x:Value) (g:Gr) (fe wi:List Bool) (l:List Ld) (sv:List Bool) (vs fs:List Fr) (cuts:List Cu) (hl:l.length≤1000) (hs:sv.length=l.length) (hc:cuts.length≤1000)
  (hld:∀y∈l,0≤y.At∧y.At<g.Nodes) (hnt:NetOk g ⟨fe,wi⟩) (h12:Few12 g ⟨fe,wi⟩) (r:Bool) (sv2:List Bool) (cuts2:List Cu)
  (ht:∀i,i<l.length→deadB g ⟨fe,wi⟩ l sv i=true→(∀j,j<i→deadB g ⟨fe,wi⟩ l sv j=false)→r=true∧sv2=sv.set i false∧cuts2=cuts++[(⟨1,i,⟨0,1⟩⟩:Cu)])
  (hf:(∀j,j<l.length→deadB g ⟨fe,wi⟩ l sv j=false)→r=false∧sv2=sv∧cuts2=cuts):
  MutCall Try.prog 42 [.ptr 0 0 0] [hSa (.fptr x 1 0 0) l sv.length vs fs cuts.length,hNa g fe wi] [some (.els 1 (sv.map bCell)),some (.els 1 (fe.map bCell)),some (.els 4 (cuts.map Cu.cells))]
   (Bo r) [hSa (.fptr x 1 0 0) l sv2.length vs fs cuts2.length,hNa g fe wi] [some (.els 1 (sv2.map bCell)),some (.els 1 (fe.map bCell)),some (.els 4 (cuts2.map Cu.cells))]:=by
 refine MutCall.keep (Hk:=[_]) (Hk':=[_]) 0 0 0 (x:=x) (i:=0) (o:=0) ?_ rfl rfl rfl rfl rfl rfl;have hbd:=grB_bd hnt.gr;refine MutCall.of_bodyG [0] Try.func42 rfl (by decide) (by simp[Try.ntmps42]) rfl rfl ?_;intro J hJ;simp only[Try.ntmps42,Try.results42];refine gS fun K hK=>?_;simp -dsimp;apply hK;clear hK K;refine gwp_seq_k fun K1 hK1=>?_;refine gS fun K hK=>?_;simp -dsimp;apply hK;clear hK K;refine gwp_block ?_;refine gwp_prune [0,8,9,10] (Or.inr (by simp)) ?_;simp only[zP,Nat.reduceEqDiff,reduceIte];refine gwp_loop_l [0,8,9] (α:=Nat) (fun k=>[(10,I k)]) (fun k=>[hSa (.fptr x 1 0 0) l sv.length vs fs cuts.length,hNa g fe wi,some (.els 1 (sv.map bCell)),some (.els 1 (fe.map bCell)),some (.els 4 (cuts.map Cu.cells))]) (fun k=>k≤l.length∧∀j,j<k→deadB g ⟨fe,wi⟩ l sv j=false) (fun k=>l.length-k) 0 ?_ ?_ ?_
 ·exact⟨Nat.zero_le _,fun j hj=>by omega⟩
 ·exact gsub (sub_same (by simp)) (by simp)
 rintro k ⟨k1,k2⟩;simp only[zP,Nat.reduceEqDiff,reduceIte];refine gS fun K hK=>?_;simp -dsimp;apply hK;clear hK K;refine gwp_seq_k fun K2 hK2=>?_;refine gwp_cond rfl (fun hc0=>?_) (fun hc0=>?_)
 ·have hkl:k<l.length:=by simpa using hc0
  obtain⟨y,hy⟩:∃y,l[k]?=some y:=⟨_,List.getElem?_eq_getElem hkl⟩;have hye:ldA l k=y:=by have:=ldA_get hkl;rw[hy]at this;exact(Option.some.inj this).symm
  have wk:=zW k (by omega);have gb:=bAt_get (l:=sv) (k:=k) (by omega);have hya:=hld y (List.mem_of_getElem? hy);have hpl:=upN_len (partOf g ⟨fe,wi⟩ y.At.toNat);have hpo:=partOf_len g ⟨fe,wi⟩ y.At.toNat;have hdk:deadB g ⟨fe,wi⟩ l sv k=(bAt sv k&&(decide (y.Units≠0)&&decide ((feedL g ⟨fe,wi⟩ (upN (partOf g ⟨fe,wi⟩ y.At.toNat))).length=0))):=by unfold deadB;rw[hye]
  refine gwp_skip ?_;simp only[zT,reduceIte,Nat.reduceEqDiff];refine hK2 _ _ ?_;refine gwp_prune [0,8,9,10] (Or.inr (by simp)) ?_;simp only[zP,Nat.reduceEqDiff,reduceIte];refine gwp_seq_k fun K3 hK3=>?_;refine gwp_block ?_;refine gS fun K hK=>?_;simp -dsimp [hy];apply hK;clear hK K;refine gwp_peek [39] [0,3,4,8,9,10] [(0,stg g ⟨fe,wi⟩ l sv (fL vs) (fL fs) (cL cuts)),(3,I k),(4, .iptr y.cells)] (⟨.inr (by simp), .inr (by simp), .inr (by simp),trivial⟩) (by decide) (fun T'=>Go.AM.look T' 39=Bo (deadB g ⟨fe,wi⟩ l sv k)) ?_ ?_
  ·intro J1 hJ1;refine gwp_draw mixed rfl (by decide) rfl rfl fun K hK=>?_;simp -dsimp [gb];refine callK_may _ (fun hm=>c_part g ⟨fe,wi⟩ l sv (fL vs) (fL fs) (cL cuts) hnt h12 y.At hya.1 hya.2) (by simp) ?_;simp -dsimp [gb];refine callK_may _ (fun hm=>c_feeds g ⟨fe,wi⟩ _ hnt.sf (by omega) (by omega)) (by simp) ?_;simp -dsimp [gb];refine hK _ _ _ (by decide+kernel) ?_;clear hK K;exact⟨rfl,by rw[hdk];simp;rw[Bool.eq_iff_iff];simp[and_assoc]⟩
  ·intro T' hR;refine⟨by simp,?_⟩;simp only[List.map_cons,List.map_nil,List.cons_append,List.nil_append,hR,bkAV,Go.AM.look,Nat.reduceEqDiff,reduceIte];refine gwp_cond rfl (fun hc1=>?_) (fun hc1=>?_)
   ·obtain⟨e1,e2,e3⟩:=ht k hkl hc1 k2;subst e1 e2 e3;refine gS fun K hK=>?_;simp -dsimp;refine callK_mut [0,1] [2,3,4] [some 0,some 1,none,none,none,none,some 2,some 3,some 4] ((m_cuta x g fe wi l sv vs fs cuts 1 k ⟨0,1⟩ (by omega) hc).keep (Hk:=[_]) (Hk':=[_]) 0 0 0 (x:=x) (i:=0) (o:=0) rfl rfl rfl rfl rfl rfl) (by decide) rfl (by simp) (by simp) rfl (by simp) ?_;simp -dsimp;apply hK;clear hK K;refine gS fun K hK=>?_;simp -dsimp;apply hK;clear hK K;exact gwp_ret ⟨[some 0,some 1,some 6,some 7,some 8],rfl,by simp,by simp,by simp,by simp[resP,tupOf]⟩
   ·refine gwp_skip ?_;simp only[zT,reduceIte,Nat.reduceEqDiff];refine hK3 _ _ ?_;refine gwp_prune [0,8,9,10] (Or.inr (by simp)) ?_;simp only[zP,Nat.reduceEqDiff,reduceIte];refine gR fun K hK=>?_;simp -dsimp [wk];apply hK;clear hK K;simp only[zT,reduceIte,Nat.reduceEqDiff];exact⟨k+1,⟨by omega,fun j hj=>by rcases(by omega:j<k∨j=k)with h|rfl;exact k2 j h;exact hc1⟩,by omega,gsub (sub_rb [some 0,some 1,some 2,some 3,some 4] rfl (by simp) (by simp)) (by simp)⟩
 ·have hke:k=l.length:=by have hn:¬k<l.length:=(by simpa using hc0);omega
  subst hke;obtain⟨e1,e2,e3⟩:=hf k2;subst e1 e2 e3;refine gwp_exit ?_;simp only[zT,reduceIte,Nat.reduceEqDiff];refine hK1 _ _ ?_;refine gwp_prune [0] (Or.inr (by simp)) ?_;simp only[zP,Nat.reduceEqDiff,reduceIte];refine gS fun K hK=>?_;simp -dsimp;apply hK;clear hK K;exact gwp_ret ⟨[some 0,some 1,some 2,some 3,some 4],rfl,by simp,by simp,by simp,by simp[resP,tupOf]⟩
theorem m_deadb (x:Value) (g:Gr) (fe wi:List Bool) (l:List Ld) (sv:List Bool) (vs fs:List Fr) (cuts:List Cu) (hl:l.length≤1000) (hs:sv.length=l.length) (hc:cuts.length≤1000)
  (hld:∀y∈l,0≤y.At∧y.At<g.Nodes) (hnt:NetOk g ⟨[],wi⟩) (h12:Few12 g ⟨[],wi⟩) (r:Bool) (sv2:List Bool) (cuts2:List Cu)
  (ht:∀i,i<l.length→deadB g ⟨[],wi⟩ l sv i=true→(∀j,j<i→deadB g ⟨[],wi⟩ l sv j=false)→r=true∧sv2=sv.set i false∧cuts2=cuts++[(⟨1,i,⟨0,1⟩⟩:Cu)])
  (hf:(∀j,j<l.length→deadB g ⟨[],wi⟩ l sv j=false)→r=false∧sv2=sv∧cuts2=cuts):
  MutCall Try.prog 42 [.ptr 0 0 0] [hSb (.fptr x 1 0 0) l sv.length vs fs cuts.length,hNb g fe wi] [some (.els 1 (sv.map bCell)),some (.els 4 (cuts.map Cu.cells))]
   (Bo r) [hSb (.fptr x 1 0 0) l sv2.length vs fs cuts2.length,hNb g fe wi] [some (.els 1 (sv2.map bCell)),some (.els 4 (cuts2.map Cu.cells))]:=by
 refine MutCall.keep (Hk:=[_]) (Hk':=[_]) 0 0 0 (x:=x) (i:=0) (o:=0) ?_ rfl rfl rfl rfl rfl rfl;have hbd:=grB_bd hnt.gr;refine MutCall.of_bodyG [0] Try.func42 rfl (by decide) (by simp[Try.ntmps42]) rfl rfl ?_;intro J hJ;simp only[Try.ntmps42,Try.results42];refine gS fun K hK=>?_;simp -dsimp;apply hK;clear hK K;refine gwp_seq_k fun K1 hK1=>?_;refine gS fun K hK=>?_;simp -dsimp;apply hK;clear hK K;refine gwp_block ?_;refine gwp_prune [0,8,9,10] (Or.inr (by simp)) ?_;simp only[zP,Nat.reduceEqDiff,reduceIte];refine gwp_loop_l [0,8,9] (α:=Nat) (fun k=>[(10,I k)]) (fun k=>[hSb (.fptr x 1 0 0) l sv.length vs fs cuts.length,hNb g fe wi,some (.els 1 (sv.map bCell)),some (.els 4 (cuts.map Cu.cells))]) (fun k=>k≤l.length∧∀j,j<k→deadB g ⟨[],wi⟩ l sv j=false) (fun k=>l.length-k) 0 ?_ ?_ ?_
 ·exact⟨Nat.zero_le _,fun j hj=>by omega⟩
 ·exact gsub (sub_same (by simp)) (by simp)
 rintro k ⟨k1,k2⟩;simp only[zP,Nat.reduceEqDiff,reduceIte];refine gS fun K hK=>?_;simp -dsimp;apply hK;clear hK K;refine gwp_seq_k fun K2 hK2=>?_;refine gwp_cond rfl (fun hc0=>?_) (fun hc0=>?_)
 ·have hkl:k<l.length:=by simpa using hc0
  obtain⟨y,hy⟩:∃y,l[k]?=some y:=⟨_,List.getElem?_eq_getElem hkl⟩;have hye:ldA l k=y:=by have:=ldA_get hkl;rw[hy]at this;exact(Option.some.inj this).symm
  have wk:=zW k (by omega);have gb:=bAt_get (l:=sv) (k:=k) (by omega);have hya:=hld y (List.mem_of_getElem? hy);have hpl:=upN_len (partOf g ⟨[],wi⟩ y.At.toNat);have hpo:=partOf_len g ⟨[],wi⟩ y.At.toNat;have hdk:deadB g ⟨[],wi⟩ l sv k=(bAt sv k&&(decide (y.Units≠0)&&decide ((feedL g ⟨[],wi⟩ (upN (partOf g ⟨[],wi⟩ y.At.toNat))).length=0))):=by unfold deadB;rw[hye]
  refine gwp_skip ?_;simp only[zT,reduceIte,Nat.reduceEqDiff];refine hK2 _ _ ?_;refine gwp_prune [0,8,9,10] (Or.inr (by simp)) ?_;simp only[zP,Nat.reduceEqDiff,reduceIte];refine gwp_seq_k fun K3 hK3=>?_;refine gwp_block ?_;refine gS fun K hK=>?_;simp -dsimp [hy];apply hK;clear hK K;refine gwp_peek [39] [0,3,4,8,9,10] [(0,stg g ⟨[],wi⟩ l sv (fL vs) (fL fs) (cL cuts)),(3,I k),(4, .iptr y.cells)] (⟨.inr (by simp), .inr (by simp), .inr (by simp),trivial⟩) (by decide) (fun T'=>Go.AM.look T' 39=Bo (deadB g ⟨[],wi⟩ l sv k)) ?_ ?_
  ·intro J1 hJ1;refine gwp_draw mixed rfl (by decide) rfl rfl fun K hK=>?_;simp -dsimp [gb];refine callK_may _ (fun hm=>c_part g ⟨[],wi⟩ l sv (fL vs) (fL fs) (cL cuts) hnt h12 y.At hya.1 hya.2) (by simp) ?_;simp -dsimp [gb];refine callK_may _ (fun hm=>c_feeds g ⟨[],wi⟩ _ hnt.sf (by omega) (by omega)) (by simp) ?_;simp -dsimp [gb];refine hK _ _ _ (by decide+kernel) ?_;clear hK K;exact⟨rfl,by rw[hdk];simp;rw[Bool.eq_iff_iff];simp[and_assoc]⟩
  ·intro T' hR;refine⟨by simp,?_⟩;simp only[List.map_cons,List.map_nil,List.cons_append,List.nil_append,hR,bkAV,Go.AM.look,Nat.reduceEqDiff,reduceIte];refine gwp_cond rfl (fun hc1=>?_) (fun hc1=>?_)
   ·obtain⟨e1,e2,e3⟩:=ht k hkl hc1 k2;subst e1 e2 e3;refine gS fun K hK=>?_;simp -dsimp;refine callK_mut [0,1] [2,3] [some 0,some 1,none,none,none,some 2,some 3] ((m_cutb x g fe wi l sv vs fs cuts 1 k ⟨0,1⟩ (by omega) hc).keep (Hk:=[_]) (Hk':=[_]) 0 0 0 (x:=x) (i:=0) (o:=0) rfl rfl rfl rfl rfl rfl) (by decide) rfl (by simp) (by simp) rfl (by simp) ?_;simp -dsimp;apply hK;clear hK K;refine gS fun K hK=>?_;simp -dsimp;apply hK;clear hK K;exact gwp_ret ⟨[some 0,some 1,some 5,some 6],rfl,by simp,by simp,by simp,by simp[resP,tupOf]⟩
   ·refine gwp_skip ?_;simp only[zT,reduceIte,Nat.reduceEqDiff];refine hK3 _ _ ?_;refine gwp_prune [0,8,9,10] (Or.inr (by simp)) ?_;simp only[zP,Nat.reduceEqDiff,reduceIte];refine gR fun K hK=>?_;simp -dsimp [wk];apply hK;clear hK K;simp only[zT,reduceIte,Nat.reduceEqDiff];exact⟨k+1,⟨by omega,fun j hj=>by rcases(by omega:j<k∨j=k)with h|rfl;exact k2 j h;exact hc1⟩,by omega,gsub (sub_rb [some 0,some 1,some 2,some 3] rfl (by simp) (by simp)) (by simp)⟩
 ·have hke:k=l.length:=by have hn:¬k<l.length:=(by simpa using hc0);omega
  subst hke;obtain⟨e1,e2,e3⟩:=hf k2;subst e1 e2 e3;refine gwp_exit ?_;simp only[zT,reduceIte,Nat.reduceEqDiff];refine hK1 _ _ ?_;refine gwp_prune [0] (Or.inr (by simp)) ?_;simp only[zP,Nat.reduceEqDiff,reduceIte];refine gS fun K hK=>?_;simp -dsimp;apply hK;clear hK K;exact gwp_ret ⟨[some 0,some 1,some 2,some 3],rfl,by simp,by simp,by simp,by simp[resP,tupOf]⟩
end Go.Cur
end
section
namespace Go.Cur
open Go.AM Go.Proofs
theorem m_taken (l:List Ld) (sv:List Bool) (hl:l.length≤1000) (hs:sv.length=l.length):MutCall Try.prog 33 [lL l,bL sv] [] [] (.mp 0) [] [some (.map false [.i .i64] (tkK l sv))]:=by
 refine MutCall.of_bodyG [] Try.func33 rfl (by decide) (by simp[Try.ntmps33]) rfl rfl ?_;intro J hJ;simp only[Try.ntmps33,Try.results33];refine gS fun K hK=>?_;simp -dsimp;apply hK;clear hK K;refine gS fun K hK=>?_;simp -dsimp;apply hK;clear hK K;refine gwp_seq_k fun K1 hK1=>?_;refine gS fun K hK=>?_;simp -dsimp;apply hK;clear hK K;refine gwp_block ?_;refine gwp_prune [1,5,9,10,11] (Or.inr (by simp)) ?_;simp only[zP,Nat.reduceEqDiff,reduceIte];refine gwp_loop_l [1,5,9,10] (α:=Nat) (fun k=>[(11,I k)]) (fun k=>[some (.map false [.i .i64] (tkK (l.take k) (sv.take k)))]) (fun k=>k≤l.length) (fun k=>l.length-k) 0 ?_ ?_ ?_
 ·exact Nat.zero_le _
 ·exact gsub (sub_same (by simp[tkK])) (by simp)
 rintro k k1;simp only[zP,Nat.reduceEqDiff,reduceIte];refine gS fun K hK=>?_;simp -dsimp;apply hK;clear hK K;refine gwp_seq_k fun K2 hK2=>?_;refine gwp_cond rfl (fun hc0=>?_) (fun hc0=>?_)
 ·have hkl:k<l.length:=by simpa using hc0
  obtain⟨f,hf⟩:∃f,l[k]?=some f:=⟨_,List.getElem?_eq_getElem hkl⟩;have wk:=zW k (by omega);have gb:=bAt_get (l:=sv) (k:=k) (by omega);have hsn:=tkK_snoc hf gb;have hne:¬sv=[]:=by intro e;rw[e]at hs;simp at hs;omega
  refine gwp_skip ?_;simp only[zT,reduceIte,Nat.reduceEqDiff];refine hK2 _ _ ?_;refine gwp_prune [1,5,9,10,11] (Or.inr (by simp)) ?_;simp only[zP,Nat.reduceEqDiff,reduceIte];refine gwp_seq_k fun K3 hK3=>?_;refine gwp_block ?_;refine gS fun K hK=>?_;simp -dsimp [hf];apply hK;clear hK K;refine gS fun K hK=>?_;simp -dsimp [gb,hne];refine idxK_intro (bCell (bAt sv k)) (fun _=>by simp[gb]) ?_;simp -dsimp [gb,hne];apply hK;clear hK K;refine gwp_cond rfl (fun hc1=>?_) (fun hc1=>?_)
  ·refine gR fun K hK=>?_;simp -dsimp;apply hK;clear hK K;simp only[zT,reduceIte,Nat.reduceEqDiff];refine hK3 _ _ ?_;refine gwp_prune [1,5,9,10,11] (Or.inr (by simp)) ?_;simp only[zP,Nat.reduceEqDiff,reduceIte];refine gR fun K hK=>?_;simp -dsimp [wk];apply hK;clear hK K;simp only[zT,reduceIte,Nat.reduceEqDiff];have hb:bAt sv k=true:=by simpa using hc1
   exact⟨k+1,by omega,by omega,gsub (sub_rb [some 0] rfl (by simp) (by simp[hsn,tkS,hb])) (by simp)⟩
  ·refine gwp_skip ?_;simp only[zT,reduceIte,Nat.reduceEqDiff];refine hK3 _ _ ?_;refine gwp_prune [1,5,9,10,11] (Or.inr (by simp)) ?_;simp only[zP,Nat.reduceEqDiff,reduceIte];refine gR fun K hK=>?_;simp -dsimp [wk];apply hK;clear hK K;simp only[zT,reduceIte,Nat.reduceEqDiff];have hb:bAt sv k=false:=by simpa using hc1
   exact⟨k+1,by omega,by omega,gsub (sub_rb [some 0] rfl (by simp) (by simp[hsn,tkS,hb])) (by simp)⟩
 ·have hke:k=l.length:=by have hn:¬k<l.length:=(by simpa using hc0);omega
  subst hke;have htk:sv.take l.length=sv:=List.take_of_length_le (by omega);refine gwp_exit ?_;simp only[zT,reduceIte,Nat.reduceEqDiff];refine hK1 _ _ ?_;refine gwp_prune [5] (Or.inr (by simp)) ?_;simp only[zP,Nat.reduceEqDiff,reduceIte];refine gS fun K hK=>?_;simp -dsimp;apply hK;clear hK K;exact gwp_ret ⟨[some 0],rfl,by simp,by simp[htk],by simp,by simp[resP,tupOf]⟩
def retB (g:Gr) (s:Sta) (us:Kvs) (y:Ld):Bool:=decide (y.Units<0)&&decide (sumU us (partOf g s y.At.toNat)<0)
theorem c_ret1 (g:Gr) (s:Sta) (l:List Ld) (sv:List Bool) (v f c:AV) (hnt:NetOk g s) (h12:Few12 g s) (us:Kvs) (hI:IntM us) (hus:∀x,-40≤igt us x∧igt us x≤40) (y:Ld) (h0:0≤y.At) (h1:y.At<g.Nodes):
  PureCall Try.prog 67 (.agg y.cells::ipts [[stg g s l sv v f c],[.mpc false [.i .i64] us]]) (Bo (retB g s us y)):=by
 show PureCall Try.prog 67 [.agg y.cells, .iptr [stg g s l sv v f c], .iptr [.mpc false [.i .i64] us]] (Bo (retB g s us y));have hp:=c_part g s l sv v f c hnt h12 y.At h0 h1;have hbd:=grB_bd hnt.gr;have hpo:=partOf_len g s y.At.toNat;unfold retB;generalize partOf g s y.At.toNat=p at hp hpo ⊢;have hpl:=upN_len p;refine PureCall.of_body Try.func67 rfl (by decide) (by simp[Try.ntmps67]) ?_;simp only[Try.ntmps67,Try.results67];refine aS fun K hK=>?_;simp -dsimp;apply hK;clear hK K;refine aS fun K hK=>?_;simp -dsimp;apply hK;clear hK K;refine awp_seq_k fun K1 hK1=>?_;refine aS fun K hK=>?_;simp -dsimp;refine callK_intro _ (hp) (by simp) ?_;simp -dsimp;apply hK;clear hK K;refine awp_block ?_;refine awp_prune [2,3,5,11,12,13] ?_;simp only[zP,Nat.reduceEqDiff,reduceIte];refine awp_loop_l [2,3,11,12] (α:=Nat) (fun k=>[(5,I (sumU us (p.take k))),(13,I k)]) (fun k=>[some (.els 3 [y.cells])]) (fun k=>k≤p.length) (fun k=>p.length-k) 0 ?_ ?_ ?_
 ·exact Nat.zero_le _
 ·exact sub_same (by simp[sumU,sm])
 rintro k k1;simp only[zP,Nat.reduceEqDiff,reduceIte];refine aS fun K hK=>?_;simp -dsimp;apply hK;clear hK K;refine awp_seq_k fun K2 hK2=>?_;refine awp_cond rfl (fun hc0=>?_) (fun hc0=>?_)
 ·have hkn:k<p.length:=by rw[←hpl];simpa using hc0
  obtain⟨x,hx⟩:∃x,p[k]?=some x:=⟨_,List.getElem?_eq_getElem hkn⟩;have gx:=upN_get hx;have wk:=zW k (by omega);have hsb:=sumU_bd hus (p.take k);have htl:(p.take k).length=k:=by rw[List.length_take];omega
  rw[htl]at hsb;have ws:IntKind.i64.wrap (sumU us (p.take k)+igt us x)=sumU us (p.take k)+igt us x:=wrap_in (by have:=hus x;omega) (by have:=hus x;omega);refine awp_skip ?_;simp only[zT,reduceIte,Nat.reduceEqDiff];refine hK2 _ _ ?_;refine awp_prune [2,3,5,11,12,13] ?_;simp only[zP,Nat.reduceEqDiff,reduceIte];refine awp_seq_k fun K3 hK3=>?_;refine awp_block ?_;refine aS fun K hK=>?_;simp -dsimp [gx];apply hK;clear hK K;refine aR fun K hK=>?_;simp -dsimp [igt_look hI,ws];refine valK_intro (_) (fun hm=>rfl) ?_;simp -dsimp [igt_look hI,ws];apply hK;clear hK K;simp only[zT,reduceIte,Nat.reduceEqDiff];refine hK3 _ _ ?_;refine awp_prune [2,3,5,11,12,13] ?_;simp only[zP,Nat.reduceEqDiff,reduceIte];refine aR fun K hK=>?_;simp -dsimp [wk];apply hK;clear hK K;simp only[zT,reduceIte,Nat.reduceEqDiff];exact⟨k+1,by omega,by omega,sub_rb [some 0] rfl (by simp[sumU_snoc hx]) (by simp)⟩
 ·have hkp:¬k<p.length:=by rw[←hpl];simpa using hc0
  have htp:p.take k=p:=List.take_of_length_le (by omega);rw[htp];refine awp_exit ?_;simp only[zT,reduceIte,Nat.reduceEqDiff];refine hK1 _ _ ?_;refine awp_prune [3,5] ?_;simp only[zP,Nat.reduceEqDiff,reduceIte];refine aS fun K hK=>?_;simp -dsimp;apply hK;clear hK K;exact awp_ret (by simp)
theorem m_returneda (x:Value) (g:Gr) (fe wi:List Bool) (l:List Ld) (sv:List Bool) (vs fs:List Fr) (cuts:List Cu) (hl:l.length≤1000) (hs:sv.length=l.length) (hc:cuts.length≤1000)
  (hld:∀y∈l,0≤y.At∧y.At<g.Nodes) (hnt:NetOk g ⟨fe,wi⟩) (h12:Few12 g ⟨fe,wi⟩) (hus:∀x,-40≤igt (tkK l sv) x∧igt (tkK l sv) x≤40) (r:Bool) (sv2:List Bool) (cuts2:List Cu)
  (ht:∀i:Nat,leL l sv (retB g ⟨fe,wi⟩ (tkK l sv)) l.length=i→r=true∧sv2=sv.set i false∧cuts2=cuts++[(⟨2,i,⟨(ldA l i).Units,1⟩⟩:Cu)])
  (hf:leL l sv (retB g ⟨fe,wi⟩ (tkK l sv)) l.length<0→r=false∧sv2=sv∧cuts2=cuts):
  MutCall Try.prog 43 [.ptr 0 0 0] [hSa (.fptr x 1 0 0) l sv.length vs fs cuts.length,hNa g fe wi] [some (.els 1 (sv.map bCell)),some (.els 1 (fe.map bCell)),some (.els 4 (cuts.map Cu.cells))]
   (Bo r) [hSa (.fptr x 1 0 0) l sv2.length vs fs cuts2.length,hNa g fe wi] [some (.els 1 (sv2.map bCell)),some (.els 1 (fe.map bCell)),some (.els 4 (cuts2.map Cu.cells))]:=by
 refine MutCall.keep (Hk:=[_]) (Hk':=[_]) 0 0 0 (x:=x) (i:=0) (o:=0) ?_ rfl rfl rfl rfl rfl rfl;have hlb:=leL_bd l sv (retB g ⟨fe,wi⟩ (tkK l sv)) l.length;have hle:=c_least (net g ⟨fe,wi⟩) l sv (fL vs) (fL fs) (cL cuts) 67 [[stg g ⟨fe,wi⟩ l sv (fL vs) (fL fs) (cL cuts)],[.mpc false [.i .i64] (tkK l sv)]] (retB g ⟨fe,wi⟩ (tkK l sv)) hl hs
  (fun y hy=>c_ret1 g ⟨fe,wi⟩ l sv (fL vs) (fL fs) (cL cuts) hnt h12 (tkK l sv) (tkK_int l sv) hus y (hld y hy).1 (hld y hy).2)
 generalize leL l sv (retB g ⟨fe,wi⟩ (tkK l sv)) l.length=out at ht hf hlb hle;refine MutCall.of_bodyG [0] Try.func43 rfl (by decide) (by simp[Try.ntmps43]) rfl rfl ?_;intro J hJ;simp only[Try.ntmps43,Try.results43];refine gS fun K hK=>?_;simp -dsimp;apply hK;clear hK K;refine gwp_sd mixed rfl (by decide) rfl rfl fun K hK=>?_;simp -dsimp;refine callK_mutF [] [] [none,none,none,none,none,none,some 0] (m_taken l sv hl hs) (by decide) rfl (by simp) (by simp) rfl (by simp) (by simp) (by simp) ?_;simp -dsimp;refine hK _ _ _ (by decide+kernel) ?_;clear hK K;refine gS fun K hK=>?_;simp -dsimp;refine callK_intro _ (hle) (by simp) ?_;simp -dsimp;apply hK;clear hK K;refine gwp_seq_k fun K1 hK1=>?_;refine gS fun K hK=>?_;simp -dsimp;apply hK;clear hK K;refine gwp_cond rfl (fun hc0=>?_) (fun hc0=>?_)
 ·obtain⟨i,rfl⟩:∃i:Nat,out=i:=⟨out.toNat,by have:0≤out:=(by simpa using hc0);omega⟩;have gl:=ldA_get (l:=l) (k:=i) (by omega);obtain⟨e1,e2,e3⟩:=ht i rfl;subst e1 e2 e3;refine gwp_draw mixed rfl (by decide) rfl rfl fun K hK=>?_;simp -dsimp [gl];refine callK_mut [0,1] [2,3,4] [some 0,some 1,none,none,none,none,none,none,some 2,some 3,some 4] ((m_cuta x g fe wi l sv vs fs cuts 2 i ⟨(ldA l i).Units,1⟩ (by omega) hc).keep (Hk:=[_]) (Hk':=[_]) 0 0 0 (x:=x) (i:=0) (o:=0) rfl rfl rfl rfl rfl rfl) (by decide) rfl (by simp) (by simp) rfl (by simp) ?_;simp -dsimp [gl];refine hK _ _ _ (by decide+kernel) ?_;clear hK K;simp only[zT,reduceIte,Nat.reduceEqDiff];refine hK1 _ _ ?_;refine gwp_prune [0,4] (Or.inr (by simp)) ?_;simp only[zP,Nat.reduceEqDiff,reduceIte];refine gS fun K hK=>?_;simp -dsimp;apply hK;clear hK K;exact gwp_ret ⟨[some 0,some 1,some 8,some 9,some 10],rfl,by simp,by simp,by simp,by simp[resP,tupOf]⟩
 ·obtain⟨e1,e2,e3⟩:=hf (by have:¬0≤out:=(by simpa using hc0);omega);subst e1 e2 e3;refine gwp_skip ?_;simp only[zT,reduceIte,Nat.reduceEqDiff];refine hK1 _ _ ?_;refine gwp_prune [0,4] (Or.inr (by simp)) ?_;simp only[zP,Nat.reduceEqDiff,reduceIte];refine gS fun K hK=>?_;simp -dsimp;apply hK;clear hK K;exact gwp_ret ⟨[some 0,some 1,some 2,some 3,some 4],rfl,by simp,by simp,by simp,by simp at hc0;simp[resP,tupOf];omega⟩
theorem m_returnedb (x:Value) (g:Gr) (fe wi:List Bool) (l:List Ld) (sv:List Bool) (vs fs:List Fr) (cuts:List Cu) (hl:l.length≤1000) (hs:sv.length=l.length) (hc:cuts.length≤1000)
  (hld:∀y∈l,0≤y.At∧y.At<g.Nodes) (hnt:NetOk g ⟨[],wi⟩) (h12:Few12 g ⟨[],wi⟩) (hus:∀x,-40≤igt (tkK l sv) x∧igt (tkK l sv) x≤40) (r:Bool) (sv2:List Bool) (cuts2:List Cu)
  (ht:∀i:Nat,leL l sv (retB g ⟨[],wi⟩ (tkK l sv)) l.length=i→r=true∧sv2=sv.set i false∧cuts2=cuts++[(⟨2,i,⟨(ldA l i).Units,1⟩⟩:Cu)])
  (hf:leL l sv (retB g ⟨[],wi⟩ (tkK l sv)) l.length<0→r=false∧sv2=sv∧cuts2=cuts):
  MutCall Try.prog 43 [.ptr 0 0 0] [hSb (.fptr x 1 0 0) l sv.length vs fs cuts.length,hNb g fe wi] [some (.els 1 (sv.map bCell)),some (.els 4 (cuts.map Cu.cells))]
   (Bo r) [hSb (.fptr x 1 0 0) l sv2.length vs fs cuts2.length,hNb g fe wi] [some (.els 1 (sv2.map bCell)),some (.els 4 (cuts2.map Cu.cells))]:=by
 refine MutCall.keep (Hk:=[_]) (Hk':=[_]) 0 0 0 (x:=x) (i:=0) (o:=0) ?_ rfl rfl rfl rfl rfl rfl;have hlb:=leL_bd l sv (retB g ⟨[],wi⟩ (tkK l sv)) l.length;have hle:=c_least (net g ⟨[],wi⟩) l sv (fL vs) (fL fs) (cL cuts) 67 [[stg g ⟨[],wi⟩ l sv (fL vs) (fL fs) (cL cuts)],[.mpc false [.i .i64] (tkK l sv)]] (retB g ⟨[],wi⟩ (tkK l sv)) hl hs
  (fun y hy=>c_ret1 g ⟨[],wi⟩ l sv (fL vs) (fL fs) (cL cuts) hnt h12 (tkK l sv) (tkK_int l sv) hus y (hld y hy).1 (hld y hy).2)
 generalize leL l sv (retB g ⟨[],wi⟩ (tkK l sv)) l.length=out at ht hf hlb hle;refine MutCall.of_bodyG [0] Try.func43 rfl (by decide) (by simp[Try.ntmps43]) rfl rfl ?_;intro J hJ;simp only[Try.ntmps43,Try.results43];refine gS fun K hK=>?_;simp -dsimp;apply hK;clear hK K;refine gwp_sd mixed rfl (by decide) rfl rfl fun K hK=>?_;simp -dsimp;refine callK_mutF [] [] [none,none,none,none,none,some 0] (m_taken l sv hl hs) (by decide) rfl (by simp) (by simp) rfl (by simp) (by simp) (by simp) ?_;simp -dsimp;refine hK _ _ _ (by decide+kernel) ?_;clear hK K;refine gS fun K hK=>?_;simp -dsimp;refine callK_intro _ (hle) (by simp) ?_;simp -dsimp;apply hK;clear hK K;refine gwp_seq_k fun K1 hK1=>?_;refine gS fun K hK=>?_;simp -dsimp;apply hK;clear hK K;refine gwp_cond rfl (fun hc0=>?_) (fun hc0=>?_)
 ·obtain⟨i,rfl⟩:∃i:Nat,out=i:=⟨out.toNat,by have:0≤out:=(by simpa using hc0);omega⟩;have gl:=ldA_get (l:=l) (k:=i) (by omega);obtain⟨e1,e2,e3⟩:=ht i rfl;subst e1 e2 e3;refine gwp_draw mixed rfl (by decide) rfl rfl fun K hK=>?_;simp -dsimp [gl];refine callK_mut [0,1] [2,3] [some 0,some 1,none,none,none,none,none,some 2,some 3] ((m_cutb x g fe wi l sv vs fs cuts 2 i ⟨(ldA l i).Units,1⟩ (by omega) hc).keep (Hk:=[_]) (Hk':=[_]) 0 0 0 (x:=x) (i:=0) (o:=0) rfl rfl rfl rfl rfl rfl) (by decide) rfl (by simp) (by simp) rfl (by simp) ?_;simp -dsimp [gl];refine hK _ _ _ (by decide+kernel) ?_;clear hK K;simp only[zT,reduceIte,Nat.reduceEqDiff];refine hK1 _ _ ?_;refine gwp_prune [0,4] (Or.inr (by simp)) ?_;simp only[zP,Nat.reduceEqDiff,reduceIte];refine gS fun K hK=>?_;simp -dsimp;apply hK;clear hK K;exact gwp_ret ⟨[some 0,some 1,some 7,some 8],rfl,by simp,by simp,by simp,by simp[resP,tupOf]⟩
 ·obtain⟨e1,e2,e3⟩:=hf (by have:¬0≤out:=(by simpa using hc0);omega);subst e1 e2 e3;refine gwp_skip ?_;simp only[zT,reduceIte,Nat.reduceEqDiff];refine hK1 _ _ ?_;refine gwp_prune [0,4] (Or.inr (by simp)) ?_;simp only[zP,Nat.reduceEqDiff,reduceIte];refine gS fun K hK=>?_;simp -dsimp;apply hK;clear hK K;exact gwp_ret ⟨[some 0,some 1,some 2,some 3],rfl,by simp,by simp,by simp,by simp at hc0;simp[resP,tupOf];omega⟩
end Go.Cur
end
section
namespace Go.Cur
open Go.AM Go.Proofs
def BolM (s:Kvs):Prop:=∀p∈s,∃b,p.2= .bool b
def ibt (s:Kvs) (x:Int):Bool:=match kvGet s (ik x)with|some (.bool b)=>b|_=>false
theorem ibt_look {s:Kvs} (hs:BolM s) (x:Int):(kvGet s (ik x)).getD (.bool false)= .bool (ibt s x):=by
 unfold ibt
 cases h:kvGet s (ik x)with
 |none=>rfl
 |some v=>
  obtain⟨p,hp,e⟩:=kv_in h;obtain⟨n,hn⟩:=hs p hp;rw[←e,hn];rfl
theorem BolM.set {s:Kvs} (hs:BolM s) (x:Int) (b:Bool):BolM (kvSet s (ik x) (.bool b)):=fun p hp=>by
 rcases kvSet_mem hp with rfl|hp
 ·exact⟨b,rfl⟩
 ·exact hs p hp
theorem BolM.nil:BolM []:=fun p hp=>by cases hp
theorem ibt_set (s:Kvs) (x y:Int) (b:Bool):ibt (kvSet s (ik x) (.bool b)) y=if y=x then b else ibt s y:=by
 unfold ibt;rw[kv_get]
 by_cases h:y=x
 ·rw[if_pos (by rw[h]),if_pos h]
 ·rw[if_neg (fun e=>h (ik_inj.1 e)),if_neg h]
@[simp] theorem ibt_nil (x:Int):ibt [] x=false:=rfl
def lowB (bs:Kvs) (y:Ld):Bool:=decide (0<y.Units)&&ibt bs y.At
theorem c_low1 (bs:Kvs) (hb:BolM bs) (y:Ld):PureCall Try.prog 68 (.agg y.cells::ipts [[.mpc false [.i .i64] bs]]) (Bo (lowB bs y)):=by
 show PureCall Try.prog 68 [.agg y.cells, .iptr [.mpc false [.i .i64] bs]] (Bo (lowB bs y));unfold lowB;refine PureCall.of_body Try.func68 rfl (by decide) (by simp[Try.ntmps68]) ?_;simp only[Try.ntmps68,Try.results68];refine aS fun K hK=>?_;simp -dsimp;apply hK;clear hK K;refine aS fun K hK=>?_;simp -dsimp [ibt_look hb];refine valK_intro (_) (fun hm=>rfl) ?_;simp -dsimp [ibt_look hb];apply hK;clear hK K;exact awp_ret (by simp)
theorem m_solve_t (g:Gr) (s:Sta) (us:Kvs) (hnt:NetOk g s) (h12:Few12 g s) (vf:Nat→Fr) (hv:∀p∈partL g s,∃v d,VPart g s us p v d vf):
  MutCall Try.prog 32 [net g s, .mpc false [.i .i64] us] [] [] (.tup [.agg [.row 0 0 g.Nodes.toNat, .row 1 0 g.Feeds.length],Bo true]) []
   [some (.els 2 ((vlA g.Nodes.toNat vf).map Fr.cells)),some (.els 2 ((flA g s vf).map Fr.cells)),some (.els 2 [[.row 0 0 g.Nodes.toNat, .row 1 0 g.Feeds.length]]),some (.els 1 [[Bo true]])]:=by
 have hbd:=grB_bd hnt.gr;obtain⟨N,hnn⟩:∃N:Nat,g.Nodes.toNat=N:=⟨g.Nodes.toNat,rfl⟩;have hn0:0≤g.Nodes:=by omega
 rw[hnn];have hit:=c_iter g s hnt h12;have hc:=c_parts (ntC g (bL s.Feeds) (bL s.Wires));have hcov:=fun k=>partL_all (k:=k) hnt;have hlt:=fun p (hp:p∈partL g s) k (hk:k∈p)=>partL_lt hp hk;rw[hnn]at hcov hlt;have h12':∀p∈partL g s,p.length≤12:=h12;generalize partL g s=L at hit hv hcov hlt h12';have f0:Fits N 17:=fits_of (by omega) (by omega);have f1:Fits g.Feeds.length 17:=fits_of (by omega) (by omega);refine MutCall.of_bodyG [] Try.func32 rfl (by decide) (by simp[Try.ntmps32]) rfl rfl ?_;intro J hJ;simp only[Try.ntmps32,Try.results32];refine gS fun K hK=>?_;simp -dsimp;apply hK;clear hK K;refine gwp_sd mixed rfl (by decide) rfl rfl fun K hK=>?_;simp -dsimp [hn0,hnn,f0,f1];refine hK _ _ _ (by decide+kernel) ?_;clear hK K;refine gwp_seq_k fun K1 hK1=>?_;refine gS fun K hK=>?_;simp -dsimp;refine callK_intro _ (hc) (by simp) ?_;simp -dsimp;apply hK;clear hK K;refine gwp_block ?_;refine gwp_prune [2,3,4,5,6,32] (Or.inr (by simp)) ?_;simp only[zP,Nat.reduceEqDiff,reduceIte];refine gwp_range_s hJ [2,3,4,5,6,32] (fun t=>[some (.els 1 [[net g s]]),some (.els 1 [[.mpc false [.i .i64] us]]),some (.els 2 [[.v (.slice none 0 0), .v (.slice none 0 0)]]),some (.els 1 [[Bo false]]),some (.els 2 ((vlF N vf (L.take t).flatten).map Fr.cells)),some (.els 2 ((flF g s vf 0).map Fr.cells)),some (.els 2 [[.row 4 0 N, .row 5 0 g.Feeds.length]])]) (fun t=>True) rfl (hit) rfl (by simp) (by decide) (by decide) (by decide) (pAV_len L) ?_ ?_ ?_ ?_
 ·trivial
 ·exact sub_rb [some 0,some 1,some 2,some 3,some 4,some 5,some 6] rfl (by simp) (by simp[vlF_nil,flF_zero])
 ·intro n xv hxn hi l1 J1 hJ1;obtain⟨p,hp,rfl⟩:∃p,L[n]?=some p∧pAV p=xv:=by simpa using hxn
  have hpm:=List.mem_of_getElem? hp;obtain⟨v,d,hV⟩:=hv p hpm;have hpl:=upN_len p;have hcall:=hV.call;have hvl:=hV.len;have hp12:=h12' p hpm;have hd0:=hV.d0;have hd1:=hV.d1;simp only[pAV];simp only[List.zip_cons_cons,List.zip_nil_left,List.zip_nil_right,List.cons_append,List.nil_append];refine gR fun K hK=>?_;simp -dsimp;apply hK;clear hK K;simp only[onlyN];intro J2 hJ2;refine gwp_prune [2,3,4,5,6,7,32] (Or.inr (by simp)) ?_;simp only[zP,Nat.reduceEqDiff,reduceIte];refine gwp_block ?_;refine gS fun K hK=>?_;simp -dsimp;refine callK_intro _ (hcall) (by simp) ?_;simp -dsimp;apply hK;clear hK K;refine gwp_seq_k fun K2 hK2=>?_;refine gS fun K hK=>?_;simp -dsimp;apply hK;clear hK K;refine gwp_cond rfl (fun hc0=>?_) (fun hc0=>?_)
  ·simp at hc0
  ·refine gwp_skip ?_;simp only[zT,reduceIte,Nat.reduceEqDiff];refine hK2 _ _ ?_;refine gwp_prune [2,3,4,5,6,7,8,9,32] (Or.inr (by simp)) ?_;simp only[zP,Nat.reduceEqDiff,reduceIte];refine gS fun K hK=>?_;simp -dsimp;apply hK;clear hK K;refine gwp_block ?_;refine gwp_prune [2,3,4,5,6,8,9,32,45,46,47] (Or.inr (by simp)) ?_;simp only[zP,Nat.reduceEqDiff,reduceIte];refine gwp_loop_l [2,3,4,5,6,8,9,32,45,46] (α:=Nat) (fun i=>[(47,I i)]) (fun i=>[some (.els 1 [[net g s]]),some (.els 1 [[.mpc false [.i .i64] us]]),some (.els 2 [[.v (.slice none 0 0), .v (.slice none 0 0)]]),some (.els 1 [[Bo false]]),some (.els 2 ((vlF N vf ((L.take n).flatten++p.take i)).map Fr.cells)),some (.els 2 ((flF g s vf 0).map Fr.cells)),some (.els 2 [[.row 4 0 N, .row 5 0 g.Feeds.length]])]) (fun i=>i≤p.length) (fun i=>p.length-i) 0 ?_ ?_ ?_
   ·exact Nat.zero_le _
   ·exact gsub (sub_rb [some 0,some 1,some 2,some 3,some 4,some 5,some 6] rfl (by simp) (by simp)) (by simp)
   rintro i i1;simp only[zP,Nat.reduceEqDiff,reduceIte];refine gS fun K hK=>?_;simp -dsimp;apply hK;clear hK K;refine gwp_seq_k fun K3 hK3=>?_;refine gwp_cond rfl (fun hc1=>?_) (fun hc1=>?_)
   ·have hil:i<p.length:=by rw[←hpl];simpa using hc1
    obtain⟨k,hk⟩:∃k,p[i]?=some k:=⟨_,List.getElem?_eq_getElem hil⟩;have gk:=upN_get hk;have gv:=at0_nat (l:=v) (k:=i) (by omega);have hkN:=hlt p hpm k (List.mem_of_getElem? hk);have wi:=zW i (by omega);have hnb:=hV.nb _ (List.mem_of_getElem? gv);have hfr:=c_fraction (at0 v (i:Nat)) d hd0 (by omega) (by omega) (by omega);have hfk:=hV.fr i k hk;rw[←hfk]at hfr;have hvls:=vlF_len N vf ((L.take n).flatten++p.take i);have gvl:=vlF_get (vf:=vf) (done:=(L.take n).flatten++p.take i) hkN;have hst:=vlF_set (n:=N) (vf:=vf) (done:=(L.take n).flatten++p.take i) (k:=k);have hpt:p.take (i+1)=p.take i++[k]:=by rw[List.take_add_one,hk];rfl
    rw[List.append_assoc,←hpt]at hst;generalize vlF N vf ((L.take n).flatten++p.take i)=VL at hvls gvl hst ⊢;refine gwp_skip ?_;simp only[zT,reduceIte,Nat.reduceEqDiff];refine hK3 _ _ ?_;refine gwp_prune [2,3,4,5,6,8,9,32,45,46,47] (Or.inr (by simp)) ?_;simp only[zP,Nat.reduceEqDiff,reduceIte];refine gwp_seq_k fun K4 hK4=>?_;refine gwp_block ?_;refine gS fun K hK=>?_;simp -dsimp [gk];apply hK;clear hK K;refine gwp_draw mixed rfl (by decide) rfl rfl fun K hK=>?_;simp -dsimp [gv,hkN,hvls,gvl];refine callK_intro _ (hfr) (by simp) ?_;simp -dsimp [gv,hkN,hvls,gvl];refine hK _ _ _ (by decide+kernel) ?_;clear hK K;simp only[zT,reduceIte,Nat.reduceEqDiff];refine hK4 _ _ ?_;refine gwp_prune [2,3,4,5,6,8,9,32,45,46,47] (Or.inr (by simp)) ?_;simp only[zP,Nat.reduceEqDiff,reduceIte];refine gR fun K hK=>?_;simp -dsimp [wi];apply hK;clear hK K;simp only[zT,reduceIte,Nat.reduceEqDiff];exact⟨i+1,by omega,by omega,gsub (sub_rb [some 0,some 1,some 2,some 3,some 4,some 5,some 6] rfl (by simp) (by simp[←hst,List.map_set])) (by simp)⟩
   ·have hil:¬i<p.length:=by rw[←hpl];simpa using hc1
    have hpt:p.take i=p:=List.take_of_length_le (by omega);rw[hpt];refine gwp_exit ?_;simp only[thenA,inBlockA,roundQ,reduceIte,Nat.reduceEqDiff,eq_self];have hfl:(L.take (n+1)).flatten=(L.take n).flatten++p:=by rw[List.take_add_one,hp,List.flatten_append];simp
    exact⟨trivial,sub_rb [some 0,some 1,some 2,some 3,some 4,some 5,some 6] rfl (by simp) (by simp[hfl])⟩
 ·intro hdone;simp only[zT,reduceIte,Nat.reduceEqDiff];refine hK1 _ _ ?_;refine gwp_prune [2,4,5,6] (Or.inr (by simp)) ?_;simp only[zP,Nat.reduceEqDiff,reduceIte];refine gwp_seq_k fun K5 hK5=>?_;refine gS fun K hK=>?_;simp -dsimp;apply hK;clear hK K;refine gwp_block ?_;refine gwp_prune [2,4,5,6,67,68,69] (Or.inr (by simp)) ?_;simp only[zP,Nat.reduceEqDiff,reduceIte];refine gwp_loop_l [2,4,5,6,67,68] (α:=Nat) (fun i=>[(69,I i)]) (fun i=>[some (.els 1 [[net g s]]),some (.els 1 [[.mpc false [.i .i64] us]]),some (.els 2 [[.v (.slice none 0 0), .v (.slice none 0 0)]]),some (.els 1 [[Bo false]]),some (.els 2 ((vlA N vf).map Fr.cells)),some (.els 2 ((flF g s vf i).map Fr.cells)),some (.els 2 [[.row 4 0 N, .row 5 0 g.Feeds.length]])]) (fun i=>i≤g.Feeds.length) (fun i=>g.Feeds.length-i) 0 ?_ ?_ ?_
  ·exact Nat.zero_le _
  ·have hva:vlF N vf L.flatten=vlA N vf:=vlF_all fun k hk=>hcov k hk;rw[hva];exact gsub (sub_rb [some 0,some 1,some 2,some 3,some 4,some 5,some 6] rfl (by simp) (by simp)) (by simp)
  rintro i i1;simp only[zP,Nat.reduceEqDiff,reduceIte];refine gS fun K hK=>?_;simp -dsimp;apply hK;clear hK K;refine gwp_seq_k fun K6 hK6=>?_;refine gwp_cond rfl (fun hc2=>?_) (fun hc2=>?_)
  ·have hil:i<g.Feeds.length:=by simpa using hc2
   have hfi:g.Feeds[i]?=some (fdI g i):=by have:=fdI_get (g:=g) (i:=(i:Int)) (by omega) (by omega);rwa [Int.toNat_natCast]at this
   have hfb:=hnt.feeds _ (List.mem_of_getElem? hfi);have wi:=zW i (by omega);have hff:ffF g s vf i=if bAt s.Feeds i=true∧0<(fdI g i).Volts*(vf (fdI g i).At.toNat).Den-(vf (fdI g i).At.toNat).Num then red ((fdI g i).Siem*((fdI g i).Volts*(vf (fdI g i).At.toNat).Den-(vf (fdI g i).At.toNat).Num)) (vf (fdI g i).At.toNat).Den else⟨0,1⟩:=rfl;obtain⟨kA,hkA⟩:∃kA:Nat,kA=(fdI g i).At.toNat:=⟨_,rfl⟩;have hkN:kA<N:=by omega
   have hA0:0≤(fdI g i).At:=hfb.1;have gvv:=vlA_get (vf:=vf) hkN;have hvb:0<(vf kA).Den∧(vf kA).Den≤100000000000000∧(vf kA).Num.natAbs≤300000000000000000:=by
    obtain⟨p,hp,hkp⟩:=List.mem_flatten.1 (hcov kA hkN);obtain⟨v,d,hV⟩:=hv p hp;obtain⟨j,hj⟩:=List.getElem?_of_mem hkp;have hjl:=(List.getElem?_eq_some_iff.1 hj).1;have hd0:=hV.d0;have hd1:=hV.d1;have hr:=red_bd (n:=at0 v (j:Nat)) hd0;have hgv:=at0_nat (l:=v) (k:=j) (by rw[hV.len];exact hjl);have hnb:=hV.nb _ (List.mem_of_getElem? hgv);rw[hV.fr j kA hj];omega
   have gfe:=flF_get (s:=s) (vf:=vf) (k:=i) hil;have hfll:=flF_len g s vf i;have hfst:=flF_set (g:=g) (s:=s) (vf:=vf) (k:=i);have hsf:=hnt.sf;have gsf:=bAt_get (l:=s.Feeds) (k:=i) (by omega);rw[←hkA]at hff;generalize fdI g i=f at hfi hfb hff hkA hA0;generalize vf kA=vk at gvv hvb hff;have hvd:0≤f.Volts*vk.Den∧f.Volts*vk.Den≤100000000000000000:=⟨Int.mul_nonneg (by omega) (by omega),Int.le_trans (Int.mul_le_mul hfb.2.2.2.1 hvb.2.1 (by omega) (by omega)) (by omega)⟩;have w1:IntKind.i64.wrap (f.Volts*vk.Den)=f.Volts*vk.Den:=wrap_in (by omega) (by omega);have w2:IntKind.i64.wrap (f.Volts*vk.Den-vk.Num)=f.Volts*vk.Den-vk.Num:=wrap_in (by omega) (by omega);generalize hD:f.Volts*vk.Den-vk.Num=D at w2 hff;have hsd:f.Siem*D≤4000000000000000000∧-4000000000000000000≤f.Siem*D:=by
    rcases(by omega:f.Siem=1∨f.Siem=2∨f.Siem=3∨f.Siem=4)with h|h|h|h<;>rw[h]<;>omega
   have w3:IntKind.i64.wrap (f.Siem*D)=f.Siem*D:=wrap_in (by omega) (by omega);have hfr:=c_fraction (f.Siem*D) vk.Den hvb.1 (by omega) (by omega) (by omega);refine gwp_skip ?_;simp only[zT,reduceIte,Nat.reduceEqDiff];refine hK6 _ _ ?_;refine gwp_prune [2,4,5,6,67,68,69] (Or.inr (by simp)) ?_;simp only[zP,Nat.reduceEqDiff,reduceIte];refine gwp_seq_k fun K7 hK7=>?_;refine gwp_block ?_;refine gS fun K hK=>?_;simp -dsimp [hfi];apply hK;clear hK K;refine gS fun K hK=>?_;simp -dsimp [hil,hfll,gfe];apply hK;clear hK K;refine gS fun K hK=>?_;simp -dsimp [←hkA,hkN,gvv,hA0];apply hK;clear hK K;refine gS fun K hK=>?_;simp -dsimp [w1,hD,w2];apply hK;clear hK K;refine gS fun K hK=>?_;simp -dsimp [gsf];apply hK;clear hK K;refine gwp_cond rfl (fun hc3=>?_) (fun hc3=>?_)
   ·refine gwp_draw mixed rfl (by decide) rfl rfl fun K hK=>?_;simp -dsimp [hil,hfll,w3];refine callK_intro _ (hfr) (by simp) ?_;simp -dsimp [hil,hfll,w3];refine hK _ _ _ (by decide+kernel) ?_;clear hK K;simp only[zT,reduceIte,Nat.reduceEqDiff];refine hK7 _ _ ?_;refine gwp_prune [2,4,5,6,67,68,69] (Or.inr (by simp)) ?_;simp only[zP,Nat.reduceEqDiff,reduceIte];refine gR fun K hK=>?_;simp -dsimp [wi];apply hK;clear hK K;simp only[zT,reduceIte,Nat.reduceEqDiff];have hcd:bAt s.Feeds i=true∧0<D:=by simpa using hc3
    rw[if_pos hcd]at hff;rw[hff]at hfst;exact⟨i+1,by omega,by omega,gsub (sub_rb [some 0,some 1,some 2,some 3,some 4,some 5,some 6] rfl (by simp) (by simp[←hfst,List.map_set])) (by simp)⟩
   ·refine gwp_skip ?_;simp only[zT,reduceIte,Nat.reduceEqDiff];refine hK7 _ _ ?_;refine gwp_prune [2,4,5,6,67,68,69] (Or.inr (by simp)) ?_;simp only[zP,Nat.reduceEqDiff,reduceIte];refine gR fun K hK=>?_;simp -dsimp [wi];apply hK;clear hK K;simp only[zT,reduceIte,Nat.reduceEqDiff];have hcd:¬(bAt s.Feeds i=true∧0<D):=by intro h;simp[h.1,h.2]at hc3
    rw[if_neg hcd]at hff;rw[hff]at hfst;exact⟨i+1,by omega,by omega,gsub (sub_rb [some 0,some 1,some 2,some 3,some 4,some 5,some 6] rfl (by simp) (by simp[←hfst,List.map_set])) (by simp)⟩
  ·have hil:¬i<g.Feeds.length:=by simpa using hc2
   have hie:i=g.Feeds.length:=by omega
   have hvN:(vlA N vf).length=N:=by simp[vlA]
   have hfN:(flA g s vf).length=g.Feeds.length:=by simp[flA]
   have htv:List.take N ((vlA N vf).map Fr.cells)=(vlA N vf).map Fr.cells:=List.take_of_length_le (by simp;omega);have htf:List.take g.Feeds.length ((flA g s vf).map Fr.cells)=(flA g s vf).map Fr.cells:=List.take_of_length_le (by simp;omega);rw[hie,flF_all];refine gwp_exit ?_;simp only[zT,reduceIte,Nat.reduceEqDiff];refine hK5 _ _ ?_;refine gwp_prune [4,5,6] (Or.inr (by simp)) ?_;simp only[zP,Nat.reduceEqDiff,reduceIte];refine gS fun K hK=>?_;simp -dsimp;apply hK;clear hK K;exact gwp_ret ⟨[some 4,some 5,some 2,some 3],rfl,by simp,by simp,by simp,by simp[resP,tupOf]⟩
end Go.Cur
end
section
namespace Go.AM
def upAV (n:Nat):AV→AV
 | .v x=> .v x
 | .row i k m=> .row (n+i) k m
 | .ptr i k o=> .ptr (n+i) k o
 | .mp i=> .mp (n+i)
 | .agg cs=> .agg (cs.map fun c=>match c with| .v x=> .v x| .row i k m=> .row (n+i) k m| .ptr i k o=> .ptr (n+i) k o| .mp i=> .mp (n+i)|_=> .any)
 |_=> .any
def upRow (n:Nat):ARow→ARow
 | .els sz es=> .els sz (es.map fun e=>e.map (upAV n))
 | .map ag kts kvs=> .map ag kts kvs
 | .itr ag kts left cur=> .itr ag kts left cur
def upρ (n:Nat) (ρ ρ1:Nat→Option Loc) (r:Nat):Option Loc:=if r<n then ρ r else ρ1 (r-n)
theorem upρ_new (n:Nat) (ρ ρ1:Nat→Option Loc) (i:Nat):upρ n ρ ρ1 (n+i)=ρ1 i:=by
 unfold upρ;rw[if_neg (by omega),Nat.add_sub_cancel_left]
theorem up_rep {w:World} {ρ ρ1:Nat→Option Loc} {L1 L:Nat→Prop} {S1 S:Nat→Prop} {n:Nat} (hL:∀r,L1 r→L (n+r)) {x:AV} {y:Value} (h:RepV w S1 ρ1 L1 x y):RepV w S (upρ n ρ ρ1) L (upAV n x) y:=by
 have row:∀{i k m:Nat} {y:Value},RepV w S1 ρ1 L1 (.row i k m) y→RepV w S (upρ n ρ ρ1) L (.row (n+i) k m) y:=by
  intro i k m y h
  cases h with
  |pure _ _ h=>cases h
  |row _ _ _ _ h1 h2 h3=>exact .row _ _ _ _ (hL _ h1) h2 (fun l hl=>h3 l (upρ_new n ρ ρ1 i▸hl))
 have ptr:∀{i k m:Nat} {y:Value},RepV w S1 ρ1 L1 (.ptr i k m) y→RepV w S (upρ n ρ ρ1) L (.ptr (n+i) k m) y:=by
  intro i k m y h
  cases h with
  |pure _ _ h=>cases h
  |ptr _ _ _ _ h1 h2 h3=>exact .ptr _ _ _ _ (hL _ h1) h2 (fun l hl=>h3 l (upρ_new n ρ ρ1 i▸hl))
 have mp:∀{i:Nat} {y:Value},RepV w S1 ρ1 L1 (.mp i) y→RepV w S (upρ n ρ ρ1) L (.mp (n+i)) y:=by
  intro i y h
  cases h with
  |pure _ _ h=>cases h
  |mp _ _ h1 h2 h3=>exact .mp _ _ (hL _ h1) h2 (fun l hl=>h3 l (upρ_new n ρ ρ1 i▸hl))
 cases x with
 |v c=>rw[exact_v h];exact .pure _ _ (.v _)
 |row i k m=>exact row h
 |ptr i k m=>exact ptr h
 |mp i=>exact mp h
 | agg cs=>
  obtain⟨vs,rfl,hl,hc⟩:=agg_cells h;refine .agg _ vs (by simpa using hl) (fun u hu=>?_) (fun i c u h1 h2=>?_)
  ·obtain⟨i,hi,rfl⟩:=List.getElem_of_mem hu;exact(hc i _ _ (List.getElem?_eq_getElem (by omega)) (List.getElem?_eq_getElem hi)).1
  ·simp only[List.getElem?_map,Option.map_eq_some_iff]at h1;obtain⟨c',h1,rfl⟩:=h1;have h3:=(hc i c' u h1 h2).2
   cases c' with
   |v c=>rw[exact_v h3];exact .pure _ _ (.v _)
   |row i k m=>exact row h3
   |ptr i k m=>exact ptr h3
   |mp i=>exact mp h3
   |_=>exact .pure _ _ (.any _)
 |_=>exact .pure _ _ (.any _)
theorem hget_app (H H':Hp) (r:Nat):hget (H++H') r=if r<H.length then hget H r else hget H' (r-H.length):=by
 rw[hget_eq,hget_eq,hget_eq]
 split
 ·rename_i h;rw[List.getElem?_append_left h]
 ·rename_i h;rw[List.getElem?_append_right (by omega)]
theorem gwp_peekN {P:Program} {ro:Option Nat} {J:Jt} {nt:Nat} {kp0:List Nat} {T:Tm} {H:Hp} {Q:Exit→Tm→Hp→Prop} {x y:Code} (us kp:List Nat) (Tf:Tm) (hT:subTF H [] T Tf) (hkk:∀t∈kp0,t∈kp)
  (R:Tm→Hp→Prop) (hin:∀J1,JOk J1→GWp P ro J1 nt kp x Tf [] (fun e T' H'=>e= .normal∧noItr H'=true∧R T' H'))
  (hout:∀T' H',R T' H'→look (us.map (fun t=>(t,upAV H.length (look T' t)))++kp.map (fun t=>(t,look T t))) 999999=look T 999999∧
   GWp P ro J nt kp0 y (us.map (fun t=>(t,upAV H.length (look T' t)))++kp.map (fun t=>(t,look T t))) (H++H'.map (Option.map (upRow H.length))) Q):GWp P ro J nt kp0 (.seq x y) T H Q:=by
 intro hJ kv a w ⟨⟨S0,ρ,L,hc,hL,hj,hm⟩,hk⟩;have hf:=core_renF (T':=Tf) (H':=[]) [] (by intro i j q h;simp at h) hT rfl hc
 let B1:Nat→Prop:=fun b=>w.heap.size≤b
 have hJ1:JOk (thawJ B1 S0 w J.mark):=thawJ_ok fun b h=>h;have hs1:SG (thawJ B1 S0 w J.mark) nt kp (fun t=>a.tmps.getD t undef) Tf [] a w:=by
  refine⟨⟨S0,renρ ρ [],fun r=>r<([]:List (Option Nat)).length,hf,fun r h=>by simp at h,⟨rfl,Ext.refl _ _,?_⟩,hm⟩,fun _ _=>rfl⟩;rintro b ⟨r,l,h1,_⟩;obtain⟨q,h,_⟩:=renρ_spec h1;simp at h
 refine wpIn_seq (wpIn_mono (hin _ hJ1 hJ1 _ a w hs1) ?_);rintro e a' w' ⟨T',H',⟨rfl,hni,hR⟩,⟨⟨S0',ρ1,L1,hc1,hL1,⟨rfl,hx1,ho1⟩,hm1⟩,hk1⟩⟩;obtain⟨hy,ho⟩:=hout T' H' hR;have hnr:∀{r l},ρ r=some l→r<H.length:=fun h=>hL _ (hc.wf.given _ _ h);have hold:∀{r l b},ρ r=some l→l.b=some b→b<w.heap.size:=fun h1 h2=>(hc.wf.own _ _ _ h1 h2).1;have hnew:∀{r l b},ρ1 r=some l→l.b=some b→w.heap.size≤b:=fun h1 h2=>ho1 _ ⟨_,_,h1,h2⟩;have hcase:∀{r l},upρ H.length ρ ρ1 r=some l→(r<H.length∧ρ r=some l)∨(H.length≤r∧ρ1 (r-H.length)=some l):=by
  intro r l h;unfold upρ at h
  split at h
  ·rename_i h1;exact Or.inl ⟨h1,h⟩
  ·rename_i h1;exact Or.inr ⟨by omega,h⟩
 have hS:∀b,b<w.heap.size→¬Sx S0' ρ b→w'.heap[b]?=w.heap[b]?∧¬Sx S0' (upρ H.length ρ ρ1) b:=by
  intro b hb hn;refine⟨hx1.block b hb (by show¬w.heap.size≤b;omega),?_⟩;rintro(h|⟨r,l,h1,h2⟩)
  ·exact hn (Or.inl h)
  ·rcases hcase h1 with⟨_,h3⟩|⟨_,h3⟩
   ·exact hn (Or.inr ⟨r,l,h3,h2⟩)
   ·have:=hnew h3 h2;omega
 have hρ:∀r l,L r→upρ H.length ρ ρ1 r=some l→ρ r=some l:=by
  intro r l hr h;unfold upρ at h
  rwa [if_pos (hL r hr)]at h
 have hLo:∀r,L r→r<(H++H'.map (Option.map (upRow H.length))).length:=fun r hr=>by have:=hL r hr;rw[List.length_append];omega
 have hLn:∀r,L1 r→H.length+r<(H++H'.map (Option.map (upRow H.length))).length:=fun r hr=>by have:=hL1 r hr;rw[List.length_append,List.length_map];omega
 refine ho hJ kv a' w' ⟨⟨S0',upρ H.length ρ ρ1,fun r=>r<(H++H'.map (Option.map (upRow H.length))).length,⟨⟨?_,fun r l b h1 h2=>?_,fun r l h1=>?_,hc1.wf.low,fun _ _=>trivial⟩,hc1.size,rfl,?_,?_,?_⟩,fun r h=>h,?_,hm1⟩,fun t ht=>(hk1 t (hkk t ht)).trans (hk t ht)⟩
 ·intro r r' l l' b h1 h2 k1 k2
  rcases hcase h1 with⟨_,h3⟩|⟨_,h3⟩<;>rcases hcase h2 with⟨_,h4⟩|⟨_,h4⟩
  ·exact hc.wf.inj r r' l l' b h3 h4 k1 k2
  ·have:=hold h3 k1;have:=hnew h4 k2;omega
  ·have:=hold h4 k2;have:=hnew h3 k1;omega
  ·have:=hc1.wf.inj _ _ l l' b h3 h4 k1 k2;omega
 ·rcases hcase h1 with⟨_,h3⟩|⟨_,h3⟩
  ·obtain⟨p1,p2,p3⟩:=hc.wf.own r l b h3 h2;exact⟨Nat.lt_of_lt_of_le p1 hx1.size,p2,p3⟩
  ·obtain⟨p1,p2,p3⟩:=hc1.wf.own _ l b h3 h2;exact⟨p1,p2,p3⟩
 ·rcases hcase h1 with⟨h,_⟩|⟨h,h3⟩
  ·show r<_;rw[List.length_append];omega
  ·have:=hLn _ (hc1.wf.given _ _ h3);show r<_;omega
 ·have gen:∀(l:Tm),(∀p∈l,RepV w' (Sx S0' (upρ H.length ρ ρ1)) (upρ H.length ρ ρ1) (fun r=>r<(H++H'.map (Option.map (upRow H.length))).length) p.2 (a'.tmps.getD p.1 undef))→∀t,RepV w' (Sx S0' (upρ H.length ρ ρ1)) (upρ H.length ρ ρ1) (fun r=>r<(H++H'.map (Option.map (upRow H.length))).length) (look l t) (a'.tmps.getD t undef):=by
   intro l
   induction l with
   |nil=>intro _ t;exact .pure _ _ (.any _)
   |cons p l ih=>
    intro h t;obtain⟨i,x⟩:=p;simp only[look]
    split
    ·rename_i e;subst e;exact h (_,x) (by simp)
    ·exact ih (fun p hp=>h p (by simp[hp])) t
  refine gen _ fun p hp=>?_;rw[List.mem_append]at hp
  rcases hp with hp|hp
  ·obtain⟨t,_,rfl⟩:=List.mem_map.1 hp;exact up_rep hLn (hc1.tmps t)
  ·obtain⟨t,ht,rfl⟩:=List.mem_map.1 hp;show RepV _ _ _ _ (look T t) (a'.tmps.getD t undef);rw[hk1 t ht];exact(hc.tmps t).ext hx1.size hS hLo hρ
 ·intro r row hr;rw[hget_app]at hr
  split at hr
  ·rename_i hrl;obtain⟨l,hl,hrow⟩:=hc.rows r row hr;refine⟨l,by unfold upρ;rw[if_pos hrl];exact hl,hrow.ext hx1.size hS hLo hρ (fun b hb=>?_)⟩;exact hx1.block b (hold hl hb) (by have:=hold hl hb;show¬w.heap.size≤b;omega)
  ·rename_i hrl;rw[hget_map]at hr
   split at hr
   ·rename_i q hq;obtain⟨row1,e1,rfl⟩:=Option.map_eq_some_iff.1 hr;have h1:hget H' (r-H.length)=some row1:=by rw[hget_eq,hq];exact e1
    obtain⟨l,hl,hrow⟩:=hc1.rows _ row1 h1;refine⟨l,by unfold upρ;rw[if_neg hrl];exact hl,?_⟩
    cases row1 with
    |map ag kts kvs=>exact hrow
    |itr ag kts left cur=>exact(noItr_spec hni _ _ _ _ _ h1).elim
    |els sz es=>
     obtain⟨k1,k2,k3,k4⟩:=hrow;refine⟨k1,?_,fun hb=>by rw[k3 hb];rfl,fun b hb=>?_⟩
     ·intro e he;simp only[List.mem_map]at he;obtain⟨e',he',rfl⟩:=he;simpa using k2 e' he'
     ·obtain⟨c,t,q1,q2,q3,q4⟩:=k4 b hb;refine⟨c,t,q1,q2,by simpa using q3,fun i av hi=>?_⟩;rw[←List.map_flatten]at hi;simp only[List.getElem?_map,Option.map_eq_some_iff]at hi;obtain⟨av0,hi,rfl⟩:=hi;obtain⟨x,p1,p2,p3⟩:=q4 i av0 hi;exact⟨x,p1,p2,up_rep hLn p3⟩
   ·cases hr
 ·intro r hr;rw[hget_app]at hr;unfold upρ
  split at hr
  ·rename_i hrl;rw[if_pos hrl];exact hc.dead r hr
  ·rename_i hrl;rw[if_neg hrl];refine hc1.dead _ ?_;rw[hget_map]at hr;rw[hget_eq]
   split at hr
   ·rename_i q hq;rw[hq];simpa using hr
   ·rename_i hq;rw[hq];rfl
 ·rw[hy];refine hJ _ _ _ _ _ _ hj hc.wf.low hc.owned (hx1.mono fun b hb h=>absurd hb (by show¬b<w.heap.size;exact Nat.not_lt.2 h)) ?_;rintro b ⟨r,l,h1,h2⟩
  rcases hcase h1 with⟨_,h3⟩|⟨_,h3⟩
  ·exact⟨Nat.lt_of_lt_of_le (hold h3 h2) hx1.size,Or.inl ⟨r,l,h3,h2⟩⟩
  ·exact⟨(hc1.wf.own _ l b h3 h2).1,Or.inr (hnew h3 h2)⟩
theorem gwp_thawE {P:Program} {ro:Option Nat} {J:Jt} {nt:Nat} {kp0:List Nat} {T:Tm} {H:Hp} {Q:Exit→Tm→Hp→Prop} {x b:Code} (gs us kp:List Nat) (Tf:Tm) (Hf:Hp) (hlt:∀r∈gs,r<H.length) (hnd:gs.Nodup) (hT:subTF H (gs.map some) T Tf) (hH:renHF H (gs.map some)=Hf) (hkk:∀t∈kp0,t∈kp)
  (R:Tm→Hp→Prop) (hin:∀J1,JOk J1→GWp P ro J1 nt kp x Tf Hf (fun e T' H'=>e= .normal∧GWp P ro J1 nt kp b T' H' (fun e T' H'=>e= .normal∧noItr H'=true∧R T' H')))
  (hout:∀T' H',R T' H'→look (thawT gs us kp H.length T T') 999999=look T 999999∧Q .normal (thawT gs us kp H.length T T') (thawH gs H H')):GWp P ro J nt kp0 (.seq x b) T H Q:=by
 intro hJ kv a w hs;obtain⟨J1,hJ1,hs1,back⟩:=thaw_core hJ hs gs us kp Tf Hf hlt hnd hT hH hkk;refine wpIn_seq (wpIn_mono (hin J1 hJ1 hJ1 _ a w hs1) ?_);rintro e a1 w1 ⟨T1,H1,⟨rfl,hb⟩,s1⟩;refine wpIn_mono (hb hJ1 _ a1 w1 s1) ?_;rintro e a' w' ⟨T',H',⟨rfl,hni,hR⟩,s⟩;obtain⟨hy,ho⟩:=hout T' H' hR;exact⟨_,_,ho,back T' H' a' w' hni s hy⟩
theorem MutCall.pure {P:Program} {f:FuncId} {args:List AV} {res res':AV} {Hn:Hp} (h:MutCall P f args [] [] res [] Hn) (e:frz (hget Hn) 6 res=res'):PureCall P f args res':=by
 subst e;obtain⟨h1,_,h3⟩:=h;refine Or.inl ⟨h1,fun S0 w vs hlow hl hrep=>?_⟩;have hh:Held S0 w (fun _=>none) ([]++[]):=⟨⟨(by intro r r' l l' b h;cases h),(by intro r l b h;cases h),(by intro r l h;cases h),hlow,fun _ _=>trivial⟩,fun r row hr=>by cases r<;>simp[hget]at hr,fun r _=>rfl⟩;have hsx:∀b,Sx S0 (fun _=>none) b→S0 b:=by
  rintro b (h|⟨r,l,h1,_⟩)
  ·exact h
  ·cases h1
 refine(h3 S0 w _ vs hh hl fun i c x hc hx=> .pure _ _ ((hrep i c x hc hx).ext (Nat.le_refl _) fun b _ hn=>⟨rfl,fun k=>hn (hsx b k)⟩)).mono ?_;rintro en w' ⟨v,ρ',rfl,hh',hr,_,hfresh,hx⟩;refine⟨v,rfl,frz_repS hh'.wf (S':=S0) (fun b hn k=>hn (Or.inl k)) (fun r l b row _ hl hb k=>(hh'.wf.own r l b hl hb).2.1 k) 6 res v (fun r _ row hr=>hh'.rows r row hr) hr,hx.mono ?_⟩;rintro b _ ⟨r,l,h1,_⟩
 cases h1
end Go.AM
end
section
namespace Go.Cur
open Go.AM Go.Proofs
def mask0 (P:Part) (m:Nat):Nat:=((List.range (2^m)).find? fun a=>decide (1≤a)&&fitB P m a).getD 0
abbrev ptO (g:Gr) (s:Sta) (us:Kvs) (p:List Nat):Part:=Pt g (onW g.Wires s.Wires) us p (feedL g s (upN p)) (feedL g s (upN p)).length
def pvol (g:Gr) (s:Sta) (us:Kvs) (p:List Nat):List Int×Int×Bool:=
 if feedL g s (upN p)=[]then(zerosL p.length,1,noneU us p)
 else if sumU us p<0 then([],0,false)
 else if sumU us p=0 then
  (p.map fun k=>(ptO g s us p).num0 (p.getD 0 0) k+shiftL ((ptO g s us p).V 0*(ptO g s us p).den0 (p.getD 0 0)-(ptO g s us p).num0 (p.getD 0 0) ((ptO g s us p).p 0)) ((List.range (feedL g s (upN p)).length).map fun b=>(ptO g s us p).V b*(ptO g s us p).den0 (p.getD 0 0)-(ptO g s us p).num0 (p.getD 0 0) ((ptO g s us p).p b)),
   (ptO g s us p).den0 (p.getD 0 0),true)
 else(p.map fun k=>(ptO g s us p).num (bitS (mask0 (ptO g s us p) (feedL g s (upN p)).length)) k,(ptO g s us p).den (bitS (mask0 (ptO g s us p) (feedL g s (upN p)).length)),true)
theorem mask_of (S:Nat→Bool):∀m,∃a,a<2^m∧∀b,b<m→a.testBit b=S b
 |0=>⟨0,by simp,fun b hb=>by omega⟩
 | m+1=>by
  obtain⟨a,h1,h2⟩:=mask_of S m
  cases h:S m with
  |false=>
   refine⟨a,by rw[Nat.pow_succ];omega,fun b hb=>?_⟩
   rcases Nat.lt_succ_iff_lt_or_eq.1 hb with hb|rfl
   ·exact h2 b hb
   ·rw[h];exact Nat.testBit_lt_two_pow h1
  |true=>
   refine⟨a|||2^m,Nat.or_lt_two_pow (by rw[Nat.pow_succ];omega) (Nat.pow_lt_pow_right (by omega) (by omega)),fun b hb=>?_⟩;rw[Nat.testBit_or,Nat.testBit_two_pow]
   rcases Nat.lt_succ_iff_lt_or_eq.1 hb with hb|rfl
   ·rw[h2 b hb,decide_eq_false (by omega),Bool.or_false]
   ·rw[h];simp
theorem fit_iff {P:Part} {m a:Nat} (hfs:P.fs=List.range m) (ha:∃b,b<m∧a.testBit b=true):fitB P m a=true↔Fits_ P (bitS a):=by
 unfold fitB Fits_;rw[hfs,List.all_eq_true];constructor
 ·intro h;refine⟨by obtain⟨b,hb,h⟩:=ha;exact⟨b,List.mem_range.2 hb,h⟩,fun b hb=>?_⟩;have:=h b hb;unfold bitS at this ⊢;constructor
  ·intro e;rw[if_pos e]at this;have:=of_decide_eq_true this;omega
  ·intro e;rw[if_neg (by simp[e])]at this;have:=of_decide_eq_true this;omega
 ·rintro⟨_,h⟩ b hb;have:=h b hb;unfold bitS at this ⊢
  cases e:a.testBit b with
  |true=>have:=this.1 e;simp;omega
  |false=>have:=this.2 e;simp;omega
theorem bit_ex {a m:Nat} (h1:1≤a) (h2:a<2^m):∃b,b<m∧a.testBit b=true:=by
 obtain⟨b,hb⟩:=Nat.exists_testBit_of_ne_zero (x:=a) (by omega);refine⟨b,?_,hb⟩
 rcases Nat.lt_or_ge b m with h|h
 ·exact h
 ·rw[Nat.testBit_lt_two_pow (Nat.lt_of_lt_of_le h2 (Nat.pow_le_pow_right (by omega) h))]at hb
  cases hb
theorem mask0_ok {P:Part} (ho:P.Ok) {m:Nat} (hfs:P.fs=List.range m) (hm:m≠0) (hsum:0<sm P.u P.ns):
  1≤mask0 P m∧mask0 P m<2^m∧fitB P m (mask0 P m)=true∧∀a,1≤a→a<mask0 P m→fitB P m a=false:=by
 obtain⟨S,hS⟩:=exists_fit ho hsum (by rw[hfs];intro e;have:=congrArg List.length e;simp at this;exact hm this);obtain⟨a,ha,hb⟩:=mask_of S m;obtain⟨b0,hb0,hSb⟩:=hS.1;rw[hfs,List.mem_range]at hb0;have hbit:∃b,b<m∧a.testBit b=true:=⟨b0,hb0,by rw[hb b0 hb0,hSb]⟩;have ha1:1≤a:=by
  rcases Nat.eq_zero_or_pos a with h|h
  ·subst h;obtain⟨b,_,h⟩:=hbit;simp at h
  ·exact h
 have hnc:=num_congr (P:=P) (S:=S) (S':=bitS a) fun b hb'=>by rw[hfs,List.mem_range]at hb';exact(hb b hb').symm
 have hfit:fitB P m a=true:=by
  rw[fit_iff hfs hbit];refine⟨⟨b0,by rw[hfs];exact List.mem_range.2 hb0,by show a.testBit b0=true;rw[hb b0 hb0,hSb]⟩,fun b hb'=>?_⟩;have h:=hS.2 b hb';rw[hnc.1,hnc.2]at h;rw[hfs,List.mem_range]at hb';rw[show bitS a b=S b from hb b hb'];exact h
 cases hf:(List.range (2^m)).find? (fun a=>decide (1≤a)&&fitB P m a)with
 |none=>
  rw[List.find?_eq_none]at hf;have:=hf a (List.mem_range.2 ha);simp[ha1,hfit]at this
 |some a0=>
  have e:mask0 P m=a0:=by unfold mask0;rw[hf];rfl
  rw[List.find?_range_eq_some]at hf;rw[e];obtain⟨h1,h2,h3⟩:=hf;simp only[Bool.and_eq_true,decide_eq_true_eq]at h1;refine⟨h1.1,List.mem_range.1 h2,h1.2,fun a h4 h5=>?_⟩;have:=h3 a h5;simpa [h4]using this
def Siz (us:Kvs) (p:List Nat):Prop:=p.length≤5∨(p.length≤10∧∀x,igt us x=0)
section
variable {g:Gr} {s:Sta} {us:Kvs} {p:List Nat}
theorem sumU_zero (h:∀x,igt us x=0):∀p:List Nat,sumU us p=0
 |[]=>rfl
 |x::p=>by
  have:=sumU_zero h p;unfold sumU at this ⊢;rw[sm,this,h];rfl
theorem sumU_pt (g:Gr) (s:Sta) (us:Kvs) (p:List Nat):sm (ptO g s us p).u (ptO g s us p).ns=sumU us p:=rfl
theorem c_pvol (hnt:NetOk g s) (hp:p∈partL g s) (hz:Siz us p) (hI:IntM us) (hus:∀x,-40≤igt us x∧igt us x≤40):
  PureCall Try.prog 56 [net g s,iL (upN p), .mpc false [.i .i64] us] (.tup [iL (pvol g s us p).1,I (pvol g s us p).2.1,Bo (pvol g s us p).2.2]):=by
 have h10:p.length≤10:=by rcases hz with h|h<;>omega
 refine c_volts g s p us (feedL g s (upN p)) rfl hnt (partL_ok hnt hp h10) hI hus _ _ _ (p.getD 0 0) rfl ?_ ?_ ?_ ?_
 ·intro h;unfold pvol;rw[if_pos h];exact⟨rfl,rfl,rfl⟩
 ·intro h h1;unfold pvol;rw[if_neg h,if_pos h1];exact⟨rfl,rfl,rfl⟩
 ·intro h h1;refine⟨Pt_small0 hnt hp hz rfl hus _ rfl,?_⟩;unfold pvol;rw[if_neg h,if_neg (by omega),if_pos h1];exact⟨rfl,rfl,rfl⟩
 ·intro h h1;have h5:p.length≤5:=by
   rcases hz with h|⟨_,h⟩
   ·exact h
   ·have:=sumU_zero h p;omega
  refine⟨fun a h2 h3=>Pt_small hnt hp h5 rfl hus _ (bit_ex h2 h3),?_⟩;obtain⟨k1,k2,k3,k4⟩:=mask0_ok (P:=ptO g s us p) (Pt_ok hnt hp rfl) (m:=(feedL g s (upN p)).length) rfl (by intro e;exact h (List.length_eq_zero_iff.1 e)) (by rw[sumU_pt];exact h1);unfold pvol;rw[if_neg h,if_neg (by omega),if_neg (by omega)];exact⟨rfl,_,k1,k2,k3,k4,rfl,rfl⟩
def vfS (g:Gr) (s:Sta) (us:Kvs) (k:Nat):Fr:=red (at0 (pvol g s us (partOf g s k)).1 ((partOf g s k).idxOf k:Nat)) (pvol g s us (partOf g s k)).2.1
theorem pvol_bd (hnt:NetOk g s) (hp:p∈partL g s) (hz:Siz us p) (hI:IntM us) (hus:∀x,-40≤igt us x∧igt us x≤40) (hok:(pvol g s us p).2.2=true):
  (pvol g s us p).1.length=p.length∧0<(pvol g s us p).2.1∧(pvol g s us p).2.1≤100000000000000∧∀x∈(pvol g s us p).1,-300000000000000000≤x∧x≤300000000000000000:=by
 unfold pvol at hok ⊢
 by_cases h:feedL g s (upN p)=[]
 ·rw[if_pos h];refine⟨by simp[zerosL],show(0:Int)<1 by decide,show(1:Int)≤100000000000000 by decide,fun x hx=>?_⟩;have:x=0:=(List.mem_replicate.1 hx).2;omega
 ·rw [if_neg h]at hok ⊢
  by_cases h1:sumU us p<0
  ·rw[if_pos h1]at hok;cases hok
  ·rw [if_neg h1]at hok ⊢
   by_cases h2:sumU us p=0
   ·rw[if_pos h2];obtain⟨z1,z2,z3⟩:Sml0 (ptO g s us p) (p.getD 0 0):=Pt_small0 (us:=us) hnt hp hz rfl hus (p.getD 0 0) rfl;refine⟨by simp,z2,z3,fun x hx=>?_⟩;obtain⟨k,_,rfl⟩:=List.mem_map.1 hx;have key:∀b,b<(feedL g s (upN p)).length→ -200000000000000000≤(ptO g s us p).V b*(ptO g s us p).den0 (p.getD 0 0)-(ptO g s us p).num0 (p.getD 0 0) ((ptO g s us p).p b)∧(ptO g s us p).V b*(ptO g s us p).den0 (p.getD 0 0)-(ptO g s us p).num0 (p.getD 0 0) ((ptO g s us p).p b)≤200000000000000000:=by
     intro b hb;have hf:=feed_at hnt rfl hb;have h3:=z1 ((ptO g s us p).p b);have h4:0≤(ptO g s us p).V b∧(ptO g s us p).V b≤1000:=by
      show 0≤(fdI g _).Volts∧(fdI g _).Volts≤1000;omega
     have h5:=Int.mul_nonneg h4.1 (Int.le_of_lt z2);have h6:=Int.mul_le_mul h4.2 z3 (Int.le_of_lt z2) (by omega);omega
    have hpos:0<(feedL g s (upN p)).length:=List.length_pos_iff.2 h;have h3:=shiftL_bd (B:=200000000000000000) ((List.range (feedL g s (upN p)).length).map fun b=>(ptO g s us p).V b*(ptO g s us p).den0 (p.getD 0 0)-(ptO g s us p).num0 (p.getD 0 0) ((ptO g s us p).p b)) _ (key 0 hpos) fun x hx=>by
     obtain⟨b,hb,rfl⟩:=List.mem_map.1 hx;exact key b (List.mem_range.1 hb)
    have h4:=z1 k;omega
   ·rw[if_neg h2];have h5:p.length≤5:=by
     rcases hz with h|⟨_,h⟩
     ·exact h
     ·have:=sumU_zero h p;omega
    obtain⟨k1,k2,k3,k4⟩:=mask0_ok (P:=ptO g s us p) (Pt_ok hnt hp rfl) (m:=(feedL g s (upN p)).length) rfl (by intro e;exact h (List.length_eq_zero_iff.1 e)) (by rw[sumU_pt];omega);obtain⟨z1,z2,z3⟩:Sml (ptO g s us p) (bitS (mask0 (ptO g s us p) (feedL g s (upN p)).length)):=Pt_small (us:=us) hnt hp h5 rfl hus _ (bit_ex k1 k2);refine⟨by simp,z2,z3,fun x hx=>?_⟩;obtain⟨k,_,rfl⟩:=List.mem_map.1 hx;have:=z1 k;omega
theorem vpart (hnt:NetOk g s) (hp:p∈partL g s) (hz:Siz us p) (hI:IntM us) (hus:∀x,-40≤igt us x∧igt us x≤40) (hok:(pvol g s us p).2.2=true):VPart g s us p (pvol g s us p).1 (pvol g s us p).2.1 (vfS g s us):=by
 obtain⟨b1,b2,b3,b4⟩:=pvol_bd hnt hp hz hI hus hok;have hc:=c_pvol hnt hp hz hI hus;rw[hok]at hc;refine⟨hc,b1,b2,b3,b4,fun i k hk=>?_⟩;have hpe:=partOf_eq hp (List.mem_of_getElem? hk);have hnd:p.Nodup:=by obtain⟨_,_,e⟩:=partL_head hp;rw[e];exact cp_nodup
 have hi:p.idxOf k=i:=by
  obtain⟨hil,e⟩:=List.getElem?_eq_some_iff.1 hk;rw[←e];exact List.Nodup.idxOf_getElem hnd i hil
 unfold vfS;rw[←hpe,hi]
end
def okS (g:Gr) (s:Sta) (us:Kvs):Bool:=(partL g s).all fun p=>(pvol g s us p).2.2
theorem c_solve_p (g:Gr) (s:Sta) (us:Kvs) (hnt:NetOk g s) (h12:Few12 g s) (vf:Nat→Fr) (hv:∀p∈partL g s,∃v d,VPart g s us p v d vf):
  PureCall Try.prog 32 [net g s, .mpc false [.i .i64] us] (.tup [.agg [fL (vlA g.Nodes.toNat vf),fL (flA g s vf)],Bo true]):=by
 refine MutCall.pure (m_solve_t g s us hnt h12 vf hv) ?_;have htv:List.take g.Nodes.toNat ((vlA g.Nodes.toNat vf).map Fr.cells)=(vlA g.Nodes.toNat vf).map Fr.cells:=List.take_of_length_le (by simp[vlA]);have htf:List.take g.Feeds.length ((flA g s vf).map Fr.cells)=(flA g s vf).map Fr.cells:=List.take_of_length_le (by simp[flA]);have l1:(vlA g.Nodes.toNat vf).length=g.Nodes.toNat:=by simp[vlA]
 have l2:(flA g s vf).length=g.Feeds.length:=by simp[flA]
 simp[htv,htf,l1,l2]
theorem m_SolveV (g:Gr) (s:Sta) (l:List Ld) (hl:l.length≤1000) (hf:fineB g s l=true) (hlo:longB g s=false) (h12:Few12 g s) (vf:Nat→Fr) (hv:∀p∈partL g s,∃v d,VPart g s (tkK l (allS l)) p v d vf):
  MutCall Try.prog 17 [g.av,s.av,lL l] [] [] (.tup [.row 0 0 g.Nodes.toNat, .row 1 0 g.Feeds.length,I 0]) [] [some (.els 2 ((vlA g.Nodes.toNat vf).map Fr.cells)),some (.els 2 ((flA g s vf).map Fr.cells))]:=by
 have hb:=c_begin_t g s l hl hf;have hnt:=fine_net hf;have hlg:=c_long g s hnt h12;rw[hlo]at hlg;have htk:=c_taken_n l hl;have hsv:=m_solve_t g s (tkK l (allS l)) hnt h12 vf hv;generalize vlA g.Nodes.toNat vf=vs at hsv ⊢;generalize flA g s vf=fs at hsv ⊢;generalize tkK l (allS l)=us at htk hsv;refine MutCall.of_bodyG [] Try.func17 rfl (by decide) (by simp[Try.ntmps17]) rfl rfl ?_;intro J hJ;simp only[Try.ntmps17,Try.results17];refine gS fun K hK=>?_;simp -dsimp;apply hK;clear hK K;refine gS fun K hK=>?_;simp -dsimp;refine callK_intro _ (hb) (by simp) ?_;simp -dsimp;apply hK;clear hK K;refine gwp_seq_k fun K1 hK1=>?_;refine gwp_block ?_;refine gS fun K hK=>?_;simp -dsimp;apply hK;clear hK K;refine gwp_cond rfl (fun hc0=>?_) (fun hc0=>?_)
 ·simp at hc0
 ·refine gS fun K hK=>?_;simp -dsimp;refine callK_intro _ (hlg) (by simp) ?_;simp -dsimp;apply hK;clear hK K;refine gwp_cond rfl (fun hc1=>?_) (fun hc1=>?_)
  ·simp at hc1
  ·refine gwp_skip ?_;simp only[zT,reduceIte,Nat.reduceEqDiff];refine hK1 _ _ ?_;refine gwp_prune [2,9] (Or.inr (by simp)) ?_;simp only[zP,Nat.reduceEqDiff,reduceIte];refine gS fun K hK=>?_;simp -dsimp;refine callK_intro _ (htk) (by simp) ?_;simp -dsimp;refine callK_mut [] [] [none,none,some 0,some 1,some 2,some 3] (hsv) (by decide) rfl (by simp) (by simp) rfl (by simp) ?_;simp -dsimp;apply hK;clear hK K;refine gwp_seq_k fun K2 hK2=>?_;refine gS fun K hK=>?_;simp -dsimp;apply hK;clear hK K;refine gwp_cond rfl (fun hc2=>?_) (fun hc2=>?_)
   ·simp at hc2
   ·refine gwp_skip ?_;simp only[zT,reduceIte,Nat.reduceEqDiff];refine hK2 _ _ ?_;refine gwp_prune [11] (Or.inr (by simp)) ?_;simp only[zP,Nat.reduceEqDiff,reduceIte];refine gwp_sd mixed rfl (by decide) rfl rfl fun K hK=>?_;simp -dsimp;refine hK _ _ _ (by decide+kernel) ?_;clear hK K;exact gwp_ret ⟨[some 2,some 3],rfl,by simp,by simp,by simp,by simp[resP,tupOf]⟩
theorem c_SolveV (g:Gr) (s:Sta) (l:List Ld) (hl:l.length≤1000) (hf:fineB g s l=true) (hlo:longB g s=false) (h12:Few12 g s) (vf:Nat→Fr) (hv:∀p∈partL g s,∃v d,VPart g s (tkK l (allS l)) p v d vf):
  PureCall Try.prog 17 [g.av,s.av,lL l] (.tup [fL (vlA g.Nodes.toNat vf),fL (flA g s vf),I 0]):=by
 refine MutCall.pure (m_SolveV g s l hl hf hlo h12 vf hv) ?_;have htv:List.take g.Nodes.toNat ((vlA g.Nodes.toNat vf).map Fr.cells)=(vlA g.Nodes.toNat vf).map Fr.cells:=List.take_of_length_le (by simp[vlA]);have htf:List.take g.Feeds.length ((flA g s vf).map Fr.cells)=(flA g s vf).map Fr.cells:=List.take_of_length_le (by simp[flA]);have l1:(vlA g.Nodes.toNat vf).length=g.Nodes.toNat:=by simp[vlA]
 have l2:(flA g s vf).length=g.Feeds.length:=by simp[flA]
 simp[htv,htf,l1,l2]
theorem c_solve (g:Gr) (s:Sta) (us:Kvs) (hnt:NetOk g s) (h12:Few12 g s) (hz:∀p∈partL g s,Siz us p) (hI:IntM us) (hus:∀x,-40≤igt us x∧igt us x≤40):
  PureCall Try.prog 32 [net g s, .mpc false [.i .i64] us] (if okS g s us=true then .tup [.agg [fL (vlA g.Nodes.toNat (vfS g s us)),fL (flA g s (vfS g s us))],Bo true]else .tup [.agg [.v (.slice none 0 0), .v (.slice none 0 0)],Bo false]):=by
 by_cases h:okS g s us=true
 ·rw[if_pos h];unfold okS at h;rw[List.all_eq_true]at h;exact c_solve_p g s us hnt h12 _ fun p hp=>⟨_,_,vpart hnt hp (hz p hp) hI hus (h p hp)⟩
 ·rw[if_neg h];unfold okS at h;have hlt:(partL g s).findIdx (fun p=> !(pvol g s us p).2.2)<(partL g s).length:=by
   rw[List.findIdx_lt_length];simpa using h
  have hno:=List.findIdx_getElem (w:=hlt);have hg:=List.getElem?_eq_getElem hlt;have hpm:=List.mem_of_getElem? hg;have hc:=c_pvol hnt hpm (hz _ hpm) hI hus;simp only[Bool.not_eq_true']at hno;rw[hno]at hc;exact c_solve_f g s us hnt h12 (vfS g s us) _ _ hg _ _ hc fun t p ht hpt=>⟨_,_,vpart hnt (List.mem_of_getElem? hpt) (hz _ (List.mem_of_getElem? hpt)) hI hus (by
   have:=List.not_of_lt_findIdx ht;have e:=(List.getElem?_eq_some_iff.1 hpt).2;rw[e]at this;simpa using this)⟩
theorem cur_mem (x:Int):∀(l:List (Ld×Bool)) (c:Int),l.foldl (curS x) c=c∨∃p∈l,p.2=true∧p.1.At=x∧l.foldl (curS x) c=p.1.Units
 |[],c=>Or.inl rfl
 | p::l,c=>by
  rw[List.foldl_cons]
  rcases cur_mem x l (curS x c p)with h|⟨q,hq,h1,h2,h3⟩
  ·rw[h];unfold curS
   by_cases hc:p.2=true∧p.1.At=x
   ·rw[if_pos hc];exact Or.inr ⟨p,by simp,hc.1,hc.2,rfl⟩
   ·rw[if_neg hc];exact Or.inl rfl
  ·exact Or.inr ⟨q,by simp[hq],h1,h2,h3⟩
theorem igt_tk (l:List Ld) (sv:List Bool) (x:Int):igt (tkK l sv) x=0∨∃(i:Nat) (y:Ld),l[i]?=some y∧sv[i]?=some true∧y.At=x∧igt (tkK l sv) x=y.Units:=by
 rw[tkK_get];unfold cur
 rcases cur_mem x (l.zip sv) 0 with h|⟨q,hq,h1,h2,h3⟩
 ·exact Or.inl h
 ·obtain⟨i,hi⟩:=List.getElem?_of_mem hq;rw[List.getElem?_zip_eq_some]at hi;exact Or.inr ⟨i,q.1,hi.1,by rw[hi.2,h1],h2,h3⟩
theorem ldTo_bd {g:Gr} {l:List Ld}:∀{k:Nat},ldTo g l k=true→∀(i:Nat) y,i<k→l[i]?=some y→0≤y.At∧y.At<g.Nodes∧-40≤y.Units∧y.Units≤40∧0≤y.Rank∧y.Rank≤100∧∀(j:Nat) z,j<i→l[j]?=some z→z.At≠y.At
 |0,_,i,y,hi,_=>by omega
 |k+1,h,i,y,hi,hy=>by
  simp only[ldTo,Bool.and_eq_true]at h
  rcases Nat.lt_succ_iff_lt_or_eq.1 hi with h1|h1
  ·exact ldTo_bd h.1 i y h1 hy
  ·subst h1;have h2:=h.2;rw[hy]at h2;simp only[ldB,Bool.and_eq_true,inr_iff,Bool.not_eq_true',List.any_eq_false,decide_eq_true_eq]at h2;obtain⟨⟨⟨a,b⟩,c⟩,d⟩:=h2;refine⟨a.1,by omega,b.1,b.2,c.1,c.2,fun j z hj hz=>?_⟩;exact d z (List.mem_of_getElem? (i:=j) (by rw[List.getElem?_take,if_pos hj];exact hz))
structure LdOk (g:Gr) (l:List Ld):Prop where
 at_:∀y∈l,0≤y.At∧y.At<g.Nodes
 un:∀y∈l,-40≤y.Units∧y.Units≤40
 rk:∀y∈l,0≤y.Rank∧y.Rank≤100
 one:∀(i j:Nat) y z,l[i]?=some y→l[j]?=some z→y.At=z.At→i=j
theorem fine_ld {g:Gr} {s:Sta} {l:List Ld} (h:fineB g s l=true):LdOk g l:=by
 simp only[fineB,Bool.and_eq_true]at h;have key:∀y∈l,∃i:Nat,i<l.length∧l[i]?=some y:=fun y hy=>by
  obtain⟨i,hi⟩:=List.getElem?_of_mem hy;exact⟨i,(List.getElem?_eq_some_iff.1 hi).1,hi⟩
 refine⟨fun y hy=>?_,fun y hy=>?_,fun y hy=>?_,fun i j y z hi hj e=>?_⟩
 ·obtain⟨i,h1,h2⟩:=key y hy;have:=ldTo_bd h.2 i y h1 h2;omega
 ·obtain⟨i,h1,h2⟩:=key y hy;have:=ldTo_bd h.2 i y h1 h2;omega
 ·obtain⟨i,h1,h2⟩:=key y hy;have:=ldTo_bd h.2 i y h1 h2;omega
 ·have h1:=(ldTo_bd h.2 i y (List.getElem?_eq_some_iff.1 hi).1 hi).2.2.2.2.2.2;have h2:=(ldTo_bd h.2 j z (List.getElem?_eq_some_iff.1 hj).1 hj).2.2.2.2.2.2
  rcases Nat.lt_trichotomy i j with h3|h3|h3
  ·exact absurd e (h2 i y h3 hi)
  ·exact h3
  ·exact absurd e.symm (h1 j z h3 hj)
theorem tk_bd {g:Gr} {l:List Ld} (h:LdOk g l) (sv:List Bool) (x:Int):-40≤igt (tkK l sv) x∧igt (tkK l sv) x≤40:=by
 rcases igt_tk l sv x with e|⟨i,y,h1,_,_,e⟩
 ·omega
 ·have:=h.un y (List.mem_of_getElem? h1);omega
def solveA (g:Gr) (s:Sta) (l:List Ld):AV:=
 if fineB g s l=true then(if longB g s=true then .tup [.v (.slice none 0 0), .v (.slice none 0 0),I 3]else
  if okS g s (tkK l (allS l))=true then .tup [fL (vlA g.Nodes.toNat (vfS g s (tkK l (allS l)))),fL (flA g s (vfS g s (tkK l (allS l)))),I 0]else .tup [.v (.slice none 0 0), .v (.slice none 0 0),I 4])
 else .tup [.v (.slice none 0 0), .v (.slice none 0 0),I 2]
theorem c_Solve (g:Gr) (s:Sta) (l:List Ld) (hl:l.length≤1000) (h12:fineB g s l=true→Few12 g s) (hz:fineB g s l=true→longB g s=false→∀p∈partL g s,Siz (tkK l (allS l)) p):
  PureCall Try.prog 17 [g.av,s.av,lL l] (solveA g s l):=by
 unfold solveA
 cases hf:fineB g s l with
 |false=>exact c_Solve_a g s l hl hf
 | true=>
  rw[if_pos rfl]
  cases hlo:longB g s with
  |true=>exact c_Solve_l g s l hl hf (h12 hf) hlo
  | false=>
   have hc:=c_solve g s (tkK l (allS l)) (fine_net hf) (h12 hf) (hz hf hlo) (tkK_int _ _) (tk_bd (fine_ld hf) _);rw[if_neg (by simp)]
   cases ho:okS g s (tkK l (allS l))with
   |true=>
    unfold okS at ho;rw[List.all_eq_true]at ho;exact c_SolveV g s l hl hf hlo (h12 hf) _ fun p hp=>⟨_,_,vpart (fine_net hf) hp (hz hf hlo p hp) (tkK_int _ _) (tk_bd (fine_ld hf) _) (ho p hp)⟩
   |false=>rw[ho]at hc;exact c_Solve_n g s l hl hf (h12 hf) hlo hc
end Go.Cur
end
section
namespace Go.Cur
open Go.AM Go.Proofs
abbrev Wd (x:Nat):AV:= .v (.int .u64 (x:Int))
theorem bits_and32 (x:Nat) (hx:x<18446744073709551616):bits .and .u64 (x:Int) 4294967295=((x % 4294967296:Nat):Int):=by
 show IntKind.u64.wrap ((BitVec.ofInt 64 x&&&BitVec.ofInt 64 (4294967295:Nat)).toNat:Int)=_;have h:(BitVec.ofInt 64 x&&&BitVec.ofInt 64 (4294967295:Nat)).toNat=x % 4294967296:=by
  simp only[BitVec.toNat_and,BitVec.ofInt_natCast,BitVec.toNat_ofNat];rw[Nat.mod_eq_of_lt (by omega),Nat.mod_eq_of_lt (by omega)];exact Nat.and_two_pow_sub_one_eq_mod x 32
 rw[h];exact IntWalk.u64_in _ (by omega)
theorem shr32 (x:Nat):(x:Int)/4294967296=((x/4294967296:Nat):Int):=by omega
theorem u64_nat {x:Nat} (h:x<18446744073709551616):IntKind.u64.wrap (x:Int)=(x:Int):=IntWalk.u64_in _ (by omega)
theorem u64_low (x:Nat):IntKind.u64.wrap (x:Int)=((x % 18446744073709551616:Nat):Int):=by
 show(x:Int) % 18446744073709551616=_;omega
theorem c_Mul64 (x y:Nat) (hx:x<18446744073709551616) (hy:y<18446744073709551616):PureCall Try.prog 82 [Wd x,Wd y] (.tup [Wd (x*y/18446744073709551616),Wd (x*y % 18446744073709551616)]):=by
 have hb:(32:Int)≤(IntKind.u64.bits:Int):=by decide
 have hb':32≤IntKind.u64.bits:=by decide
 obtain⟨h1,h2,h3,h4⟩:=Go.Lib.mul64_hi x y hx hy;have hxy:=u64_low (x*y);have a1:=bits_and32 x hx;have a2:=bits_and32 y hy;have s1:=shr32 x;have s2:=shr32 y;have b0:x/4294967296<4294967296:=by omega
 have b1:y/4294967296<4294967296:=by omega
 have b2:x % 4294967296<4294967296:=by omega
 have b3:y % 4294967296<4294967296:=by omega
 have hhi:x*y/18446744073709551616<18446744073709551616:=by
  have:=Nat.mul_le_mul (Nat.le_of_lt_succ (show x<Nat.succ 18446744073709551615 by omega)) (Nat.le_of_lt_succ (show y<Nat.succ 18446744073709551615 by omega));omega
 generalize x/4294967296=x1 at*
 generalize x % 4294967296=x0 at*
 generalize y/4294967296=y1 at*
 generalize y % 4294967296=y0 at*
 have c1:IntKind.u64.wrap ((x0:Int)*y0)=((x0*y0:Nat):Int):=by rw[←Int.natCast_mul];exact u64_nat h1
 have hp1:x1*y0<18446744073709551616:=by omega
 have c2:IntKind.u64.wrap ((x1:Int)*y0)=((x1*y0:Nat):Int):=by rw[←Int.natCast_mul];exact u64_nat hp1
 have d1:=shr32 (x0*y0);have c3:IntKind.u64.wrap ((x1:Int)*y0+(x0:Int)*y0/4294967296)=((x1*y0+x0*y0/4294967296:Nat):Int):=by rw[show(x1:Int)*y0+(x0:Int)*y0/4294967296=((x1*y0+x0*y0/4294967296:Nat):Int)by simp];exact u64_nat h2
 generalize x1*y0+x0*y0/4294967296=t at*
 have a3:=bits_and32 t h2;have d2:=shr32 t;have hp2:x0*y1<18446744073709551616:=by omega
 have c4:IntKind.u64.wrap ((x0:Int)*y1)=((x0*y1:Nat):Int):=by rw[←Int.natCast_mul];exact u64_nat hp2
 have c5:IntKind.u64.wrap ((t:Int) % 4294967296+(x0:Int)*y1)=((t % 4294967296+x0*y1:Nat):Int):=by rw[show(t:Int) % 4294967296+(x0:Int)*y1=((t % 4294967296+x0*y1:Nat):Int)by simp];exact u64_nat h3
 generalize t % 4294967296+x0*y1=w at*
 have d3:=shr32 w;have hp3:x1*y1<18446744073709551616:=by omega
 have c6:IntKind.u64.wrap ((x1:Int)*y1)=((x1*y1:Nat):Int):=by rw[←Int.natCast_mul];exact u64_nat hp3
 have c7:IntKind.u64.wrap ((x1:Int)*y1+(t:Int)/4294967296)=((x1*y1+t/4294967296:Nat):Int):=by rw[show(x1:Int)*y1+(t:Int)/4294967296=((x1*y1+t/4294967296:Nat):Int)by simp];exact u64_nat (by omega)
 have c8:IntKind.u64.wrap ((x1:Int)*y1+(t:Int)/4294967296+(w:Int)/4294967296)=((x*y/18446744073709551616:Nat):Int):=by rw[show(x1:Int)*y1+(t:Int)/4294967296+(w:Int)/4294967296=((x1*y1+t/4294967296+w/4294967296:Nat):Int)by simp,h4];exact u64_nat hhi
 have c9:IntKind.u64.wrap ((x:Int)*y)=((x*y % 18446744073709551616:Nat):Int):=by rw[←Int.natCast_mul];exact hxy
 refine PureCall.of_body Try.func82 rfl (by decide) (by simp[Try.ntmps82]) ?_;simp only[Try.ntmps82,Try.results82];refine aS fun K hK=>?_;simp -dsimp;apply hK;clear hK K;refine aS fun K hK=>?_;simp -dsimp [a1];apply hK;clear hK K;refine aS fun K hK=>?_;simp -dsimp [s1,hb,hb'];apply hK;clear hK K;refine aS fun K hK=>?_;simp -dsimp [a2];apply hK;clear hK K;refine aS fun K hK=>?_;simp -dsimp [s2,hb,hb'];apply hK;clear hK K;refine aS fun K hK=>?_;simp -dsimp [c1];apply hK;clear hK K;refine aS fun K hK=>?_;simp -dsimp [c2,c3,hb,hb'];apply hK;clear hK K;refine aS fun K hK=>?_;simp -dsimp [a3];apply hK;clear hK K;refine aS fun K hK=>?_;simp -dsimp [hb,hb'];apply hK;clear hK K;refine aS fun K hK=>?_;simp -dsimp [c4,c5];apply hK;clear hK K;refine aS fun K hK=>?_;simp -dsimp [c6,c7,c8,hb,hb'];apply hK;clear hK K;refine aS fun K hK=>?_;simp -dsimp [c9];apply hK;clear hK K;exact awp_ret (by simp)
theorem conv_iu (n:Int) (w:World):(convert 3 154 (.int .i64 n)).run Try.prog w= .ok (.int .u64 (IntKind.u64.wrap n)) w:=by
 simp[convert,run_underlying und_int,run_underlying und_u64,Conv.intToInt]
theorem wide_lt (p q:Nat):(q/18446744073709551616<p/18446744073709551616∨p/18446744073709551616=q/18446744073709551616∧q % 18446744073709551616<p % 18446744073709551616)↔q<p:=by omega
theorem c_greater (a b:Fr) (ha:0≤a.Num∧a.Num≤9223372036854775807) (ha':0≤a.Den∧a.Den≤9223372036854775807) (hb:0≤b.Num∧b.Num≤9223372036854775807) (hb':0≤b.Den∧b.Den≤9223372036854775807):
  PureCall Try.prog 69 [a.av,b.av] (Bo (decide (b.Num*a.Den<a.Num*b.Den))):=by
 obtain⟨an,ad⟩:=a;obtain⟨bn,bd⟩:=b;simp only at ha ha' hb hb';obtain⟨an,rfl⟩:=Int.eq_ofNat_of_zero_le ha.1;obtain⟨ad,rfl⟩:=Int.eq_ofNat_of_zero_le ha'.1;obtain⟨bn,rfl⟩:=Int.eq_ofNat_of_zero_le hb.1;obtain⟨bd,rfl⟩:=Int.eq_ofNat_of_zero_le hb'.1;have m1:=c_Mul64 an bd (by omega) (by omega);have m2:=c_Mul64 bn ad (by omega) (by omega);have u1:=u64_nat (x:=an) (by omega);have u2:=u64_nat (x:=bd) (by omega);have u3:=u64_nat (x:=bn) (by omega);have u4:=u64_nat (x:=ad) (by omega);have hw:=wide_lt (an*bd) (bn*ad);have e:decide ((bn:Int)*ad<an*bd)=decide (bn*ad<an*bd):=by
  rw[←Int.natCast_mul,←Int.natCast_mul];exact decide_eq_decide.2 Int.ofNat_lt
 show PureCall Try.prog 69 _ (Bo (decide ((bn:Int)*ad<an*bd)));rw[e];generalize an*bd=p at m1 hw ⊢;generalize bn*ad=q at m2 hw ⊢;refine PureCall.of_body Try.func69 rfl (by decide) (by simp[Try.ntmps69]) ?_;simp only[Try.ntmps69,Try.results69];refine aS fun K hK=>?_;simp -dsimp;apply hK;clear hK K;refine aS fun K hK=>?_;simp -dsimp;refine⟨_,conv_iu _,?_⟩;simp -dsimp [u1,u2];refine⟨_,conv_iu _,?_⟩;simp -dsimp [u1,u2];refine callK_intro _ (m1) (by simp) ?_;simp -dsimp;apply hK;clear hK K;refine aS fun K hK=>?_;simp -dsimp;refine⟨_,conv_iu _,?_⟩;simp -dsimp [u3,u4];refine⟨_,conv_iu _,?_⟩;simp -dsimp [u3,u4];refine callK_intro _ (m2) (by simp) ?_;simp -dsimp;apply hK;clear hK K;refine aS fun K hK=>?_;simp -dsimp;apply hK;clear hK K;refine awp_ret ?_;simp;rw[Bool.eq_iff_iff];simp only[Bool.or_eq_true,Bool.and_eq_true,decide_eq_true_eq,beq_iff_eq];omega
end Go.Cur
end
section
namespace Go.Cur
open Go.AM Go.Proofs
def frA (fs:List Fr) (k:Nat):Fr:=(fs[k]?).getD default
theorem frA_get {fs:List Fr} {k:Nat} (h:k<fs.length):fs[k]?=some (frA fs k):=by
 unfold frA;rw[List.getElem?_eq_getElem h];rfl
def fdA (g:Gr) (k:Nat):Fd:=(g.Feeds[k]?).getD default
theorem fdA_get {g:Gr} {k:Nat} (h:k<g.Feeds.length):g.Feeds[k]?=some (fdA g k):=by
 unfold fdA;rw[List.getElem?_eq_getElem h];rfl
def ovr (g:Gr) (fs:List Fr) (i:Nat):Fr:=⟨(frA fs i).Num-(fdA g i).Limit*(frA fs i).Den,(frA fs i).Den⟩
def trS (g:Gr) (fs:List Fr) (s:Int×Fr) (i:Nat):Int×Fr:=
 if 0<(ovr g fs i).Num∧(s.1<0∨s.2.Num*(ovr g fs i).Den<(ovr g fs i).Num*s.2.Den)then(i,ovr g fs i)else s
def trL (g:Gr) (fs:List Fr) (n:Nat):Int×Fr:=(List.range n).foldl (trS g fs) (-1,⟨0,0⟩)
theorem trL_succ (g:Gr) (fs:List Fr) (n:Nat):trL g fs (n+1)=trS g fs (trL g fs n) n:=by
 unfold trL;rw[List.range_succ,List.foldl_append];rfl
structure TrOk (g:Gr) (fs:List Fr):Prop where
 len:fs.length=g.Feeds.length
 num:∀y∈fs,0≤y.Num∧y.Num≤4000000000000000000
 den:∀y∈fs,1≤y.Den∧y.Den≤100000000000000
 lim:∀f∈g.Feeds,0≤f.Limit∧f.Limit≤10000
theorem TrOk.prod {g:Gr} {fs:List Fr} (h:TrOk g fs) {k:Nat} (hk:k<g.Feeds.length):0≤(fdA g k).Limit*(frA fs k).Den∧(fdA g k).Limit*(frA fs k).Den≤1000000000000000000:=by
 have h1:=h.lim _ (List.mem_of_getElem? (fdA_get hk));have h2:=h.den _ (List.mem_of_getElem? (frA_get (by rw[h.len];exact hk)));exact⟨Int.mul_nonneg h1.1 (by omega),Int.le_trans (Int.mul_le_mul h1.2 h2.2 (by omega) (by omega)) (by omega)⟩
theorem trL_bd {g:Gr} {fs:List Fr} (h:TrOk g fs):∀n,n≤g.Feeds.length→ -1≤(trL g fs n).1∧(trL g fs n).1<n∧(0≤(trL g fs n).2.Num∧(trL g fs n).2.Num≤4000000000000000000)∧0≤(trL g fs n).2.Den∧(trL g fs n).2.Den≤100000000000000
 |0,_=>by simp[trL]
 |n+1,hn=>by
  have ih:=trL_bd h n (by omega);have h1:=h.prod (k:=n) (by omega);have h2:=h.den _ (List.mem_of_getElem? (frA_get (fs:=fs) (k:=n) (by rw[h.len];omega)));have h3:=h.num _ (List.mem_of_getElem? (frA_get (fs:=fs) (k:=n) (by rw[h.len];omega)));rw[trL_succ];unfold trS
  split
  ·rename_i hc;have hc1:=hc.1;simp only[ovr]at hc1 ⊢;omega
  ·omega
theorem m_tripa (x:Value) (g:Gr) (fe wi:List Bool) (l:List Ld) (sv:List Bool) (vs fs:List Fr) (cuts:List Cu) (hc:cuts.length≤1000) (hn:g.Feeds.length≤1000) (hfe:fe.length=g.Feeds.length) (hok:TrOk g fs) (r:Bool) (fe2:List Bool) (cuts2:List Cu)
  (ht:∀i:Nat,(trL g fs g.Feeds.length).1=i→r=true∧fe2=fe.set i false∧cuts2=cuts++[(⟨4,i,frA fs i⟩:Cu)])
  (hf:(trL g fs g.Feeds.length).1<0→r=false∧fe2=fe∧cuts2=cuts):
  MutCall Try.prog 45 [.ptr 0 0 0] [hSa (.fptr x 1 0 0) l sv.length vs fs cuts.length,hNa g fe wi] [some (.els 1 (sv.map bCell)),some (.els 1 (fe.map bCell)),some (.els 4 (cuts.map Cu.cells))]
   (Bo r) [hSa (.fptr x 1 0 0) l sv.length vs fs cuts2.length,hNa g fe2 wi] [some (.els 1 (sv.map bCell)),some (.els 1 (fe2.map bCell)),some (.els 4 (cuts2.map Cu.cells))]:=by
 refine MutCall.keep (Hk:=[_]) (Hk':=[_]) 0 0 0 (x:=x) (i:=0) (o:=0) ?_ rfl rfl rfl rfl rfl rfl;have f1:Fits (cuts.length+1) 33:=fits_of (by omega) (by omega);refine MutCall.of_bodyG [0] Try.func45 rfl (by decide) (by simp[Try.ntmps45]) rfl rfl ?_;intro J hJ;simp only[Try.ntmps45,Try.results45];refine gS fun K hK=>?_;simp -dsimp;apply hK;clear hK K;refine gS fun K hK=>?_;simp -dsimp;apply hK;clear hK K;refine gS fun K hK=>?_;simp -dsimp;apply hK;clear hK K;refine gwp_seq_k fun K1 hK1=>?_;refine gS fun K hK=>?_;simp -dsimp;apply hK;clear hK K;refine gwp_block ?_;refine gwp_prune [0,3,4,16,17,18] (Or.inr (by simp)) ?_;simp only[zP,Nat.reduceEqDiff,reduceIte];refine gwp_loop_l [0,4,16,17] (α:=Nat) (fun k=>[(3,I (trL g fs k).1),(18,I k)]) (fun k=>[hSa (.fptr x 1 0 0) l sv.length vs fs cuts.length,hNa g fe wi,some (.els 1 (sv.map bCell)),some (.els 1 (fe.map bCell)),some (.els 4 (cuts.map Cu.cells)),some (.els 2 [(trL g fs k).2.cells])]) (fun k=>k≤g.Feeds.length) (fun k=>g.Feeds.length-k) 0 ?_ ?_ ?_
 ·exact Nat.zero_le _
 ·exact gsub (sub_same (by simp[trL])) (by simp)
 rintro k k1;simp only[zP,Nat.reduceEqDiff,reduceIte];refine gS fun K hK=>?_;simp -dsimp;apply hK;clear hK K;refine gwp_seq_k fun K2 hK2=>?_;refine gwp_cond rfl (fun hc0=>?_) (fun hc0=>?_)
 ·have hkl:k<g.Feeds.length:=by simpa using hc0
  have wk:=zW k (by omega);have gf:=fdA_get hkl;have hfl:=hok.len;have gx:=frA_get (fs:=fs) (k:=k) (by omega);have hpr:=hok.prod hkl;have hnm:=hok.num _ (List.mem_of_getElem? gx);have hdn:=hok.den _ (List.mem_of_getElem? gx);have hbd:=trL_bd hok k k1;have hsu:=trL_succ g fs k;have w1:IntKind.i64.wrap ((fdA g k).Limit*(frA fs k).Den)=(fdA g k).Limit*(frA fs k).Den:=wrap_in (by omega) (by omega);have w2:IntKind.i64.wrap ((frA fs k).Num-(fdA g k).Limit*(frA fs k).Den)=(frA fs k).Num-(fdA g k).Limit*(frA fs k).Den:=wrap_in (by omega) (by omega);unfold trS ovr at hsu;simp only at hsu;generalize trL g fs k=m at hsu hbd ⊢;obtain⟨at_,mn,md⟩:=m;simp only at hsu hbd ⊢;refine gwp_skip ?_;simp only[zT,reduceIte,Nat.reduceEqDiff];refine hK2 _ _ ?_;refine gwp_prune [0,3,4,16,17,18] (Or.inr (by simp)) ?_;simp only[zP,Nat.reduceEqDiff,reduceIte];refine gwp_seq_k fun K3 hK3=>?_;refine gwp_block ?_;refine gS fun K hK=>?_;simp -dsimp [gf];apply hK;clear hK K;refine gS fun K hK=>?_;simp -dsimp [gx];apply hK;clear hK K;refine gS fun K hK=>?_;simp -dsimp [w1,w2];apply hK;clear hK K;refine gS fun K hK=>?_;simp -dsimp;refine callK_may _ (fun hm=>c_greater ⟨(frA fs k).Num-(fdA g k).Limit*(frA fs k).Den,(frA fs k).Den⟩ ⟨mn,md⟩ (by simp at hm;simp;omega) (by simp;omega) (by simp;omega) (by simp;omega)) (by simp) ?_;simp -dsimp;apply hK;clear hK K;refine gwp_cond rfl (fun hc1=>?_) (fun hc1=>?_)
  ·refine gwp_draw mixed rfl (by decide) rfl rfl fun K hK=>?_;simp -dsimp;refine hK _ _ _ (by decide+kernel) ?_;clear hK K;simp only[zT,reduceIte,Nat.reduceEqDiff];refine hK3 _ _ ?_;refine gwp_prune [0,3,4,16,17,18] (Or.inr (by simp)) ?_;simp only[zP,Nat.reduceEqDiff,reduceIte];refine gR fun K hK=>?_;simp -dsimp [wk];apply hK;clear hK K;simp only[zT,reduceIte,Nat.reduceEqDiff];have hcd:0<(frA fs k).Num-(fdA g k).Limit*(frA fs k).Den∧(at_<0∨mn*(frA fs k).Den<((frA fs k).Num-(fdA g k).Limit*(frA fs k).Den)*md):=by simpa using hc1
   rw[if_pos hcd]at hsu;exact⟨k+1,by omega,by omega,gsub (sub_rb [some 0,some 1,some 2,some 3,some 4,some 5] rfl (by simp[hsu]) (by simp[hsu])) (by simp)⟩
  ·refine gwp_skip ?_;simp only[zT,reduceIte,Nat.reduceEqDiff];refine hK3 _ _ ?_;refine gwp_prune [0,3,4,16,17,18] (Or.inr (by simp)) ?_;simp only[zP,Nat.reduceEqDiff,reduceIte];refine gR fun K hK=>?_;simp -dsimp [wk];apply hK;clear hK K;simp only[zT,reduceIte,Nat.reduceEqDiff];have hcd:¬(0<(frA fs k).Num-(fdA g k).Limit*(frA fs k).Den∧(at_<0∨mn*(frA fs k).Den<((frA fs k).Num-(fdA g k).Limit*(frA fs k).Den)*md)):=fun h=>by have h1:(fdA g k).Limit*(frA fs k).Den<(frA fs k).Num:=(by omega);simp only[h1,decide_true,Bool.true_and,Bool.or_eq_false_iff,decide_eq_false_iff_not]at hc1;exact h.2.elim hc1.1 hc1.2
   rw[if_neg hcd]at hsu;exact⟨k+1,by omega,by omega,gsub (sub_rb [some 0,some 1,some 2,some 3,some 4,some 5] rfl (by simp[hsu]) (by simp[hsu])) (by simp)⟩
 ·have hke:k=g.Feeds.length:=by have hn:¬k<g.Feeds.length:=(by simpa using hc0);omega
  subst hke;have hbd:=trL_bd hok g.Feeds.length (Nat.le_refl _);have hfl:=hok.len;generalize trL g fs g.Feeds.length=m at ht hf hbd ⊢;obtain⟨at_,mn,md⟩:=m;simp only at ht hf hbd ⊢;refine gwp_exit ?_;simp only[zT,reduceIte,Nat.reduceEqDiff];refine hK1 _ _ ?_;refine gwp_prune [0,3] (Or.inr (by simp)) ?_;simp only[zP,Nat.reduceEqDiff,reduceIte];refine gwp_seq_k fun K4 hK4=>?_;refine gS fun K hK=>?_;simp -dsimp;apply hK;clear hK K;refine gwp_cond rfl (fun hc2=>?_) (fun hc2=>?_)
  ·obtain⟨i,rfl⟩:∃i:Nat,at_=i:=⟨at_.toNat,by have:0≤at_:=(by simpa using hc2);omega⟩;have hil:i<g.Feeds.length:=by omega
   have gx:=frA_get (fs:=fs) (k:=i) (by omega);obtain⟨e1,e2,e3⟩:=ht i rfl;subst e1 e2 e3;refine gS fun K hK=>?_;simp -dsimp [hil,hfe];apply hK;clear hK K;refine gwp_draw mixed rfl (by decide) rfl rfl fun K hK=>?_;simp -dsimp [gx,f1];refine hK _ _ _ (by decide+kernel) ?_;clear hK K;simp only[zT,reduceIte,Nat.reduceEqDiff];refine hK4 _ _ ?_;refine gwp_prune [0,3] (Or.inr (by simp)) ?_;simp only[zP,Nat.reduceEqDiff,reduceIte];refine gS fun K hK=>?_;simp -dsimp;apply hK;clear hK K;exact gwp_ret ⟨[some 0,some 1,some 2,some 3,some 6],rfl,by simp,by simp[List.map_set],by simp,by simp[resP,tupOf]⟩
  ·obtain⟨e1,e2,e3⟩:=hf (by have:¬0≤at_:=(by simpa using hc2);omega);subst e1 e2 e3;refine gwp_skip ?_;simp only[zT,reduceIte,Nat.reduceEqDiff];refine hK4 _ _ ?_;refine gwp_prune [0,3] (Or.inr (by simp)) ?_;simp only[zP,Nat.reduceEqDiff,reduceIte];refine gS fun K hK=>?_;simp -dsimp;apply hK;clear hK K;exact gwp_ret ⟨[some 0,some 1,some 2,some 3,some 4],rfl,by simp,by simp,by simp,by simp at hc2;simp[resP,tupOf];omega⟩
end Go.Cur
end
section
namespace Go.Cur
open Go.AM Go.Proofs
theorem m_tripb (x:Value) (g:Gr) (fe wi:List Bool) (l:List Ld) (sv:List Bool) (vs fs:List Fr) (cuts:List Cu) (hg:g.Feeds=[]):
  MutCall Try.prog 45 [.ptr 0 0 0] [hSb (.fptr x 1 0 0) l sv.length vs fs cuts.length,hNb g fe wi] [some (.els 1 (sv.map bCell)),some (.els 4 (cuts.map Cu.cells))]
   (Bo false) [hSb (.fptr x 1 0 0) l sv.length vs fs cuts.length,hNb g fe wi] [some (.els 1 (sv.map bCell)),some (.els 4 (cuts.map Cu.cells))]:=by
 refine MutCall.keep (Hk:=[_]) (Hk':=[_]) 0 0 0 (x:=x) (i:=0) (o:=0) ?_ rfl rfl rfl rfl rfl rfl;refine MutCall.of_bodyG [0] Try.func45 rfl (by decide) (by simp[Try.ntmps45]) rfl rfl ?_;intro J hJ;simp only[Try.ntmps45,Try.results45];refine gS fun K hK=>?_;simp -dsimp;apply hK;clear hK K;refine gS fun K hK=>?_;simp -dsimp;apply hK;clear hK K;refine gS fun K hK=>?_;simp -dsimp;apply hK;clear hK K;refine gwp_seq_k fun K1 hK1=>?_;refine gS fun K hK=>?_;simp -dsimp;apply hK;clear hK K;refine gwp_block ?_;refine gwp_prune [0,3,4,16,17,18] (Or.inr (by simp)) ?_;simp only[zP,Nat.reduceEqDiff,reduceIte];refine gwp_loop_l [0,4,16,17] (α:=Nat) (fun k=>[(3,I (-1)),(18,I 0)]) (fun k=>[hSb (.fptr x 1 0 0) l sv.length vs fs cuts.length,hNb g fe wi,some (.els 1 (sv.map bCell)),some (.els 4 (cuts.map Cu.cells)),some (.els 2 [[I 0,I 0]])]) (fun k=>True) (fun k=>0) 0 ?_ ?_ ?_
 ·trivial
 ·exact gsub (sub_same (by simp)) (by simp)
 rintro k k1;simp only[zP,Nat.reduceEqDiff,reduceIte];refine gS fun K hK=>?_;simp -dsimp;apply hK;clear hK K;refine gwp_seq_k fun K2 hK2=>?_;refine gwp_cond rfl (fun hc0=>?_) (fun hc0=>?_)
 ·simp[hg]at hc0
 ·refine gwp_exit ?_;simp only[zT,reduceIte,Nat.reduceEqDiff];refine hK1 _ _ ?_;refine gwp_prune [0,3] (Or.inr (by simp)) ?_;simp only[zP,Nat.reduceEqDiff,reduceIte];refine gwp_seq_k fun K3 hK3=>?_;refine gS fun K hK=>?_;simp -dsimp;apply hK;clear hK K;refine gwp_cond rfl (fun hc2=>?_) (fun hc2=>?_)
  ·simp at hc2
  ·refine gwp_skip ?_;simp only[zT,reduceIte,Nat.reduceEqDiff];refine hK3 _ _ ?_;refine gwp_prune [0,3] (Or.inr (by simp)) ?_;simp only[zP,Nat.reduceEqDiff,reduceIte];refine gS fun K hK=>?_;simp -dsimp;apply hK;clear hK K;exact gwp_ret ⟨[some 0,some 1,some 2,some 3],rfl,by simp,by simp,by simp,by simp[resP,tupOf]⟩
end Go.Cur
end
section
namespace Go.Cur
open Go.AM Go.Proofs
def setT (bs:Kvs) (p:List Int):Kvs:=p.foldl (fun b k=>kvSet b (ik k) (.bool true)) bs
theorem setT_snoc {bs:Kvs} {p:List Int} {k:Nat} {x:Int} (h:p[k]?=some x):setT bs (p.take (k+1))=kvSet (setT bs (p.take k)) (ik x) (.bool true):=by
 unfold setT;rw[List.take_add_one,h,List.foldl_append];rfl
theorem ibt_setT (y:Int):∀(p:List Int) (bs:Kvs),ibt (setT bs p) y=(decide (y∈p)||ibt bs y)
 |[],bs=>by simp[setT]
 |x::p,bs=>by
  have ih:=ibt_setT y p (kvSet bs (ik x) (.bool true));unfold setT at ih ⊢;rw[List.foldl_cons,ih,ibt_set]
  by_cases h:y=x
  ·subst h;simp
  ·simp[h]
theorem BolM.setT:∀(p:List Int) {bs:Kvs},BolM bs→BolM (Cur.setT bs p)
 |[],bs,h=>h
 |x::p,bs,h=>BolM.setT p (h.set x true)
def lowC (g:Gr) (vf:Nat→Fr) (l:List Ld) (sv:List Bool) (i:Nat):Bool:=
 bAt sv i&&(decide (0<(ldA l i).Units)&&decide ((vf (ldA l i).At.toNat).Num<g.Least*(vf (ldA l i).At.toNat).Den))
def lowS (g:Gr) (s:Sta) (vf:Nat→Fr) (l:List Ld) (sv:List Bool) (bs:Kvs) (i:Nat):Kvs:=
 if lowC g vf l sv i=true then setT bs (upN (partOf g s (ldA l i).At.toNat))else bs
def lowM (g:Gr) (s:Sta) (vf:Nat→Fr) (l:List Ld) (sv:List Bool) (n:Nat):Kvs:=(List.range n).foldl (lowS g s vf l sv) []
theorem lowM_succ (g:Gr) (s:Sta) (vf:Nat→Fr) (l:List Ld) (sv:List Bool) (n:Nat):lowM g s vf l sv (n+1)=lowS g s vf l sv (lowM g s vf l sv n) n:=by
 unfold lowM;rw[List.range_succ,List.foldl_append];rfl
theorem lowM_bol (g:Gr) (s:Sta) (vf:Nat→Fr) (l:List Ld) (sv:List Bool):∀n,BolM (lowM g s vf l sv n)
 |0=>BolM.nil
 |n+1=>by
  rw[lowM_succ];unfold lowS
  split
  ·exact BolM.setT _ (lowM_bol g s vf l sv n)
  ·exact lowM_bol g s vf l sv n
theorem up_fr (n:Nat) (l:List Fr):(l.map Fr.cells).map (fun e=>e.map (upAV n))=l.map Fr.cells:=by
 rw[List.map_map];exact List.map_congr_left fun x _=>rfl
theorem m_lowa (x:Value) (g:Gr) (fe wi:List Bool) (l:List Ld) (sv:List Bool) (vs fs:List Fr) (cuts:List Cu) (hl:l.length≤1000) (hs:sv.length=l.length) (hc:cuts.length≤1000)
  (hld:∀y∈l,0≤y.At∧y.At<g.Nodes) (hnt:NetOk g ⟨fe,wi⟩) (h12:Few12 g ⟨fe,wi⟩) (vf:Nat→Fr) (hv:∀p∈partL g ⟨fe,wi⟩,∃v d,VPart g ⟨fe,wi⟩ (tkK l sv) p v d vf)
  (hvd:∀k,k<g.Nodes.toNat→0<(vf k).Den∧(vf k).Den≤100000000000000) (r:Bool) (sv2:List Bool) (cuts2:List Cu)
  (ht:∀i:Nat,leL l sv (lowB (lowM g ⟨fe,wi⟩ vf l sv l.length)) l.length=i→r=true∧sv2=sv.set i false∧cuts2=cuts++[(⟨3,i,vf (ldA l i).At.toNat⟩:Cu)])
  (hf:leL l sv (lowB (lowM g ⟨fe,wi⟩ vf l sv l.length)) l.length<0→r=false∧sv2=sv∧cuts2=cuts):
  MutCall Try.prog 44 [.ptr 0 0 0] [hSa (.fptr x 1 0 0) l sv.length vs fs cuts.length,hNa g fe wi] [some (.els 1 (sv.map bCell)),some (.els 1 (fe.map bCell)),some (.els 4 (cuts.map Cu.cells))]
   (Bo r) [hSa (.fptr x 1 0 0) l sv2.length (vlA g.Nodes.toNat vf) (flA g ⟨fe,wi⟩ vf) cuts2.length,hNa g fe wi] [some (.els 1 (sv2.map bCell)),some (.els 1 (fe.map bCell)),some (.els 4 (cuts2.map Cu.cells))]:=by
 refine MutCall.keep (Hk:=[_]) (Hk':=[_]) 0 0 0 (x:=x) (i:=0) (o:=0) ?_ rfl rfl rfl rfl rfl rfl;have hbd:=grB_bd hnt.gr;have hsol:=m_solve_t g ⟨fe,wi⟩ (tkK l sv) hnt h12 vf hv;have hvN:(vlA g.Nodes.toNat vf).length=g.Nodes.toNat:=by simp[vlA]
 have hfN:(flA g ⟨fe,wi⟩ vf).length=g.Feeds.length:=by simp[flA]
 have htv:List.take g.Nodes.toNat ((vlA g.Nodes.toNat vf).map Fr.cells)=(vlA g.Nodes.toNat vf).map Fr.cells:=List.take_of_length_le (by simp;omega);have htf:List.take g.Feeds.length ((flA g ⟨fe,wi⟩ vf).map Fr.cells)=(flA g ⟨fe,wi⟩ vf).map Fr.cells:=List.take_of_length_le (by simp;omega);have hlb:=leL_bd l sv (lowB (lowM g ⟨fe,wi⟩ vf l sv l.length)) l.length;have hle:=c_least (net g ⟨fe,wi⟩) l sv (fL (vlA g.Nodes.toNat vf)) (fL (flA g ⟨fe,wi⟩ vf)) (cL cuts) 68 [[.mpc false [.i .i64] (lowM g ⟨fe,wi⟩ vf l sv l.length)]] (lowB (lowM g ⟨fe,wi⟩ vf l sv l.length)) hl hs
  (fun y hy=>c_low1 (lowM g ⟨fe,wi⟩ vf l sv l.length) (lowM_bol _ _ _ _ _ _) y)
 have hgv:=fun k (hk:k<g.Nodes.toNat)=>vlA_get (vf:=vf) hk;obtain⟨VS,hVS⟩:∃VS,VS=vlA g.Nodes.toNat vf:=⟨_,rfl⟩;obtain⟨FS,hFS⟩:∃FS,FS=flA g ⟨fe,wi⟩ vf:=⟨_,rfl⟩;obtain⟨lm,hlm⟩:∃lm:Nat→Kvs,lm=lowM g ⟨fe,wi⟩ vf l sv:=⟨_,rfl⟩;have hls:=fun n=>lowM_succ g ⟨fe,wi⟩ vf l sv n;have hl0:lm 0=[]:=by rw[hlm];rfl
 rw[←hVS]at hsol hvN htv hle hgv ⊢;rw[←hFS]at hsol hfN htf hle ⊢;rw[←hlm]at hle hlb ht hf hls;clear hVS hFS hlm;generalize leL l sv (lowB (lm l.length)) l.length=out at ht hf hlb hle;refine MutCall.of_bodyG [0] Try.func44 rfl (by decide) (by simp[Try.ntmps44]) rfl rfl ?_;intro J hJ;simp only[Try.ntmps44,Try.results44];refine gS fun K hK=>?_;simp -dsimp;apply hK;clear hK K;refine gwp_peekN [3,4] [0] [(0,stg g ⟨fe,wi⟩ l sv (fL vs) (fL fs) (cL cuts))] (⟨.inr (by simp),trivial⟩) (by decide) (fun T' H'=>Go.AM.look T' 3= .ptr 5 0 0∧Go.AM.look T' 4=Bo true∧H'=[some (.map false [.i .i64] (tkK l sv)),some (.els 2 (VS.map Fr.cells)),some (.els 2 (FS.map Fr.cells)),some (.els 2 [[.row 1 0 g.Nodes.toNat, .row 2 0 g.Feeds.length]]),some (.els 1 [[Bo true]]),some (.els 2 [[.row 1 0 g.Nodes.toNat, .row 2 0 g.Feeds.length]])]) ?_ ?_
 ·intro J1 hJ1;refine gwp_draw mixed rfl (by decide) rfl rfl fun K hK=>?_;simp -dsimp;refine callK_mutF [] [] [some 0] (m_taken l sv hl hs) (by decide) rfl (by simp) (by simp) rfl (by simp) (by simp) (by simp) ?_;simp -dsimp;refine callK_mutF [] [] [none,some 0,some 1,some 2,some 3] (hsol) (by decide) rfl (by simp) (by simp) rfl (by simp) (by simp) (by simp) ?_;simp -dsimp;refine hK _ _ _ (by decide+kernel) ?_;clear hK K;exact⟨rfl,rfl,by simp⟩
 ·intro T' H' hR;obtain⟨hR,hR4,rfl⟩:=hR;refine⟨by simp,?_⟩;simp only[List.map_cons,List.map_nil,List.cons_append,List.nil_append,List.length_cons,List.length_nil,Nat.reduceAdd,Nat.zero_add,Option.map_some,upAV,upRow,Go.AM.look,Nat.reduceEqDiff,reduceIte,hR,hR4,up_fr];refine gwp_seq_k fun K1 hK1=>?_;refine gS fun K hK=>?_;simp -dsimp;apply hK;clear hK K;refine gwp_cond rfl (fun hc0=>?_) (fun hc0=>?_)
  ·simp at hc0
  ·refine gwp_skip ?_;simp only[zT,reduceIte,Nat.reduceEqDiff];refine hK1 _ _ ?_;refine gwp_prune [0,3] (Or.inr (by simp)) ?_;simp only[zP,Nat.reduceEqDiff,reduceIte];refine gS fun K hK=>?_;simp -dsimp;apply hK;clear hK K;refine gwp_weak (gsub (sub_rf (T':=[(0, .ptr 0 0 0),(3, .ptr 5 0 0)]) (H':=[hSa (.fptr x 1 0 0) l sv.length VS FS cuts.length,hNa g fe wi,some (.els 1 (sv.map bCell)),some (.els 1 (fe.map bCell)),some (.els 4 (cuts.map Cu.cells)),some (.els 2 [[fL VS,fL FS]])]) [some 0,some 1,some 2,some 3,some 4,some 10] rfl ⟨.inr (by simp), .inr (by simp),trivial⟩ (by simp[htv,htf];omega)) (by simp)) ?_
   ·refine gS fun K hK=>?_;simp -dsimp;apply hK;clear hK K;refine gwp_seq_k fun K2 hK2=>?_;refine gS fun K hK=>?_;simp -dsimp;apply hK;clear hK K;refine gwp_block ?_;refine gwp_prune [0,3,5,38,39,40] (Or.inr (by simp)) ?_;simp only[zP,Nat.reduceEqDiff,reduceIte];refine gwp_loop_l [0,3,5,38,39] (α:=Nat) (fun k=>[(40,I k)]) (fun k=>[hSa (.fptr x 1 0 0) l sv.length VS FS cuts.length,hNa g fe wi,some (.els 1 (sv.map bCell)),some (.els 1 (fe.map bCell)),some (.els 4 (cuts.map Cu.cells)),some (.els 2 [[fL VS,fL FS]]),some (.map false [.i .i64] (lm k)),some (.els 1 [[.mp 6]])]) (fun k=>k≤l.length) (fun k=>l.length-k) 0 ?_ ?_ ?_
    ·exact Nat.zero_le _
    ·rw[hl0];exact gsub (sub_same (by simp)) (by simp)
    rintro k k1;simp only[zP,Nat.reduceEqDiff,reduceIte];refine gS fun K hK=>?_;simp -dsimp;apply hK;clear hK K;refine gwp_seq_k fun K3 hK3=>?_;refine gwp_cond rfl (fun hc1=>?_) (fun hc1=>?_)
    ·have hkl:k<l.length:=by simpa using hc1
     have wk:=zW k (by omega);have gl:=ldA_get (l:=l) (k:=k) hkl;have gb:=bAt_get (l:=sv) (k:=k) (by omega);have hne:¬sv=[]:=by intro e;rw[e]at hs;simp at hs;omega
     have hks:k<sv.length:=by omega
     have hbe:sv[k]=bAt sv k:=Option.some.inj (by rw[←List.getElem?_eq_getElem hks];exact gb);have hya:=hld _ (List.mem_of_getElem? gl);have hlk:=hls k;unfold lowS lowC at hlk;have hcp:=c_part g ⟨fe,wi⟩ l sv (fL VS) (fL FS) (cL cuts) hnt h12 (ldA l k).At hya.1 hya.2;have hpl:=upN_len (partOf g ⟨fe,wi⟩ (ldA l k).At.toNat);have hpo:=partOf_len g ⟨fe,wi⟩ (ldA l k).At.toNat;generalize upN (partOf g ⟨fe,wi⟩ (ldA l k).At.toNat)=pl at hlk hcp hpl;obtain⟨kA,hkA⟩:∃kA:Nat,(ldA l k).At=kA:=⟨(ldA l k).At.toNat,by omega⟩;have hkN:kA<g.Nodes.toNat:=by omega
     have gv:=hgv kA hkN;have hd:=hvd kA hkN;rw[hkA,Int.toNat_natCast]at hlk;rw[hkA]at hcp;have hLd:0≤g.Least*(vf kA).Den∧g.Least*(vf kA).Den≤1000000000000000000:=⟨Int.mul_nonneg (by omega) (by omega),Int.le_trans (Int.mul_le_mul hbd.2.2.2.2.2 hd.2 (by omega) (by omega)) (by omega)⟩;have w1:IntKind.i64.wrap (g.Least*(vf kA).Den)=g.Least*(vf kA).Den:=wrap_in (by omega) (by omega);obtain⟨LD,hLD⟩:∃LD,g.Least*(vf kA).Den=LD:=⟨_,rfl⟩;rw[hLD]at w1 hlk;refine gwp_skip ?_;simp only[zT,reduceIte,Nat.reduceEqDiff];refine hK3 _ _ ?_;refine gwp_prune [0,3,5,38,39,40] (Or.inr (by simp)) ?_;simp only[zP,Nat.reduceEqDiff,reduceIte];refine gwp_seq_k fun K4 hK4=>?_;refine gwp_block ?_;refine gS fun K hK=>?_;simp -dsimp [gl];apply hK;clear hK K;refine gwp_sd mixed rfl (by decide) rfl rfl fun K hK=>?_;simp -dsimp [gb,hne,hkA,hLD,w1,hks,hbe];refine idxK_intro ((vf kA).cells) (fun _=>by simp[gv]) ?_;simp -dsimp [gb,hne,hkA,hLD,w1,hks,hbe];refine idxK_intro ((vf kA).cells) (fun _=>by simp[gv]) ?_;simp -dsimp [gb,hne,hkA,hLD,w1,hks,hbe];refine hK _ _ _ (by decide+kernel) ?_;clear hK K;refine gwp_cond rfl (fun hc2=>?_) (fun hc2=>?_)
     ·refine gwp_thawE [6,7] [5] [0,3,38,39,40] [(0,stg g ⟨fe,wi⟩ l sv (fL VS) (fL FS) (cL cuts)),(5, .ptr 1 0 0),(7, .iptr (ldA l k).cells)] [some (.map false [.i .i64] (lm k)),some (.els 1 [[.mp 0]])] (by simp) (by decide) (⟨.inr (by simp), .inr (by simp), .inr (by simp[hkA]),trivial⟩) (by simp) (by decide) (fun T' H'=>Go.AM.look T' 5= .ptr 1 0 0∧H'=[some (.map false [.i .i64] (setT (lm k) pl)),some (.els 1 [[.mp 0]])]) ?_ ?_
      ·intro J1 hJ1;refine gR fun K hK=>?_;simp -dsimp [hkA];refine callK_intro _ (hcp) (by simp) ?_;simp -dsimp [hkA];apply hK;clear hK K;refine⟨rfl,?_⟩;refine gwp_block ?_;refine gwp_prune [0,3,5,38,39,40,86,87,88] (Or.inr (by simp)) ?_;simp only[zP,Nat.reduceEqDiff,reduceIte];refine gwp_loop_l [0,3,5,38,39,40,86,87] (α:=Nat) (fun j=>[(88,I j)]) (fun j=>[some (.map false [.i .i64] (setT (lm k) (pl.take j))),some (.els 1 [[.mp 0]])]) (fun j=>j≤pl.length) (fun j=>pl.length-j) 0 ?_ ?_ ?_
       ·exact Nat.zero_le _
       ·exact gsub (sub_same (by simp[setT])) (by simp)
       rintro j j1;simp only[zP,Nat.reduceEqDiff,reduceIte];refine gS fun K hK=>?_;simp -dsimp;apply hK;clear hK K;refine gwp_seq_k fun K5 hK5=>?_;refine gwp_cond rfl (fun hc3=>?_) (fun hc3=>?_)
       ·have hjl:j<pl.length:=by simpa using hc3
        obtain⟨y,hy⟩:∃y,pl[j]?=some y:=⟨_,List.getElem?_eq_getElem hjl⟩;have hst:=setT_snoc (bs:=lm k) hy;have wj:=zW j (by omega);refine gwp_skip ?_;simp only[zT,reduceIte,Nat.reduceEqDiff];refine hK5 _ _ ?_;refine gwp_prune [0,3,5,38,39,40,86,87,88] (Or.inr (by simp)) ?_;simp only[zP,Nat.reduceEqDiff,reduceIte];refine gwp_seq_k fun K6 hK6=>?_;refine gwp_block ?_;refine gS fun K hK=>?_;simp -dsimp [hy];apply hK;clear hK K;refine gR fun K hK=>?_;simp -dsimp;apply hK;clear hK K;simp only[zT,reduceIte,Nat.reduceEqDiff];refine hK6 _ _ ?_;refine gwp_prune [0,3,5,38,39,40,86,87,88] (Or.inr (by simp)) ?_;simp only[zP,Nat.reduceEqDiff,reduceIte];refine gR fun K hK=>?_;simp -dsimp [wj];apply hK;clear hK K;simp only[zT,reduceIte,Nat.reduceEqDiff];exact⟨j+1,by omega,by omega,gsub (sub_rb [some 0,some 1] rfl (by simp) (by simp[hst])) (by simp)⟩
       ·have hje:j=pl.length:=by have hn:¬j<pl.length:=(by simpa using hc3);omega
        have htk:pl.take pl.length=pl:=List.take_of_length_le (by omega);refine gwp_exit ?_;simp only[zT,reduceIte,Nat.reduceEqDiff];exact⟨trivial,rfl,by simp,by rw[hje,htk]⟩
      ·intro T' H' hR;obtain⟨hR,rfl⟩:=hR;refine⟨by simp[thawT],?_⟩;have hg:gfro [6,7] 9=[some 0,some 1,some 2,some 3,some 4,some 5,none,none,some 8]:=rfl;have e1:bkAV [6,7] (.ptr 1 0 0)= .ptr 7 0 0:=rfl;have e2:∀a b c,bkRow [6,7] (.map a b c)= .map a b c:=fun _ _ _=>rfl;have e3:bkRow [6,7] (.els 1 [[.mp 0]])= .els 1 [[.mp 6]]:=rfl;have hr:List.range 9=[0,1,2,3,4,5,6,7,8]:=rfl;simp only[thawT,thawH,List.length_cons,List.length_nil,Nat.reduceAdd,Nat.zero_add,hg,hr,List.map_cons,List.map_nil,List.cons_append,List.nil_append,hR];simp only[zT,reduceIte,Nat.reduceEqDiff];refine hK4 _ _ ?_;refine gwp_prune [0,3,5,38,39,40] (Or.inr (by simp)) ?_;simp only[zP,Nat.reduceEqDiff,reduceIte];refine gR fun K hK=>?_;simp -dsimp [wk];apply hK;clear hK K;simp only[zT,reduceIte,Nat.reduceEqDiff];have hcd:(bAt sv k&&(decide (0<(ldA l k).Units)&&decide ((vf kA).Num<LD)))=true:=by simpa [and_assoc]using hc2
       rw[if_pos hcd]at hlk;exact⟨k+1,by omega,by omega,gsub (sub_rb [some 0,some 1,some 2,some 3,some 4,some 5,some 6,some 7] rfl (by simp[e1]) (by simp[hlk,e2,e3])) (by simp)⟩
     ·refine gwp_skip ?_;simp only[zT,reduceIte,Nat.reduceEqDiff];refine hK4 _ _ ?_;refine gwp_prune [0,3,5,38,39,40] (Or.inr (by simp)) ?_;simp only[zP,Nat.reduceEqDiff,reduceIte];refine gR fun K hK=>?_;simp -dsimp [wk];apply hK;clear hK K;simp only[zT,reduceIte,Nat.reduceEqDiff];have hcd:¬(bAt sv k&&(decide (0<(ldA l k).Units)&&decide ((vf kA).Num<LD)))=true:=by intro h;simp at h;simp[h.1,h.2.1,h.2.2]at hc2
      rw[if_neg hcd]at hlk;exact⟨k+1,by omega,by omega,gsub (sub_rb [some 0,some 1,some 2,some 3,some 4,some 5,some 6,some 7] rfl (by simp) (by simp[hlk])) (by simp)⟩
    ·have hke:k=l.length:=by have hn:¬k<l.length:=(by simpa using hc1);omega
     subst hke;refine gwp_exit ?_;simp only[zT,reduceIte,Nat.reduceEqDiff];refine hK2 _ _ ?_;refine gwp_prune [0,3,5] (Or.inr (by simp)) ?_;simp only[zP,Nat.reduceEqDiff,reduceIte];refine gS fun K hK=>?_;simp -dsimp;refine callK_intro _ (hle) (by simp) ?_;simp -dsimp;apply hK;clear hK K;refine gwp_seq_k fun K7 hK7=>?_;refine gS fun K hK=>?_;simp -dsimp;apply hK;clear hK K;refine gwp_cond rfl (fun hc4=>?_) (fun hc4=>?_)
     ·obtain⟨i,rfl⟩:∃i:Nat,out=i:=⟨out.toNat,by have:0≤out:=(by simpa using hc4);omega⟩;have gl:=ldA_get (l:=l) (k:=i) (by omega);have hya:=hld _ (List.mem_of_getElem? gl);obtain⟨e1,e2,e3⟩:=ht i rfl;obtain⟨kA,hkA⟩:∃kA:Nat,(ldA l i).At=kA:=⟨(ldA l i).At.toNat,by omega⟩;have gv:=hgv kA (by omega);rw[hkA,Int.toNat_natCast]at e3;subst e1 e2 e3;refine gwp_draw mixed rfl (by decide) rfl rfl fun K hK=>?_;simp -dsimp [gl,hkA,gv];refine callK_mut [0,1] [2,3,4] [some 0,some 1,none,none,none,none,none,none,some 2,some 3,some 4] ((m_cuta x g fe wi l sv VS FS cuts 3 i (vf kA) (by omega) hc).keep (Hk:=[_]) (Hk':=[_]) 0 0 0 (x:=x) (i:=0) (o:=0) rfl rfl rfl rfl rfl rfl) (by decide) rfl (by simp) (by simp) rfl (by simp) ?_;simp -dsimp [gl,hkA,gv];refine hK _ _ _ (by decide+kernel) ?_;clear hK K;simp only[zT,reduceIte,Nat.reduceEqDiff];refine hK7 _ _ ?_;refine gwp_prune [0,10] (Or.inr (by simp)) ?_;simp only[zP,Nat.reduceEqDiff,reduceIte];refine gS fun K hK=>?_;simp -dsimp;apply hK;clear hK K;exact gwp_ret ⟨[some 0,some 1,some 8,some 9,some 10],rfl,by simp,by simp,by simp,by simp[resP,tupOf]⟩
     ·obtain⟨e1,e2,e3⟩:=hf (by have:¬0≤out:=(by simpa using hc4);omega);subst e1 e2 e3;refine gwp_skip ?_;simp only[zT,reduceIte,Nat.reduceEqDiff];refine hK7 _ _ ?_;refine gwp_prune [0,10] (Or.inr (by simp)) ?_;simp only[zP,Nat.reduceEqDiff,reduceIte];refine gS fun K hK=>?_;simp -dsimp;apply hK;clear hK K;exact gwp_ret ⟨[some 0,some 1,some 2,some 3,some 4],rfl,by simp,by simp,by simp,by simp at hc4;simp[resP,tupOf];omega⟩
theorem m_lowb (x:Value) (g:Gr) (fe wi:List Bool) (l:List Ld) (sv:List Bool) (vs fs:List Fr) (cuts:List Cu) (hl:l.length≤1000) (hs:sv.length=l.length) (hc:cuts.length≤1000)
  (hld:∀y∈l,0≤y.At∧y.At<g.Nodes) (hnt:NetOk g ⟨[],wi⟩) (h12:Few12 g ⟨[],wi⟩) (vf:Nat→Fr) (hv:∀p∈partL g ⟨[],wi⟩,∃v d,VPart g ⟨[],wi⟩ (tkK l sv) p v d vf)
  (hvd:∀k,k<g.Nodes.toNat→0<(vf k).Den∧(vf k).Den≤100000000000000) (r:Bool) (sv2:List Bool) (cuts2:List Cu)
  (ht:∀i:Nat,leL l sv (lowB (lowM g ⟨[],wi⟩ vf l sv l.length)) l.length=i→r=true∧sv2=sv.set i false∧cuts2=cuts++[(⟨3,i,vf (ldA l i).At.toNat⟩:Cu)])
  (hf:leL l sv (lowB (lowM g ⟨[],wi⟩ vf l sv l.length)) l.length<0→r=false∧sv2=sv∧cuts2=cuts):
  MutCall Try.prog 44 [.ptr 0 0 0] [hSb (.fptr x 1 0 0) l sv.length vs fs cuts.length,hNb g fe wi] [some (.els 1 (sv.map bCell)),some (.els 4 (cuts.map Cu.cells))]
   (Bo r) [hSb (.fptr x 1 0 0) l sv2.length (vlA g.Nodes.toNat vf) (flA g ⟨[],wi⟩ vf) cuts2.length,hNb g fe wi] [some (.els 1 (sv2.map bCell)),some (.els 4 (cuts2.map Cu.cells))]:=by
 refine MutCall.keep (Hk:=[_]) (Hk':=[_]) 0 0 0 (x:=x) (i:=0) (o:=0) ?_ rfl rfl rfl rfl rfl rfl;have hbd:=grB_bd hnt.gr;have hsol:=m_solve_t g ⟨[],wi⟩ (tkK l sv) hnt h12 vf hv;have hvN:(vlA g.Nodes.toNat vf).length=g.Nodes.toNat:=by simp[vlA]
 have hfN:(flA g ⟨[],wi⟩ vf).length=g.Feeds.length:=by simp[flA]
 have htv:List.take g.Nodes.toNat ((vlA g.Nodes.toNat vf).map Fr.cells)=(vlA g.Nodes.toNat vf).map Fr.cells:=List.take_of_length_le (by simp;omega);have htf:List.take g.Feeds.length ((flA g ⟨[],wi⟩ vf).map Fr.cells)=(flA g ⟨[],wi⟩ vf).map Fr.cells:=List.take_of_length_le (by simp;omega);have hlb:=leL_bd l sv (lowB (lowM g ⟨[],wi⟩ vf l sv l.length)) l.length;have hle:=c_least (net g ⟨[],wi⟩) l sv (fL (vlA g.Nodes.toNat vf)) (fL (flA g ⟨[],wi⟩ vf)) (cL cuts) 68 [[.mpc false [.i .i64] (lowM g ⟨[],wi⟩ vf l sv l.length)]] (lowB (lowM g ⟨[],wi⟩ vf l sv l.length)) hl hs
  (fun y hy=>c_low1 (lowM g ⟨[],wi⟩ vf l sv l.length) (lowM_bol _ _ _ _ _ _) y)
 have hgv:=fun k (hk:k<g.Nodes.toNat)=>vlA_get (vf:=vf) hk;obtain⟨VS,hVS⟩:∃VS,VS=vlA g.Nodes.toNat vf:=⟨_,rfl⟩;obtain⟨FS,hFS⟩:∃FS,FS=flA g ⟨[],wi⟩ vf:=⟨_,rfl⟩;obtain⟨lm,hlm⟩:∃lm:Nat→Kvs,lm=lowM g ⟨[],wi⟩ vf l sv:=⟨_,rfl⟩;have hls:=fun n=>lowM_succ g ⟨[],wi⟩ vf l sv n;have hl0:lm 0=[]:=by rw[hlm];rfl
 rw[←hVS]at hsol hvN htv hle hgv ⊢;rw[←hFS]at hsol hfN htf hle ⊢;rw[←hlm]at hle hlb ht hf hls;clear hVS hFS hlm;generalize leL l sv (lowB (lm l.length)) l.length=out at ht hf hlb hle;refine MutCall.of_bodyG [0] Try.func44 rfl (by decide) (by simp[Try.ntmps44]) rfl rfl ?_;intro J hJ;simp only[Try.ntmps44,Try.results44];refine gS fun K hK=>?_;simp -dsimp;apply hK;clear hK K;refine gwp_peekN [3,4] [0] [(0,stg g ⟨[],wi⟩ l sv (fL vs) (fL fs) (cL cuts))] (⟨.inr (by simp),trivial⟩) (by decide) (fun T' H'=>Go.AM.look T' 3= .ptr 5 0 0∧Go.AM.look T' 4=Bo true∧H'=[some (.map false [.i .i64] (tkK l sv)),some (.els 2 (VS.map Fr.cells)),some (.els 2 (FS.map Fr.cells)),some (.els 2 [[.row 1 0 g.Nodes.toNat, .row 2 0 g.Feeds.length]]),some (.els 1 [[Bo true]]),some (.els 2 [[.row 1 0 g.Nodes.toNat, .row 2 0 g.Feeds.length]])]) ?_ ?_
 ·intro J1 hJ1;refine gwp_draw mixed rfl (by decide) rfl rfl fun K hK=>?_;simp -dsimp;refine callK_mutF [] [] [some 0] (m_taken l sv hl hs) (by decide) rfl (by simp) (by simp) rfl (by simp) (by simp) (by simp) ?_;simp -dsimp;refine callK_mutF [] [] [none,some 0,some 1,some 2,some 3] (hsol) (by decide) rfl (by simp) (by simp) rfl (by simp) (by simp) (by simp) ?_;simp -dsimp;refine hK _ _ _ (by decide+kernel) ?_;clear hK K;exact⟨rfl,rfl,by simp⟩
 ·intro T' H' hR;obtain⟨hR,hR4,rfl⟩:=hR;refine⟨by simp,?_⟩;simp only[List.map_cons,List.map_nil,List.cons_append,List.nil_append,List.length_cons,List.length_nil,Nat.reduceAdd,Nat.zero_add,Option.map_some,upAV,upRow,Go.AM.look,Nat.reduceEqDiff,reduceIte,hR,hR4,up_fr];refine gwp_seq_k fun K1 hK1=>?_;refine gS fun K hK=>?_;simp -dsimp;apply hK;clear hK K;refine gwp_cond rfl (fun hc0=>?_) (fun hc0=>?_)
  ·simp at hc0
  ·refine gwp_skip ?_;simp only[zT,reduceIte,Nat.reduceEqDiff];refine hK1 _ _ ?_;refine gwp_prune [0,3] (Or.inr (by simp)) ?_;simp only[zP,Nat.reduceEqDiff,reduceIte];refine gS fun K hK=>?_;simp -dsimp;apply hK;clear hK K;refine gwp_weak (gsub (sub_rf (T':=[(0, .ptr 0 0 0),(3, .ptr 4 0 0)]) (H':=[hSb (.fptr x 1 0 0) l sv.length VS FS cuts.length,hNb g fe wi,some (.els 1 (sv.map bCell)),some (.els 4 (cuts.map Cu.cells)),some (.els 2 [[fL VS,fL FS]])]) [some 0,some 1,some 2,some 3,some 9] rfl ⟨.inr (by simp), .inr (by simp),trivial⟩ (by simp[htv,htf];omega)) (by simp)) ?_
   ·refine gS fun K hK=>?_;simp -dsimp;apply hK;clear hK K;refine gwp_seq_k fun K2 hK2=>?_;refine gS fun K hK=>?_;simp -dsimp;apply hK;clear hK K;refine gwp_block ?_;refine gwp_prune [0,3,5,38,39,40] (Or.inr (by simp)) ?_;simp only[zP,Nat.reduceEqDiff,reduceIte];refine gwp_loop_l [0,3,5,38,39] (α:=Nat) (fun k=>[(40,I k)]) (fun k=>[hSb (.fptr x 1 0 0) l sv.length VS FS cuts.length,hNb g fe wi,some (.els 1 (sv.map bCell)),some (.els 4 (cuts.map Cu.cells)),some (.els 2 [[fL VS,fL FS]]),some (.map false [.i .i64] (lm k)),some (.els 1 [[.mp 5]])]) (fun k=>k≤l.length) (fun k=>l.length-k) 0 ?_ ?_ ?_
    ·exact Nat.zero_le _
    ·rw[hl0];exact gsub (sub_same (by simp)) (by simp)
    rintro k k1;simp only[zP,Nat.reduceEqDiff,reduceIte];refine gS fun K hK=>?_;simp -dsimp;apply hK;clear hK K;refine gwp_seq_k fun K3 hK3=>?_;refine gwp_cond rfl (fun hc1=>?_) (fun hc1=>?_)
    ·have hkl:k<l.length:=by simpa using hc1
     have wk:=zW k (by omega);have gl:=ldA_get (l:=l) (k:=k) hkl;have gb:=bAt_get (l:=sv) (k:=k) (by omega);have hne:¬sv=[]:=by intro e;rw[e]at hs;simp at hs;omega
     have hks:k<sv.length:=by omega
     have hbe:sv[k]=bAt sv k:=Option.some.inj (by rw[←List.getElem?_eq_getElem hks];exact gb);have hya:=hld _ (List.mem_of_getElem? gl);have hlk:=hls k;unfold lowS lowC at hlk;have hcp:=c_part g ⟨[],wi⟩ l sv (fL VS) (fL FS) (cL cuts) hnt h12 (ldA l k).At hya.1 hya.2;have hpl:=upN_len (partOf g ⟨[],wi⟩ (ldA l k).At.toNat);have hpo:=partOf_len g ⟨[],wi⟩ (ldA l k).At.toNat;generalize upN (partOf g ⟨[],wi⟩ (ldA l k).At.toNat)=pl at hlk hcp hpl;obtain⟨kA,hkA⟩:∃kA:Nat,(ldA l k).At=kA:=⟨(ldA l k).At.toNat,by omega⟩;have hkN:kA<g.Nodes.toNat:=by omega
     have gv:=hgv kA hkN;have hd:=hvd kA hkN;rw[hkA,Int.toNat_natCast]at hlk;rw[hkA]at hcp;have hLd:0≤g.Least*(vf kA).Den∧g.Least*(vf kA).Den≤1000000000000000000:=⟨Int.mul_nonneg (by omega) (by omega),Int.le_trans (Int.mul_le_mul hbd.2.2.2.2.2 hd.2 (by omega) (by omega)) (by omega)⟩;have w1:IntKind.i64.wrap (g.Least*(vf kA).Den)=g.Least*(vf kA).Den:=wrap_in (by omega) (by omega);obtain⟨LD,hLD⟩:∃LD,g.Least*(vf kA).Den=LD:=⟨_,rfl⟩;rw[hLD]at w1 hlk;refine gwp_skip ?_;simp only[zT,reduceIte,Nat.reduceEqDiff];refine hK3 _ _ ?_;refine gwp_prune [0,3,5,38,39,40] (Or.inr (by simp)) ?_;simp only[zP,Nat.reduceEqDiff,reduceIte];refine gwp_seq_k fun K4 hK4=>?_;refine gwp_block ?_;refine gS fun K hK=>?_;simp -dsimp [gl];apply hK;clear hK K;refine gwp_sd mixed rfl (by decide) rfl rfl fun K hK=>?_;simp -dsimp [gb,hne,hkA,hLD,w1,hks,hbe];refine idxK_intro ((vf kA).cells) (fun _=>by simp[gv]) ?_;simp -dsimp [gb,hne,hkA,hLD,w1,hks,hbe];refine idxK_intro ((vf kA).cells) (fun _=>by simp[gv]) ?_;simp -dsimp [gb,hne,hkA,hLD,w1,hks,hbe];refine hK _ _ _ (by decide+kernel) ?_;clear hK K;refine gwp_cond rfl (fun hc2=>?_) (fun hc2=>?_)
     ·refine gwp_thawE [5,6] [5] [0,3,38,39,40] [(0,stg g ⟨[],wi⟩ l sv (fL VS) (fL FS) (cL cuts)),(5, .ptr 1 0 0),(7, .iptr (ldA l k).cells)] [some (.map false [.i .i64] (lm k)),some (.els 1 [[.mp 0]])] (by simp) (by decide) (⟨.inr (by simp), .inr (by simp), .inr (by simp[hkA]),trivial⟩) (by simp) (by decide) (fun T' H'=>Go.AM.look T' 5= .ptr 1 0 0∧H'=[some (.map false [.i .i64] (setT (lm k) pl)),some (.els 1 [[.mp 0]])]) ?_ ?_
      ·intro J1 hJ1;refine gR fun K hK=>?_;simp -dsimp [hkA];refine callK_intro _ (hcp) (by simp) ?_;simp -dsimp [hkA];apply hK;clear hK K;refine⟨rfl,?_⟩;refine gwp_block ?_;refine gwp_prune [0,3,5,38,39,40,86,87,88] (Or.inr (by simp)) ?_;simp only[zP,Nat.reduceEqDiff,reduceIte];refine gwp_loop_l [0,3,5,38,39,40,86,87] (α:=Nat) (fun j=>[(88,I j)]) (fun j=>[some (.map false [.i .i64] (setT (lm k) (pl.take j))),some (.els 1 [[.mp 0]])]) (fun j=>j≤pl.length) (fun j=>pl.length-j) 0 ?_ ?_ ?_
       ·exact Nat.zero_le _
       ·exact gsub (sub_same (by simp[setT])) (by simp)
       rintro j j1;simp only[zP,Nat.reduceEqDiff,reduceIte];refine gS fun K hK=>?_;simp -dsimp;apply hK;clear hK K;refine gwp_seq_k fun K5 hK5=>?_;refine gwp_cond rfl (fun hc3=>?_) (fun hc3=>?_)
       ·have hjl:j<pl.length:=by simpa using hc3
        obtain⟨y,hy⟩:∃y,pl[j]?=some y:=⟨_,List.getElem?_eq_getElem hjl⟩;have hst:=setT_snoc (bs:=lm k) hy;have wj:=zW j (by omega);refine gwp_skip ?_;simp only[zT,reduceIte,Nat.reduceEqDiff];refine hK5 _ _ ?_;refine gwp_prune [0,3,5,38,39,40,86,87,88] (Or.inr (by simp)) ?_;simp only[zP,Nat.reduceEqDiff,reduceIte];refine gwp_seq_k fun K6 hK6=>?_;refine gwp_block ?_;refine gS fun K hK=>?_;simp -dsimp [hy];apply hK;clear hK K;refine gR fun K hK=>?_;simp -dsimp;apply hK;clear hK K;simp only[zT,reduceIte,Nat.reduceEqDiff];refine hK6 _ _ ?_;refine gwp_prune [0,3,5,38,39,40,86,87,88] (Or.inr (by simp)) ?_;simp only[zP,Nat.reduceEqDiff,reduceIte];refine gR fun K hK=>?_;simp -dsimp [wj];apply hK;clear hK K;simp only[zT,reduceIte,Nat.reduceEqDiff];exact⟨j+1,by omega,by omega,gsub (sub_rb [some 0,some 1] rfl (by simp) (by simp[hst])) (by simp)⟩
       ·have hje:j=pl.length:=by have hn:¬j<pl.length:=(by simpa using hc3);omega
        have htk:pl.take pl.length=pl:=List.take_of_length_le (by omega);refine gwp_exit ?_;simp only[zT,reduceIte,Nat.reduceEqDiff];exact⟨trivial,rfl,by simp,by rw[hje,htk]⟩
      ·intro T' H' hR;obtain⟨hR,rfl⟩:=hR;refine⟨by simp[thawT],?_⟩;have hg:gfro [5,6] 8=[some 0,some 1,some 2,some 3,some 4,none,none,some 7]:=rfl;have e1:bkAV [5,6] (.ptr 1 0 0)= .ptr 6 0 0:=rfl;have e2:∀a b c,bkRow [5,6] (.map a b c)= .map a b c:=fun _ _ _=>rfl;have e3:bkRow [5,6] (.els 1 [[.mp 0]])= .els 1 [[.mp 5]]:=rfl;have hr:List.range 8=[0,1,2,3,4,5,6,7]:=rfl;simp only[thawT,thawH,List.length_cons,List.length_nil,Nat.reduceAdd,Nat.zero_add,hg,hr,List.map_cons,List.map_nil,List.cons_append,List.nil_append,hR];simp only[zT,reduceIte,Nat.reduceEqDiff];refine hK4 _ _ ?_;refine gwp_prune [0,3,5,38,39,40] (Or.inr (by simp)) ?_;simp only[zP,Nat.reduceEqDiff,reduceIte];refine gR fun K hK=>?_;simp -dsimp [wk];apply hK;clear hK K;simp only[zT,reduceIte,Nat.reduceEqDiff];have hcd:(bAt sv k&&(decide (0<(ldA l k).Units)&&decide ((vf kA).Num<LD)))=true:=by simpa [and_assoc]using hc2
       rw[if_pos hcd]at hlk;exact⟨k+1,by omega,by omega,gsub (sub_rb [some 0,some 1,some 2,some 3,some 4,some 5,some 6] rfl (by simp[e1]) (by simp[hlk,e2,e3])) (by simp)⟩
     ·refine gwp_skip ?_;simp only[zT,reduceIte,Nat.reduceEqDiff];refine hK4 _ _ ?_;refine gwp_prune [0,3,5,38,39,40] (Or.inr (by simp)) ?_;simp only[zP,Nat.reduceEqDiff,reduceIte];refine gR fun K hK=>?_;simp -dsimp [wk];apply hK;clear hK K;simp only[zT,reduceIte,Nat.reduceEqDiff];have hcd:¬(bAt sv k&&(decide (0<(ldA l k).Units)&&decide ((vf kA).Num<LD)))=true:=by intro h;simp at h;simp[h.1,h.2.1,h.2.2]at hc2
      rw[if_neg hcd]at hlk;exact⟨k+1,by omega,by omega,gsub (sub_rb [some 0,some 1,some 2,some 3,some 4,some 5,some 6] rfl (by simp) (by simp[hlk])) (by simp)⟩
    ·have hke:k=l.length:=by have hn:¬k<l.length:=(by simpa using hc1);omega
     subst hke;refine gwp_exit ?_;simp only[zT,reduceIte,Nat.reduceEqDiff];refine hK2 _ _ ?_;refine gwp_prune [0,3,5] (Or.inr (by simp)) ?_;simp only[zP,Nat.reduceEqDiff,reduceIte];refine gS fun K hK=>?_;simp -dsimp;refine callK_intro _ (hle) (by simp) ?_;simp -dsimp;apply hK;clear hK K;refine gwp_seq_k fun K7 hK7=>?_;refine gS fun K hK=>?_;simp -dsimp;apply hK;clear hK K;refine gwp_cond rfl (fun hc4=>?_) (fun hc4=>?_)
     ·obtain⟨i,rfl⟩:∃i:Nat,out=i:=⟨out.toNat,by have:0≤out:=(by simpa using hc4);omega⟩;have gl:=ldA_get (l:=l) (k:=i) (by omega);have hya:=hld _ (List.mem_of_getElem? gl);obtain⟨e1,e2,e3⟩:=ht i rfl;obtain⟨kA,hkA⟩:∃kA:Nat,(ldA l i).At=kA:=⟨(ldA l i).At.toNat,by omega⟩;have gv:=hgv kA (by omega);rw[hkA,Int.toNat_natCast]at e3;subst e1 e2 e3;refine gwp_draw mixed rfl (by decide) rfl rfl fun K hK=>?_;simp -dsimp [gl,hkA,gv];refine callK_mut [0,1] [2,3] [some 0,some 1,none,none,none,none,none,some 2,some 3] ((m_cutb x g fe wi l sv VS FS cuts 3 i (vf kA) (by omega) hc).keep (Hk:=[_]) (Hk':=[_]) 0 0 0 (x:=x) (i:=0) (o:=0) rfl rfl rfl rfl rfl rfl) (by decide) rfl (by simp) (by simp) rfl (by simp) ?_;simp -dsimp [gl,hkA,gv];refine hK _ _ _ (by decide+kernel) ?_;clear hK K;simp only[zT,reduceIte,Nat.reduceEqDiff];refine hK7 _ _ ?_;refine gwp_prune [0,10] (Or.inr (by simp)) ?_;simp only[zP,Nat.reduceEqDiff,reduceIte];refine gS fun K hK=>?_;simp -dsimp;apply hK;clear hK K;exact gwp_ret ⟨[some 0,some 1,some 7,some 8],rfl,by simp,by simp,by simp,by simp[resP,tupOf]⟩
     ·obtain⟨e1,e2,e3⟩:=hf (by have:¬0≤out:=(by simpa using hc4);omega);subst e1 e2 e3;refine gwp_skip ?_;simp only[zT,reduceIte,Nat.reduceEqDiff];refine hK7 _ _ ?_;refine gwp_prune [0,10] (Or.inr (by simp)) ?_;simp only[zP,Nat.reduceEqDiff,reduceIte];refine gS fun K hK=>?_;simp -dsimp;apply hK;clear hK K;exact gwp_ret ⟨[some 0,some 1,some 2,some 3],rfl,by simp,by simp,by simp,by simp at hc4;simp[resP,tupOf];omega⟩
end Go.Cur
end
section
namespace Go.Cur
open Go.AM Go.Proofs
structure SS where
 sv:List Bool
 fe:List Bool
 cuts:List Cu
 deriving DecidableEq
section
variable (g:Gr) (wi:List Bool) (l:List Ld)
def vfZ (z:SS):Nat→Fr:=vfS g ⟨z.fe,wi⟩ (tkK l z.sv)
def rDead (z:SS):Option SS:=((List.range l.length).find? (deadB g ⟨z.fe,wi⟩ l z.sv)).map fun(i:Nat)=>⟨z.sv.set i false,z.fe,z.cuts++[(⟨1,i,⟨0,1⟩⟩:Cu)]⟩
def iRet (z:SS):Int:=leL l z.sv (retB g ⟨z.fe,wi⟩ (tkK l z.sv)) l.length
def rRet (z:SS):Option SS:=if 0≤iRet g wi l z then some ⟨z.sv.set (iRet g wi l z).toNat false,z.fe,z.cuts++[(⟨2,(iRet g wi l z).toNat,⟨(ldA l (iRet g wi l z).toNat).Units,1⟩⟩:Cu)]⟩else none
def iLow (z:SS):Int:=leL l z.sv (lowB (lowM g ⟨z.fe,wi⟩ (vfZ g wi l z) l z.sv l.length)) l.length
def rLow (z:SS):Option SS:=if 0≤iLow g wi l z then some ⟨z.sv.set (iLow g wi l z).toNat false,z.fe,z.cuts++[(⟨3,(iLow g wi l z).toNat,vfZ g wi l z (ldA l (iLow g wi l z).toNat).At.toNat⟩:Cu)]⟩else none
def iTrip (z:SS):Int:=(trL g (flA g ⟨z.fe,wi⟩ (vfZ g wi l z)) g.Feeds.length).1
def rTrip (z:SS):Option SS:=if 0≤iTrip g wi l z then some ⟨z.sv,z.fe.set (iTrip g wi l z).toNat false,z.cuts++[(⟨4,(iTrip g wi l z).toNat,frA (flA g ⟨z.fe,wi⟩ (vfZ g wi l z)) (iTrip g wi l z).toNat⟩:Cu)]⟩else none
def stepZ (z:SS):Option SS:=(rDead g wi l z).orElse fun _=>(rRet g wi l z).orElse fun _=>(rLow g wi l z).orElse fun _=>rTrip g wi l z
def settleN:Nat→SS→SS
 |0,z=>z
 |n+1,z=>match stepZ g wi l z with
  |some z'=>settleN n z'
  |none=>z
end
def cntT:List Bool→Nat
 |[]=>0
 |b::l=>(if b=true then 1 else 0)+cntT l
def cntZ (z:SS):Nat:=cntT z.sv+cntT z.fe
theorem cnt_set:∀{l:List Bool} {i:Nat},bAt l i=true→cntT (l.set i false)+1=cntT l
 |[],i,h=>by simp[bAt]at h
 |b::l,0,h=>by
  have:b=true:=by simpa [bAt]using h
  subst this;simp[cntT];omega
 |b::l,i+1,h=>by
  have:=cnt_set (l:=l) (i:=i) (by simpa [bAt]using h);simp only[List.set_cons_succ,cntT];omega
theorem cnt_len:∀l:List Bool,cntT l≤l.length
 |[]=>Nat.le_refl _
 |b::l=>by
  have:=cnt_len l;simp only[cntT,List.length_cons];split<;>omega
theorem leL_none {l:List Ld} {sv:List Bool} {q:Ld→Bool}:∀{n:Nat},leL l sv q n<0→∀i,i<n→bAt sv i=true→q (ldA l i)=false
 |0,_,i,hi,_=>by omega
 | n+1,h,i,hi,hb=>by
  rw[leL_succ]at h;have hbd:=leL_bd l sv q n;unfold leS at h
  split at h
  ·omega
  ·rename_i hc
   rcases Nat.lt_succ_iff_lt_or_eq.1 hi with h1|rfl
   ·exact leL_none h i h1 hb
   ·cases hq:q (ldA l i)with
    |false=>rfl
    |true=>exact absurd ⟨hb,hq,Or.inl h⟩ hc
theorem leL_some {l:List Ld} {sv:List Bool} {q:Ld→Bool}:∀{n:Nat},0≤leL l sv q n→bAt sv (leL l sv q n).toNat=true∧q (ldA l (leL l sv q n).toNat)=true
 |0,h=>by simp[leL]at h
 |n+1,h=>by
  rw[leL_succ]at h ⊢;unfold leS at h ⊢
  split at h
  ·rename_i hc;rw[if_pos hc,Int.toNat_natCast];exact⟨hc.1,hc.2.1⟩
  ·rename_i hc;rw[if_neg hc];exact leL_some h
theorem trL_some {g:Gr} {fs:List Fr}:∀{n:Nat},0≤(trL g fs n).1→(trL g fs n).1<n∧0<(ovr g fs (trL g fs n).1.toNat).Num
 |0,h=>by simp[trL]at h
 |n+1,h=>by
  rw[trL_succ]at h ⊢;unfold trS at h ⊢
  split at h
  ·rename_i hc;rw[if_pos hc];simp only[Int.toNat_natCast];exact⟨by omega,hc.1⟩
  ·rename_i hc;rw[if_neg hc];have:=trL_some h;exact⟨by omega,this.2⟩
structure SetOk (g:Gr) (wi:List Bool) (l:List Ld):Prop where
 gr:grB g=true
 sw:wi.length=g.Wires.length
 ld:LdOk g l
 ll:l.length≤900
 p5:∀p∈partL g ⟨[],wi⟩,p.length≤5
structure ZOk (g:Gr) (wi:List Bool) (l:List Ld) (z:SS):Prop where
 sv:z.sv.length=l.length
 fe:z.fe.length=g.Feeds.length
 cu:z.cuts.length+cntZ z≤950
section
variable {g:Gr} {wi:List Bool} {l:List Ld} {z:SS}
theorem SetOk.net (h:SetOk g wi l) (hz:ZOk g wi l z):NetOk g ⟨z.fe,wi⟩:=⟨h.gr,hz.fe,h.sw⟩
theorem SetOk.p5' (h:SetOk g wi l) (fe:List Bool):∀p∈partL g ⟨fe,wi⟩,p.length≤5:=h.p5
theorem SetOk.few (h:SetOk g wi l) (fe:List Bool):Few12 g ⟨fe,wi⟩:=fun p hp=>by have:=h.p5' fe p hp;omega
theorem SetOk.siz (h:SetOk g wi l) (fe:List Bool) (us:Kvs):∀p∈partL g ⟨fe,wi⟩,Siz us p:=fun p hp=>Or.inl (h.p5' fe p hp)
theorem sumU_neg {us:Kvs}:∀{p:List Nat},sumU us p<0→∃k∈p,igt us k<0
 |[],h=>by simp[sumU,sm]at h
 | k::p,h=>by
  by_cases hk:igt us k<0
  ·exact⟨k,by simp,hk⟩
  ·have:sumU us p<0:=by unfold sumU at h ⊢;rw[sm]at h;omega
   obtain⟨j,hj,h⟩:=sumU_neg this;exact⟨j,by simp[hj],h⟩
theorem okZ (h:SetOk g wi l) (hz:ZOk g wi l z) (h1:rDead g wi l z=none) (h2:rRet g wi l z=none):okS g ⟨z.fe,wi⟩ (tkK l z.sv)=true:=by
 have hd:∀i,i<l.length→deadB g ⟨z.fe,wi⟩ l z.sv i=false:=by
  unfold rDead at h1;rw[Option.map_eq_none_iff,List.find?_eq_none]at h1;intro i hi;have:=h1 i (List.mem_range.2 hi);simpa using this
 have hr:iRet g wi l z<0:=by
  unfold rRet at h2
  split at h2
  ·cases h2
  ·omega
 have hr2:=leL_none hr;have load:∀p∈partL g ⟨z.fe,wi⟩,∀k∈p,igt (tkK l z.sv) (k:Nat)≠0→∃i,i<l.length∧bAt z.sv i=true∧(ldA l i).At=(k:Int)∧igt (tkK l z.sv) (k:Nat)=(ldA l i).Units∧p=partOf g ⟨z.fe,wi⟩ (ldA l i).At.toNat:=by
  intro p hp k hk hne
  rcases igt_tk l z.sv (k:Nat)with e|⟨i,y,hi,hs,hy,e⟩
  ·exact absurd e hne
  ·have hil:=(List.getElem?_eq_some_iff.1 hi).1;have hla:ldA l i=y:=by have:=ldA_get hil;rw[hi]at this;exact(Option.some.inj this).symm
   refine⟨i,hil,by unfold bAt;rw[hs];rfl,by rw[hla];exact hy,by rw[hla];exact e,?_⟩;rw[hla,hy,Int.toNat_natCast];exact partOf_eq hp hk
 unfold okS;rw[List.all_eq_true];intro p hp;unfold pvol
 by_cases hf:feedL g ⟨z.fe,wi⟩ (upN p)=[]
 ·rw[if_pos hf];show noneU (tkK l z.sv) p=true;unfold noneU;rw[List.all_eq_true];intro k hk;rw[beq_iff_eq];refine Decidable.byContradiction fun hne=>?_;obtain⟨i,hil,hb,hat,hu,hpe⟩:=load p hp k hk hne;have:=hd i hil;unfold deadB at this;rw[hb,←hpe,hf,←hu]at this;simp[hne]at this
 ·rw[if_neg hf]
  by_cases hs:sumU (tkK l z.sv) p<0
  ·exfalso;obtain⟨k,hk,hneg⟩:=sumU_neg hs;obtain⟨i,hil,hb,hat,hu,hpe⟩:=load p hp k hk (by omega);have:=hr2 i hil hb;unfold retB at this;rw[←hpe,←hu]at this;simp[hneg,hs]at this
  ·rw[if_neg hs]
   split<;>rfl
theorem vpZ (h:SetOk g wi l) (hz:ZOk g wi l z) (h1:rDead g wi l z=none) (h2:rRet g wi l z=none):∀p∈partL g ⟨z.fe,wi⟩,∃v d,VPart g ⟨z.fe,wi⟩ (tkK l z.sv) p v d (vfZ g wi l z):=by
 have ho:=okZ h hz h1 h2;unfold okS at ho;rw[List.all_eq_true]at ho;exact fun p hp=>⟨_,_,vpart (h.net hz) hp (h.siz _ _ p hp) (tkK_int _ _) (tk_bd h.ld _) (ho p hp)⟩
theorem vp_bd {s:Sta} {us:Kvs} {vf:Nat→Fr} (hnt:NetOk g s) (hv:∀p∈partL g s,∃v d,VPart g s us p v d vf) {k:Nat} (hk:k<g.Nodes.toNat):0<(vf k).Den∧(vf k).Den≤100000000000000∧(vf k).Num.natAbs≤300000000000000000:=by
 obtain⟨p,hp,hkp⟩:=List.mem_flatten.1 (partL_all hnt hk);obtain⟨v,d,hV⟩:=hv p hp;obtain⟨j,hj⟩:=List.getElem?_of_mem hkp;have hjl:=(List.getElem?_eq_some_iff.1 hj).1;have hd0:=hV.d0;have hd1:=hV.d1;have hr:=red_bd (n:=at0 v (j:Nat)) hd0;have hgv:=at0_nat (l:=v) (k:=j) (by rw[hV.len];exact hjl);have hnb:=hV.nb _ (List.mem_of_getElem? hgv);rw[hV.fr j k hj];omega
theorem ff_bd {s:Sta} {us:Kvs} {vf:Nat→Fr} (hnt:NetOk g s) (hv:∀p∈partL g s,∃v d,VPart g s us p v d vf) {i:Nat} (hi:i<g.Feeds.length):
  0≤(ffF g s vf i).Num∧(ffF g s vf i).Num≤4000000000000000000∧1≤(ffF g s vf i).Den∧(ffF g s vf i).Den≤100000000000000∧(0<(ffF g s vf i).Num→bAt s.Feeds i=true):=by
 have hg:g.Feeds[i]?=some (fdI g (i:Int)):=by have:=fdI_get (g:=g) (i:=(i:Int)) (by omega) (by omega);rwa [Int.toNat_natCast]at this
 have hb:=hnt.feeds _ (List.mem_of_getElem? hg);have hvb:=vp_bd hnt hv (k:=(fdI g (i:Int)).At.toNat) (by omega);unfold ffF;simp only;generalize vf (fdI g (i:Int)).At.toNat=v at hvb ⊢;have h1:0≤(fdI g (i:Int)).Volts*v.Den∧(fdI g (i:Int)).Volts*v.Den≤100000000000000000:=⟨Int.mul_nonneg (by omega) (by omega),Int.le_trans (Int.mul_le_mul hb.2.2.2.1 hvb.2.1 (by omega) (by omega)) (by omega)⟩
 split
 ·rename_i hc;have hd1:(fdI g (i:Int)).Volts*v.Den-v.Num≤400000000000000000:=by omega
  generalize (fdI g (i:Int)).Volts*v.Den-v.Num=d at*
  have hr:=red_bd (n:=(fdI g (i:Int)).Siem*d) hvb.1;have h2:0≤(fdI g (i:Int)).Siem*d∧(fdI g (i:Int)).Siem*d≤4000000000000000000:=by
   have hc2:=hc.2
   rcases(by omega:(fdI g (i:Int)).Siem=1∨(fdI g (i:Int)).Siem=2∨(fdI g (i:Int)).Siem=3∨(fdI g (i:Int)).Siem=4)with h|h|h|h<;>rw[h]<;>omega
  have h3:0≤(red ((fdI g (i:Int)).Siem*d) v.Den).Num:=by
   unfold red;exact Int.ediv_nonneg h2.1 (by omega)
  exact⟨h3,by omega,by omega,by omega,fun _=>hc.1⟩
 ·exact⟨by decide,by decide,by decide,by decide,fun h=>absurd h (by decide)⟩
theorem frA_fl {s:Sta} {vf:Nat→Fr} {i:Nat} (hi:i<g.Feeds.length):frA (flA g s vf) i=ffF g s vf i:=by
 unfold frA flA;rw[List.getElem?_map,List.getElem?_range hi];rfl
theorem tr_ok {s:Sta} {us:Kvs} {vf:Nat→Fr} (hnt:NetOk g s) (hv:∀p∈partL g s,∃v d,VPart g s us p v d vf):TrOk g (flA g s vf):=by
 have key:∀y∈flA g s vf,∃i,i<g.Feeds.length∧y=ffF g s vf i:=fun y hy=>by
  obtain⟨i,hi,rfl⟩:=List.mem_map.1 hy;exact⟨i,List.mem_range.1 hi,rfl⟩
 refine⟨by simp[flA],fun y hy=>?_,fun y hy=>?_,fun f hf=>?_⟩
 ·obtain⟨i,hi,rfl⟩:=key y hy;have:=ff_bd hnt hv hi;exact⟨this.1,this.2.1⟩
 ·obtain⟨i,hi,rfl⟩:=key y hy;have:=ff_bd hnt hv hi;exact⟨this.2.2.1,this.2.2.2.1⟩
 ·have:=hnt.feeds f hf;omega
theorem step_ok (h:SetOk g wi l) (hz:ZOk g wi l z) {z':SS} (hs:stepZ g wi l z=some z'):ZOk g wi l z'∧cntZ z'+1=cntZ z∧z'.cuts.length=z.cuts.length+1:=by
 have svc:∀{i:Nat} {c:Cu},bAt z.sv i=true→ZOk g wi l ⟨z.sv.set i false,z.fe,z.cuts++[c]⟩∧cntZ ⟨z.sv.set i false,z.fe,z.cuts++[c]⟩+1=cntZ z∧(z.cuts++[c]).length=z.cuts.length+1:=by
  intro i c hb;have h1:=cnt_set hb;have h2:=hz.cu;refine⟨⟨by simp[hz.sv],hz.fe,?_⟩,?_,by simp⟩
  ·unfold cntZ at h2 ⊢;simp only[List.length_append,List.length_singleton];omega
  ·unfold cntZ;simp only;omega
 unfold stepZ at hs
 cases h1:rDead g wi l z with
 |some a=>
  rw[h1]at hs;simp only[Option.orElse_some,Option.some.injEq]at hs;subst hs;unfold rDead at h1;rw[Option.map_eq_some_iff]at h1;obtain⟨i,hi,rfl⟩:=h1;have:=List.find?_some hi;refine svc ?_;unfold deadB at this;simp only[Bool.and_eq_true]at this;exact this.1
 | none=>
  rw[h1]at hs
  cases h2:rRet g wi l z with
  |some a=>
   rw[h2]at hs;simp only[Option.orElse_none,Option.orElse_some,Option.some.injEq]at hs;subst hs;unfold rRet at h2
   split at h2
   ·rename_i hi;simp only[Option.some.injEq]at h2;subst h2;exact svc (leL_some hi).1
   ·cases h2
  | none=>
   rw[h2]at hs;have hv:=vpZ h hz h1 h2
   cases h3:rLow g wi l z with
   |some a=>
    rw[h3]at hs;simp only[Option.orElse_none,Option.orElse_some,Option.some.injEq]at hs;subst hs;unfold rLow at h3
    split at h3
    ·rename_i hi;simp only[Option.some.injEq]at h3;subst h3;exact svc (leL_some hi).1
    ·cases h3
   | none=>
    rw[h3]at hs;simp only[Option.orElse_none]at hs;unfold rTrip at hs
    split at hs
    ·rename_i hi;simp only[Option.some.injEq]at hs;subst hs;obtain⟨k1,k2⟩:=trL_some hi;change iTrip g wi l z<_ at k1;change 0<(ovr g (flA g ⟨z.fe,wi⟩ (vfZ g wi l z)) (iTrip g wi l z).toNat).Num at k2;generalize iTrip g wi l z=i at hi k1 k2;have hfr:=frA_fl (g:=g) (s:=⟨z.fe,wi⟩) (vf:=vfZ g wi l z) (i:=i.toNat) (by omega);have hb:=ff_bd (h.net hz) hv (i:=i.toNat) (by omega);have hl:=(tr_ok (h.net hz) hv).prod (k:=i.toNat) (by omega);unfold ovr at k2;simp only at k2;rw[hfr]at k2 hl;have hb2:bAt z.fe i.toNat=true:=hb.2.2.2.2 (by omega);have h4:=cnt_set hb2;have h5:=hz.cu;refine⟨⟨hz.sv,by simp[hz.fe],?_⟩,?_,by simp⟩
     ·unfold cntZ at h5 ⊢;simp only[List.length_append,List.length_singleton];omega
     ·unfold cntZ;simp only;omega
    ·cases hs
theorem settle_step {n:Nat} {z z':SS} (hs:stepZ g wi l z=some z'):settleN g wi l (n+1) z=settleN g wi l n z':=by
 simp only[settleN,hs]
theorem settle_stop {n:Nat} {z:SS} (hs:stepZ g wi l z=none):settleN g wi l n z=z:=by
 cases n with
 |zero=>rfl
 |succ n=>simp only[settleN,hs]
end
end Go.Cur
end
