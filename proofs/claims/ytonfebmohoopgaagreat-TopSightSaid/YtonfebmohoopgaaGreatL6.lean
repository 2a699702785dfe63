import Derived.Test.YtonfebmohoopgaaGreatL5
set_option maxRecDepth 100000
set_option maxHeartbeats 8000000
set_option linter.unusedVariables false
set_option linter.unusedSimpArgs false
section
namespace Go.Cur
open Go.AM Go.Proofs
theorem upN_any (p:List Nat) (k:Nat) (x:Int) (h0:0≤x):((upN p).take k).any (fun y=>decide (x=y))=(p.take k).any fun y=>decide (x.toNat=y):=by
 unfold upN;rw[←List.map_take,List.any_map]
 congr 1
 funext y
 exact decide_eq_decide.2 (by simp;omega)
theorem firstI_idx {p:List Nat} {x:Int} (h0:0≤x) (hx:x.toNat∈p):firstI (upN p) (fun y=>decide (x=y))=((p.idxOf x.toNat:Nat):Int):=by
 have hg:=idxOf_get hx;refine firstI_hit (x:=x) (by have:=upN_get hg;rwa [Int.toNat_of_nonneg h0]at this) (by simp) ?_;rw[upN_any _ _ _ h0];rw[List.any_eq_false];intro y hy;obtain⟨j,hj⟩:=List.getElem?_of_mem hy;have hjl:=(List.getElem?_eq_some_iff.1 hj).1;rw[List.length_take]at hjl;rw[List.getElem?_take,if_pos (by omega)]at hj;have hlt:j<p.idxOf x.toNat:=by omega
 have hn:=List.not_of_lt_findIdx (p:=(· ==x.toNat)) (xs:=p) hlt
 have hy2:p[j]'(by omega)=y:=(List.getElem?_eq_some_iff.1 hj).2;simp only[decide_eq_true_eq];rintro e;rw[hy2,←e]at hn;simp at hn
theorem c_where (g:Gr) (s:Sta) (p:List Nat) (f:Int) (hp:p.length≤1000) (h0:0≤f) (h1:f<g.Feeds.length) (hA:0≤(fdI g f).At) (hm:(fdI g f).At.toNat∈p):
  PureCall Tryz.prog 97 [I f, .iptr [iL (upN p)], .iptr [net g s]] (I ((p.idxOf (fdI g f).At.toNat:Nat):Int)):=by
 have gf:=fdI_get h0 h1;have hi:=c_IndexN (upN p) (fdI g f).At (by rw[upN_len];omega);rw[firstI_idx hA hm]at hi;refine PureCall.of_body Tryz.func97 rfl (by decide) (by simp[Tryz.ntmps97]) ?_;simp only[Tryz.ntmps97,Tryz.results97];refine aS fun K hK=>?_;simp -dsimp;apply hK;clear hK K;refine awp_sd mixed rfl fun K hK=>?_;simp -dsimp [gf,h0];refine callK_intro _ (hi) (by simp) ?_;simp -dsimp [gf,h0];refine hK _ _ _ (by decide+kernel) ?_;clear hK K;exact awp_ret (by simp)
def fitB (P:Part) (m a:Nat):Bool:=(List.range m).all fun b=>if a.testBit b then decide (0≤P.V b*P.den (bitS a)-P.num (bitS a) (P.p b))else decide (P.V b*P.den (bitS a)-P.num (bitS a) (P.p b)≤0)
def fitC (V:Nat→Int) (q:Nat→Nat) (nu:Nat→Int) (de:Int) (a b:Nat):Bool:=if a.testBit b then decide (0≤V b*de-nu (q b))else decide (V b*de-nu (q b)≤0)
theorem fitB_eq (P:Part) (m a:Nat):fitB P m a=(List.range m).all (fitC P.V P.p (P.num (bitS a)) (P.den (bitS a)) a):=rfl
theorem all_succ (f:Nat→Bool) (b:Nat):(List.range (b+1)).all f=((List.range b).all f&&f b):=by rw[List.range_succ,List.all_append];simp
def zerosL (n:Nat):List Int:=List.replicate n 0
def sumU (us:Kvs) (p:List Nat):Int:=sm (fun x=>igt us x) p
def noneU (us:Kvs) (p:List Nat):Bool:=p.all fun(x:Nat)=>igt us x==0
theorem sumU_snoc {us:Kvs} {p:List Nat} {k x:Nat} (h:p[k]?=some x):sumU us (p.take (k+1))=sumU us (p.take k)+igt us x:=by
 unfold sumU;rw[List.take_add_one,h,sm_append];show _+(igt us x+0)=_;omega
theorem noneU_snoc {us:Kvs} {p:List Nat} {k x:Nat} (h:p[k]?=some x):noneU us (p.take (k+1))=(noneU us (p.take k)&&(igt us x==0)):=by
 unfold noneU;rw[List.take_add_one,h,List.all_append];simp
theorem sumU_bd {us:Kvs} (hus:∀x,-40≤igt us x∧igt us x≤40):∀p:List Nat,-40*(p.length:Int)≤sumU us p∧sumU us p≤40*(p.length:Int)
 |[]=>by simp[sumU,sm]
 |x::p=>by
  have h1:=hus x;have h2:=sumU_bd hus p;unfold sumU at h2 ⊢;rw[sm,List.length_cons];omega
def shiftL (x0:Int) (xs:List Int):Int:=xs.foldl maxI x0
structure NetOk (g:Gr) (s:Sta):Prop where
 gr:grB g=true
 sf:s.Feeds.length=g.Feeds.length
 sw:s.Wires.length=g.Wires.length
structure PartOk (g:Gr) (s:Sta) (p:List Nat):Prop where
 n1:1≤p.length
 n10:p.length≤10
 nd:p.Nodup
 cl:∀w∈onW g.Wires s.Wires,w.a∈p↔w.b∈p
theorem NetOk.wires {g:Gr} {s:Sta} (h:NetOk g s):∀w∈g.Wires,wrB g w=true:=by
 have h1:=h.gr;simp only[grB,Bool.and_eq_true]at h1;have key:∀k,wrTo g k=true→∀i,i<k→∀w,g.Wires[i]?=some w→wrB g w=true:=by
  intro k
  induction k with
  |zero=>intro _ i hi;omega
  |succ k ih=>
   intro hk i hi w hw;simp only[wrTo,Bool.and_eq_true]at hk
   rcases Nat.lt_succ_iff_lt_or_eq.1 hi with h|h
   ·exact ih hk.1 i h w hw
   ·subst h;have:=hk.2;rw[hw]at this;simp only[Bool.and_eq_true]at this;exact this.1
 intro w hw;obtain⟨i,hi⟩:=List.getElem?_of_mem hw;exact key _ h1.1.2 i (List.getElem?_eq_some_iff.1 hi).1 w hi
theorem NetOk.feeds {g:Gr} {s:Sta} (h:NetOk g s):∀f∈g.Feeds,0≤f.At∧f.At<g.Nodes∧1≤f.Volts∧f.Volts≤1000∧1≤f.Siem∧f.Siem≤4∧0≤f.Limit∧f.Limit≤2000:=by
 have h1:=h.gr;simp only[grB,Bool.and_eq_true]at h1;have key:∀k,fdTo g k=true→∀i,i<k→∀f,g.Feeds[i]?=some f→inr f.At 0 (g.Nodes-1)=true∧inr f.Volts 1 1000=true∧inr f.Siem 1 4=true∧inr f.Limit 0 2000=true:=by
  intro k
  induction k with
  |zero=>intro _ i hi;omega
  |succ k ih=>
   intro hk i hi w hw;simp only[fdTo,Bool.and_eq_true]at hk
   rcases Nat.lt_succ_iff_lt_or_eq.1 hi with h|h
   ·exact ih hk.1 i h w hw
   ·subst h;have:=hk.2;rw[hw]at this;simp only[fdB,Bool.and_eq_true]at this;exact⟨this.1.1.1.1,this.1.1.1.2,this.1.1.2,this.1.2⟩
 intro f hf;obtain⟨i,hi⟩:=List.getElem?_of_mem hf;have:=key _ h1.2 i (List.getElem?_eq_some_iff.1 hi).1 f hi;simp only[inr_iff]at this;omega
theorem feedL_mem {g:Gr} {s:Sta} {p:List Nat} {f:Int} (h:f∈feedL g s (upN p)):0≤f∧f<g.Feeds.length∧(fdI g f).At.toNat∈p∧bAt s.Feeds f.toNat=true:=by
 unfold feedL at h;rw[List.mem_filter,upI_mem]at h;obtain⟨⟨h0,h1⟩,h2⟩:=h;simp only[fdOn,Bool.and_eq_true,decide_eq_true_eq]at h2;exact⟨h0,h1,(upN_mem.1 h2.2).2,h2.1⟩
theorem feed_at {g:Gr} {s:Sta} {p:List Nat} {fs:List Int} (hnt:NetOk g s) (hfs:fs=feedL g s (upN p)) {b:Nat} (hb:b<fs.length):
  fs[b]?=some (at0 fs b)∧0≤at0 fs b∧at0 fs b<g.Feeds.length∧g.Feeds[(at0 fs b).toNat]?=some (fdI g (at0 fs b))∧0≤(fdI g (at0 fs b)).At∧(fdI g (at0 fs b)).At.toNat∈p∧1≤(fdI g (at0 fs b)).Volts∧(fdI g (at0 fs b)).Volts≤1000∧1≤(fdI g (at0 fs b)).Siem∧(fdI g (at0 fs b)).Siem≤4:=by
 have h1:=at0_nat hb;have hm:=feedL_mem (by rw[←hfs];exact List.mem_of_getElem? h1);have h2:=fdI_get hm.1 hm.2.1;have h3:=hnt.feeds _ (List.mem_of_getElem? h2);exact⟨h1,hm.1,hm.2.1,h2,h3.1,hm.2.2.1,h3.2.2.1,h3.2.2.2.1,h3.2.2.2.2.1,h3.2.2.2.2.2.1⟩
theorem shiftL_snoc {x0:Int} {xs:List Int} {b:Nat} {x:Int} (h:xs[b]?=some x):shiftL x0 (xs.take (b+1))=maxI (shiftL x0 (xs.take b)) x:=by
 unfold shiftL;rw[List.take_add_one,h,List.foldl_append];rfl
theorem maxI_bd {x y B:Int} (h1:-B≤x∧x≤B) (h2:-B≤y∧y≤B):-B≤maxI x y∧maxI x y≤B:=by
 unfold maxI;split<;>omega
theorem shiftL_bd {B:Int}:∀(xs:List Int) (x0:Int),(-B≤x0∧x0≤B)→(∀x∈xs,-B≤x∧x≤B)→ -B≤shiftL x0 xs∧shiftL x0 xs≤B
 |[],x0,h,_=>h
 |x::xs,x0,h,hx=>by
  unfold shiftL;rw[List.foldl_cons];exact shiftL_bd xs _ (maxI_bd h (hx x (by simp))) fun y hy=>hx y (by simp[hy])
def shl (nl:List Int) (sh:Int) (i:Nat):List Int:=(nl.take i).map (fun x=>x+sh)++nl.drop i
theorem shl_len (nl:List Int) (sh:Int) (i:Nat):(shl nl sh i).length=nl.length:=by
 unfold shl;simp only[List.length_append,List.length_map,List.length_take,List.length_drop];omega
theorem shl_get {nl:List Int} {sh:Int} {i:Nat} {x:Int} (h:nl[i]?=some x):(shl nl sh i)[i]?=some x:=by
 have hi:=(List.getElem?_eq_some_iff.1 h).1;unfold shl;rw[List.getElem?_append_right (by simp;omega)];simp only[List.length_map,List.length_take,Nat.min_eq_left (Nat.le_of_lt hi),Nat.sub_self,List.getElem?_drop,Nat.add_zero];exact h
theorem shl_set {nl:List Int} {sh:Int} {i:Nat} {x:Int} (h:nl[i]?=some x):(shl nl sh i).set i (x+sh)=shl nl sh (i+1):=by
 obtain⟨hi,hx⟩:=List.getElem?_eq_some_iff.1 h;have hl:((nl.take i).map fun x=>x+sh).length=i:=by simp;omega
 have hd:nl.drop i=x::nl.drop (i+1):=by rw[List.drop_eq_getElem_cons hi,hx]
 unfold shl;rw[List.set_append,if_neg (by omega),hl,Nat.sub_self,hd,List.set_cons_zero,List.take_add_one,h];simp
theorem shl_zero (nl:List Int) (sh:Int):shl nl sh 0=nl:=by simp[shl]
theorem shl_all {nl:List Int} {sh:Int} {n:Nat} (h:nl.length=n):shl nl sh n=nl.map fun x=>x+sh:=by
 unfold shl;rw[List.take_of_length_le (by omega),List.drop_of_length_le (by omega),List.append_nil]
def Sml (P:Part) (S:Nat→Bool):Prop:=(∀k,-1000000000000000≤P.num S k∧P.num S k≤1000000000000000)∧0<P.den S∧P.den S≤100000000000000
def Sml0 (P:Part) (i0:Nat):Prop:=(∀k,-1000000000000000≤P.num0 i0 k∧P.num0 i0 k≤1000000000000000)∧0<P.den0 i0∧P.den0 i0≤100000000000000
theorem hxn_2 (H:Nat→Option ARow) {r:Nat} (hr:2≤r):Hxn H [some 0,some 1] r=H r:=by
 unfold Hxn;have:newName [some 0,some 1] r=none:=by
  unfold newName;rw[List.findIdx?_eq_none_iff];intro x hx;simp only[List.mem_cons,List.not_mem_nil,or_false]at hx
  rcases hx with rfl|rfl<;>simp<;>omega
 rw[this]
theorem frz_row {H:Nat→Option ARow} {r n:Nat} {l:List Int} (hr:H r=some (.els 1 (l.map nCell))) (hl:l.length=n) (h1:1≤n):frz H 3 (.row r 0 n)=iL l:=by
 have hp:plainEls (l.map nCell)=true:=by simp
 simp only[frz,hr];rw[if_pos (by simp;omega),if_pos hp,List.drop_zero,List.take_of_length_le (by simp;omega)]
theorem b0_frz (x y z:Option ARow) (M:Hp) (l bl:List Int) {n:Nat} (h:l.set 0 0=bl) (hl:bl.length=n) (h1:1≤n):frz (Hxn (hget (x::y::z::some (.els 1 ((l.map nCell).set 0 [I 0]))::M)) [some 0,some 1]) 3 (.row 3 0 n)=iL bl:=by
 refine frz_row (l:=bl) ?_ hl h1;rw[hxn_2 _ (by omega)];show some (ARow.els 1 ((l.map nCell).set 0 [I 0]))=_;rw[←h,List.map_set];rfl
theorem A0_rows (W:List Wn) (u:Nat→Int) (p:List Nat) (fs:List Nat) (q:Nat→Nat) (s V:Nat→Int) (x y R:Option ARow) (i0:Nat) (hi0:p.getD 0 0=i0) (h1:1≤p.length) (hnd:p.Nodup):
  frz (Hxn (hget (x::y::some (.els 1 ((outs 4 p.length p.length).set 0 [.row (p.length+4) 0 p.length]))::R::(mrows (Lf W p) p.length p.length++[some (.els 1 ((List.replicate p.length [I 0]).set 0 [I 1]))]))) [some 0,some 1]) 3 (.row 2 0 p.length)
   =mL (eqM ((⟨p,lw W,u,fs,q,s,V⟩:Part).A0 i0) p):=by
 refine frz_rows (es:=(outs 4 p.length p.length).set 0 [.row (p.length+4) 0 p.length]) h1 ?_ (by simp) (matL_sq _ _).len fun i hi=>?_
 ·rw[hxn_2 _ (by omega)];rfl
 ·by_cases h0:i=0
  ·subst h0;refine⟨p.length+4,_,by rw[List.getElem?_set_self (by simpa using hi)],matL_get hi,?_,by simp⟩;rw[hxn_2 _ (by omega)];show hget (mrows (Lf W p) p.length p.length++_) p.length=_;rw[hget_mtail0];show some (ARow.els 1 _)=some (ARow.els 1 _)
   congr 2
   refine List.ext_getElem? fun j=>?_
   by_cases hj:j<p.length
   ·rw[List.getElem?_map,List.getElem?_map,List.getElem?_range hj]
    by_cases hj0:j=0
    ·subst hj0;rw[List.getElem?_set_self (by simpa using hj)];have hA:(⟨p,lw W,u,fs,q,s,V⟩:Part).A0 i0 (p.getD 0 0) (p.getD 0 0)=1:=by
      unfold Part.A0;rw[if_pos hi0,if_pos hi0]
     simp only[Option.map_some,hA]
    ·have hne:p.getD j 0≠p.getD 0 0:=fun e=>hj0 (getD_inj hnd hj hi e);have hA:(⟨p,lw W,u,fs,q,s,V⟩:Part).A0 i0 (p.getD 0 0) (p.getD j 0)=0:=by
      unfold Part.A0;rw[if_pos hi0,if_neg (by rw[←hi0];exact hne)]
     rw[List.getElem?_set_ne (fun e=>hj0 e.symm),List.getElem?_replicate,if_pos hj];simp only[Option.map_some,hA]
   ·rw[List.getElem?_eq_none (by simp;omega),List.getElem?_eq_none (by simp;omega)]
  ·refine⟨i+4,_,by rw[List.getElem?_set_ne (fun e=>h0 e.symm),outs_get hi],matL_get hi,?_,by simp⟩;rw[hxn_2 _ (by omega)];show hget (mrows (Lf W p) p.length p.length++_) i=_;rw[hget_mrows hi];unfold mrow;rw[List.map_map]
   congr 2
   refine List.map_congr_left fun j _=>?_;have hne:p.getD i 0≠i0:=fun e=>h0 (getD_inj hnd hi (by omega) (e.trans hi0.symm));show [I (lw W (p.getD i 0) (p.getD j 0))]=[I _];have hA:(⟨p,lw W,u,fs,q,s,V⟩:Part).A0 i0 (p.getD i 0) (p.getD j 0)=lw W (p.getD i 0) (p.getD j 0):=by
    unfold Part.A0;rw[if_neg hne]
   simp only[hA]
theorem b0_row (us:Kvs) (p:List Nat) (L:Nat→Nat→Int) (fs:List Nat) (q:Nat→Nat) (s V:Nat→Int) (i0:Nat) (hi0:p.getD 0 0=i0) (h1:1≤p.length) (hnd:p.Nodup):
  (rgt us p).set 0 0=p.map ((⟨p,L,fun x=>igt us x,fs,q,s,V⟩:Part).b0 i0):=by
 refine List.ext_getElem? fun i=>?_
 by_cases hi:i<p.length
 ·rw[List.getElem?_map,getD_get hi]
  by_cases h0:i=0
  ·subst h0;rw[List.getElem?_set_self (by simpa [rgt]using hi)];simp only[Option.map_some];unfold Part.b0;rw[if_pos hi0]
  ·have hne:p.getD i 0≠i0:=fun e=>h0 (getD_inj hnd hi (by omega) (e.trans hi0.symm));rw[List.getElem?_set_ne (fun e=>h0 e.symm)];unfold rgt;rw[List.getElem?_map,getD_get hi];simp only[Option.map_some];unfold Part.b0;rw[if_neg hne]
 ·rw[List.getElem?_eq_none (by simp[rgt];omega),List.getElem?_eq_none (by simp;omega)]
theorem at_bd {P:Part} {S:Nat→Bool} {c:Nat→Int} {C:Int} {i:Nat} (hC:0≤C) (h:∀b∈P.fs,0≤c b∧c b≤C):0≤P.at_ S c i∧P.at_ S c i≤C*P.fs.length:=by
 unfold Part.at_;generalize P.fs=l at h ⊢
 induction l with
 |nil=>simp[sm]
 |cons b l ih=>
  have h1:=h b (by simp);have h2:=ih fun b hb=>h b (by simp[hb]);rw[sm,List.length_cons,Int.natCast_add,Int.mul_add]
  split<;>omega
theorem A_rows (f:Nat→Nat→Int) (x y R:Option ARow) {n:Nat} (h1:1≤n):frz (Hxn (hget (x::y::some (.els 1 (outs 4 n n))::R::mrows f n n)) [some 0,some 1]) 3 (.row 2 0 n)=mL (matL f n n):=by
 refine frz_rows (es:=outs 4 n n) h1 ?_ (by simp) (matL_sq _ _).len fun i hi=>?_
 ·rw[hxn_2 _ (by omega)];rfl
 ·refine⟨i+4,_,outs_get hi,matL_get hi,?_,by simp⟩;rw[hxn_2 _ (by omega)];show hget (mrows f n n) i=_;rw[hget_mrows' hi];unfold mrow;rw[List.map_map];rfl
theorem b_frz (x y z:Option ARow) (M:Hp) (bl:List Int) {n:Nat} (hl:bl.length=n) (h1:1≤n):frz (Hxn (hget (x::y::z::some (.els 1 (bl.map nCell))::M)) [some 0,some 1]) 3 (.row 3 0 n)=iL bl:=by
 refine frz_row (l:=bl) ?_ hl h1;rw[hxn_2 _ (by omega)];rfl
theorem c_volts (g:Gr) (s:Sta) (p:List Nat) (us:Kvs) (fs:List Int) (hfs:fs=feedL g s (upN p)) (hnt:NetOk g s) (hpt:PartOk g s p) (hI:IntM us) (hus:∀x,-40≤igt us x∧igt us x≤40) (v:List Int) (d:Int) (ok:Bool) (i0:Nat) (hi0:p.getD 0 0=i0)
  (q0:fs=[]→v=zerosL p.length∧d=1∧ok=noneU us p)
  (q1:fs≠[]→sumU us p<0→v=[]∧d=0∧ok=false)
  (q2:fs≠[]→sumU us p=0→Sml0 (Pt g (onW g.Wires s.Wires) us p fs fs.length) i0∧d=(Pt g (onW g.Wires s.Wires) us p fs fs.length).den0 i0∧ok=true∧
   v=p.map fun k=>(Pt g (onW g.Wires s.Wires) us p fs fs.length).num0 i0 k+shiftL ((Pt g (onW g.Wires s.Wires) us p fs fs.length).V 0*(Pt g (onW g.Wires s.Wires) us p fs fs.length).den0 i0-(Pt g (onW g.Wires s.Wires) us p fs fs.length).num0 i0 ((Pt g (onW g.Wires s.Wires) us p fs fs.length).p 0)) ((List.range fs.length).map fun b=>(Pt g (onW g.Wires s.Wires) us p fs fs.length).V b*(Pt g (onW g.Wires s.Wires) us p fs fs.length).den0 i0-(Pt g (onW g.Wires s.Wires) us p fs fs.length).num0 i0 ((Pt g (onW g.Wires s.Wires) us p fs fs.length).p b)))
  (q3:fs≠[]→0<sumU us p→(∀a,1≤a→a<2^fs.length→Sml (Pt g (onW g.Wires s.Wires) us p fs fs.length) (bitS a))∧ok=true∧∃a0,1≤a0∧a0<2^fs.length∧fitB (Pt g (onW g.Wires s.Wires) us p fs fs.length) fs.length a0=true∧(∀a,1≤a→a<a0→fitB (Pt g (onW g.Wires s.Wires) us p fs fs.length) fs.length a=false)∧
   d=(Pt g (onW g.Wires s.Wires) us p fs fs.length).den (bitS a0)∧v=p.map fun k=>(Pt g (onW g.Wires s.Wires) us p fs fs.length).num (bitS a0) k):
  PureCall Tryz.prog 77 [net g s,iL (upN p), .mpc false [.i .i64] us] (.tup [iL v,I d,Bo ok]):=by
 have hpl:=upN_len p;have hb:=grB_bd hnt.gr;have hn10:=hpt.n10;have hfd:=c_feeds g s (upN p) hnt.sf (by omega) (by omega);rw[←hfs]at hfd;have hfm:∀f∈fs,0≤f∧f<g.Feeds.length∧(fdI g f).At.toNat∈p∧bAt s.Feeds f.toNat=true:=fun f hf=>feedL_mem (by rw[←hfs];exact hf);have hfl:fs.length≤12:=by
  have:=List.length_filter_le (fdOn g s (upN p)) (upI g.Feeds.length);rw[upI_len]at this;rw[hfs];unfold feedL;omega
 have heq:=m_equations g s p us p.length rfl hpt.n1 hpt.n10 hpt.nd hI hus hnt.sw hb.2.2.1 hnt.wires hpt.cl;refine PureCall.of_bodyG Tryz.func77 rfl (by decide) (by simp[Tryz.ntmps77]) ?_;intro J hJ;simp only[Tryz.ntmps77,Tryz.results77];refine gS fun K hK=>?_;simp -dsimp;apply hK;clear hK K;refine gS fun K hK=>?_;simp -dsimp;apply hK;clear hK K;refine gwp_seq_k fun K1 hK1=>?_;refine gS fun K hK=>?_;simp -dsimp;apply hK;clear hK K;refine gwp_block ?_;refine gwp_prune [2,3,4,9,10,36,37,38] (Or.inr (by simp)) ?_;simp only[zP,Nat.reduceEqDiff,reduceIte];refine gwp_loop_l [2,3,4,36,37] (α:=Nat) (fun k=>[(9,I (sumU us (p.take k))),(10,Bo (noneU us (p.take k))),(38,I k)]) (fun k=>[some (.els 1 [[net g s]]),some (.els 1 [[iL (upN p)]])]) (fun k=>k≤p.length) (fun k=>p.length-k) 0 ?_ ?_ ?_
 ·exact Nat.zero_le _
 ·exact gsub (sub_same (by simp[sumU,noneU,sm])) (by simp)
 rintro k k1;simp only[zP,Nat.reduceEqDiff,reduceIte];refine gS fun K hK=>?_;simp -dsimp;apply hK;clear hK K;refine gwp_seq_k fun K2 hK2=>?_;refine gwp_cond rfl (fun hc0=>?_) (fun hc0=>?_)
 ·skip
  try simp at hc0
  have hkn:k<p.length:=by rw[←hpl];simpa using hc0
  obtain⟨x,hx⟩:∃x,p[k]?=some x:=⟨_,List.getElem?_eq_getElem hkn⟩;have gx:=upN_get hx;have wk:=zW k (by omega);have hbd:=sumU_bd hus (p.take k);have htl:(p.take k).length=k:=by rw[List.length_take];omega
  rw[htl]at hbd;have ws:IntKind.i64.wrap (sumU us (p.take k)+igt us x)=sumU us (p.take k)+igt us x:=wrap_in (by have:=hus x;omega) (by have:=hus x;omega);refine gwp_skip ?_;simp only[zT,reduceIte,Nat.reduceEqDiff];refine hK2 _ _ ?_;refine gwp_prune [2,3,4,9,10,36,37,38] (Or.inr (by simp)) ?_;simp only[zP,Nat.reduceEqDiff,reduceIte];refine gwp_seq_k fun K3 hK3=>?_;refine gwp_block ?_;refine gS fun K hK=>?_;simp -dsimp [gx];apply hK;clear hK K;refine gS fun K hK=>?_;simp -dsimp [igt_look hI,ws];refine valK_intro (_) (fun hm=>rfl) ?_;simp -dsimp [igt_look hI,ws];apply hK;clear hK K;refine gR fun K hK=>?_;simp -dsimp [igt_look hI];refine valK_intro (_) (fun hm=>rfl) ?_;simp -dsimp [igt_look hI];apply hK;clear hK K;simp only[zT,reduceIte,Nat.reduceEqDiff];refine hK3 _ _ ?_;refine gwp_prune [2,3,4,9,10,36,37,38] (Or.inr (by simp)) ?_;simp only[zP,Nat.reduceEqDiff,reduceIte];refine gR fun K hK=>?_;simp -dsimp [wk];apply hK;clear hK K;simp only[zT,reduceIte,Nat.reduceEqDiff];exact⟨k+1,by omega,by omega,gsub (sub_rb [some 0,some 1] rfl (by simp[sumU_snoc hx,noneU_snoc hx]) (by simp)) (by simp)⟩
 ·skip
  try simp at hc0
  have hkp:¬k<p.length:=by rw[←hpl];simpa using hc0
  have htp:p.take k=p:=List.take_of_length_le (by omega);rw[htp];refine gwp_exit ?_;simp only[zT,reduceIte,Nat.reduceEqDiff];refine hK1 _ _ ?_;refine gwp_prune [2,3,4,9,10] (Or.inr (by simp)) ?_;simp only[zP,Nat.reduceEqDiff,reduceIte];refine gS fun K hK=>?_;simp -dsimp;refine callK_bare _ (fun hm=>hfd) ?_;simp -dsimp;apply hK;clear hK K;refine gS fun K hK=>?_;simp -dsimp;apply hK;clear hK K;refine gwp_seq_k fun K4 hK4=>?_;refine gwp_block ?_;refine gS fun K hK=>?_;simp -dsimp;apply hK;clear hK K;refine gwp_cond rfl (fun hc1=>?_) (fun hc1=>?_)
  ·skip
   try simp at hc1
   have hf0:fs=[]:=hc1;have f9:Fits (upN p).length 9:=fits_of (by omega) (by omega);obtain⟨e1,e2,e3⟩:=q0 hf0;refine gS fun K hK=>?_;simp -dsimp [f9];apply hK;clear hK K;exact gwp_ret (by simp[e1,e2,e3,zerosL,hpl,resP,tupOf])
  ·skip
   try simp at hc1
   have hf0:fs≠[]:=by rintro rfl;simp at hc1
   have hml:1≤fs.length:=by cases fs with|nil=>exact absurd rfl hf0|cons a l=>simp
   refine gS fun K hK=>?_;simp -dsimp;apply hK;clear hK K;refine gwp_cond rfl (fun hc2=>?_) (fun hc2=>?_)
   ·skip
    try simp at hc2
    obtain⟨e1,e2,e3⟩:=q1 hf0 hc2;refine gS fun K hK=>?_;simp -dsimp;apply hK;clear hK K;refine gwp_weak (gsub (sub_nil 6 1 (by simp)) (by simp)) ?_;exact gwp_ret (by simp[e1,e2,e3,resP,tupOf])
   ·skip
    try simp at hc2
    refine gS fun K hK=>?_;simp -dsimp;apply hK;clear hK K;refine gwp_cond rfl (fun hc3=>?_) (fun hc3=>?_)
    ·skip
     try simp at hc3
     obtain⟨⟨z1,z2,z3⟩,e2,e3,e1⟩:=q2 hf0 (by simpa using hc3);have hp0:0<p.length:=by have:=hpt.n1;omega
     have f9:Fits p.length 9:=fits_of (by omega) (by omega);have gr0:(rgt us p)[0]?=some (-igt us (p.getD 0 0)):=by unfold rgt;rw[List.getElem?_map,getD_get hp0];rfl
     have hsol:=m_solved (eqM ((Pt g (onW g.Wires s.Wires) us p fs fs.length).A0 i0) p) (p.map ((Pt g (onW g.Wires s.Wires) us p fs fs.length).b0 i0)) p.length (matL_sq _ _) hpt.n1 hpt.n10 (by simp);have hv0:(p.map fun k=>wr (num ((Pt g (onW g.Wires s.Wires) us p fs fs.length).A0 i0) ((Pt g (onW g.Wires s.Wires) us p fs fs.length).b0 i0) p k))=p.map fun k=>(Pt g (onW g.Wires s.Wires) us p fs fs.length).num0 i0 k:=List.map_congr_left fun k _=>wr_id (by have:=z1 k;unfold Part.num0 at this;show _≤Cur.num _ _ (Pt g (onW g.Wires s.Wires) us p fs fs.length).ns k;omega) (by have:=z1 k;unfold Part.num0 at this;show Cur.num _ _ (Pt g (onW g.Wires s.Wires) us p fs fs.length).ns k≤_;omega);have hd0:wr (D ((Pt g (onW g.Wires s.Wires) us p fs fs.length).A0 i0) p)=(Pt g (onW g.Wires s.Wires) us p fs fs.length).den0 i0:=wr_id (by unfold Part.den0 at z2;show _≤D _ (Pt g (onW g.Wires s.Wires) us p fs fs.length).ns;omega) (by unfold Part.den0 at z3;show D _ (Pt g (onW g.Wires s.Wires) us p fs fs.length).ns≤_;omega);rw[eqM_sol _ _ _ hpt.nd,eqM_det,hv0,hd0]at hsol;have hbl:=b0_row us p (lw (onW g.Wires s.Wires)) (List.range fs.length) (fun b=>(fdOf g fs b).At.toNat) (fun b=>(fdOf g fs b).Siem) (fun b=>(fdOf g fs b).Volts) i0 hi0 hpt.n1 hpt.nd;obtain⟨bl,hbl2⟩:∃bl,bl=p.map ((Pt g (onW g.Wires s.Wires) us p fs fs.length).b0 i0):=⟨_,rfl⟩;obtain⟨M,hM⟩:∃M,M=eqM ((Pt g (onW g.Wires s.Wires) us p fs fs.length).A0 i0) p:=⟨_,rfl⟩;have hbl3:(rgt us p).set 0 0=bl:=by rw[hbl2];exact hbl
     rw[←hbl2,←hM]at hsol;have hzl:∀k x,p[k]?=some x→(p.map fun k=>(Pt g (onW g.Wires s.Wires) us p fs fs.length).num0 i0 k)[k]?=some ((Pt g (onW g.Wires s.Wires) us p fs fs.length).num0 i0 x):=fun k x h=>by rw[List.getElem?_map,h];rfl
     obtain⟨nu,hnu⟩:∃nu,nu=fun k=>(Pt g (onW g.Wires s.Wires) us p fs fs.length).num0 i0 k:=⟨_,rfl⟩;rw[←hnu]at hsol hzl;obtain⟨nl,hnl⟩:∃nl,nl=p.map nu:=⟨_,rfl⟩;rw[←hnl]at hsol hzl;have hfa:=fun b (hb:b<fs.length)=>feed_at hnt hfs hb;obtain⟨d0,hd00⟩:∃d0,d0=(Pt g (onW g.Wires s.Wires) us p fs fs.length).den0 i0:=⟨_,rfl⟩;rw[←hd00]at hsol z2 z3 e2 e1;have hnk:∀k,(Pt g (onW g.Wires s.Wires) us p fs fs.length).num0 i0 k=nu k:=fun k=>by rw[hnu]
     simp only[hnk]at e1 z1 hzl;have hnb:∀k,-1000000000000000≤nu k∧nu k≤1000000000000000:=z1;have hPV:∀(b:Nat),(Pt g (onW g.Wires s.Wires) us p fs fs.length).V b=(fdI g (at0 fs b)).Volts:=fun b=>rfl;have hPp:∀(b:Nat),(Pt g (onW g.Wires s.Wires) us p fs fs.length).p b=(fdI g (at0 fs b)).At.toNat:=fun b=>rfl;simp only[hPV,hPp]at e1;have hvd:∀(b:Nat),b<fs.length→ -100000000000000000≤(fdI g (at0 fs b)).Volts*d0∧(fdI g (at0 fs b)).Volts*d0≤100000000000000000:=fun b hb=>by
      have h:=hfa b hb;have h1:=Int.mul_nonneg (show 0≤(fdI g (at0 fs b)).Volts by omega) (show 0≤d0 by omega);have h2:=Int.mul_le_mul h.2.2.2.2.2.2.2.1 z3 (by omega) (by omega);omega
     have hw1:∀(b:Nat),b<fs.length→IntKind.i64.wrap ((fdI g (at0 fs b)).Volts*d0)=(fdI g (at0 fs b)).Volts*d0:=fun b hb=>wrap_in (by have:=hvd b hb;omega) (by have:=hvd b hb;omega);have hw2:∀(b:Nat),b<fs.length→IntKind.i64.wrap ((fdI g (at0 fs b)).Volts*d0-nu (fdI g (at0 fs b)).At.toNat)=(fdI g (at0 fs b)).Volts*d0-nu (fdI g (at0 fs b)).At.toNat:=fun b hb=>wrap_in (by have:=hvd b hb;have:=hnb (fdI g (at0 fs b)).At.toNat;omega) (by have:=hvd b hb;have:=hnb (fdI g (at0 fs b)).At.toNat;omega);have hwh:=fun b (hb:b<fs.length)=>c_where g s p (at0 fs b) (by omega) (hfa b hb).2.1 (hfa b hb).2.2.1 (hfa b hb).2.2.2.2.1 (hfa b hb).2.2.2.2.2.1;have hzp:=fun b (hb:b<fs.length)=>hzl _ _ (idxOf_get (hfa b hb).2.2.2.2.2.1);have hpi:=fun b (hb:b<fs.length)=>List.idxOf_lt_length_of_mem (hfa b hb).2.2.2.2.2.1;have hnll:nl.length=p.length:=by rw[hnl];simp
     clear hnk hnu hd00;have a0:=hfa 0 hml;have a1:=hw1 0 hml;have a2:=hw2 0 hml;have a3:=hpi 0 hml;have a4:=hzp 0 hml;have a5:=hwh 0 hml;simp only[Int.natCast_zero]at a0 a1 a2 a3 a4 a5;obtain⟨xs,hxs⟩:∃xs:List Int,xs=(List.range fs.length).map fun(b:Nat)=>(fdI g (at0 fs b)).Volts*d0-nu (fdI g (at0 fs b)).At.toNat:=⟨_,rfl⟩;obtain⟨x0,hx0⟩:∃x0,x0=(fdI g (at0 fs 0)).Volts*d0-nu (fdI g (at0 fs 0)).At.toNat:=⟨_,rfl⟩;rw[←hxs]at e1;have hx0':(fdI g (at0 fs ((0:Nat):Int))).Volts*d0-nu (fdI g (at0 fs ((0:Nat):Int))).At.toNat=x0:=hx0.symm;have hxg:∀(b:Nat),b<fs.length→xs[b]?=some ((fdI g (at0 fs b)).Volts*d0-nu (fdI g (at0 fs b)).At.toNat):=fun b hb=>by rw[hxs,List.getElem?_map,List.getElem?_range hb];rfl
     have hxb:∀x∈xs,-200000000000000000≤x∧x≤200000000000000000:=fun x hx=>by
      rw[hxs]at hx;obtain⟨b,hb,rfl⟩:=List.mem_map.1 hx;have:=hvd b (List.mem_range.1 hb);have:=hnb (fdI g (at0 fs b)).At.toNat;omega
     have hx0b:-200000000000000000≤x0∧x0≤200000000000000000:=by rw[hx0];have:=hvd 0 hml;have:=hnb (fdI g (at0 fs 0)).At.toNat;simp only[Int.natCast_zero]at*;omega
     have hxl:xs.length=fs.length:=by rw[hxs];simp
     refine gS fun K hK=>?_;simp -dsimp;refine callK_mat heq (by simp) (fun g=>by simp) ?_;simp -dsimp;apply hK;clear hK K;refine gS fun K hK=>?_;simp -dsimp [f9,hp0,outs_get hp0,gr0,hpl,Nat.add_assoc];apply hK;clear hK K;refine gS fun K hK=>?_;simp -dsimp [hp0,outs_get hp0,gr0,hpl,Nat.add_assoc];apply hK;clear hK K;refine gwp_weak (gsub (sub_rf (T':=[(3, .ptr 0 0 0),(4, .ptr 1 0 0),(13,iL fs),(14, .clo 97 [.ptr 1 0 0, .ptr 0 0 0]),(15,mL M),(16,iL bl)]) (H':=[some (.els 1 [[net g s]]),some (.els 1 [[iL (upN p)]])]) [some 0,some 1] rfl ⟨.inr (by simp), .inr (by simp), .inr (by simp), .inr (by simp), .inr ?_, .inr ?_,trivial⟩ (by simp)) (by simp)) ?_
     ·rw[hM];exact A0_rows _ _ p _ _ _ _ _ _ _ i0 hi0 hpt.n1 hpt.nd
     ·exact b0_frz _ _ _ _ (rgt us p) bl hbl3 (by rw[←hbl3];simp[rgt]) hpt.n1
     ·refine gS fun K hK=>?_;simp -dsimp;refine callK_mut [] [] [none,none,some 0] (hsol) (by decide) rfl (by simp) (by simp) rfl (by simp) ?_;simp -dsimp;apply hK;clear hK K;refine gwp_sd mixed rfl (by decide) rfl rfl fun K hK=>?_;simp -dsimp [a0.1,a0.2.1,a0.2.2.2.1,a1,a2,a3,a4];refine callK_intro _ (a5) (by simp) ?_;simp -dsimp [a0.1,a0.2.1,a0.2.2.2.1,a1,a2,a3,a4];refine hK _ _ _ (by decide+kernel) ?_;clear hK K;refine gwp_seq_k fun K5 hK5=>?_;refine gS fun K hK=>?_;simp -dsimp;apply hK;clear hK K;refine gwp_block ?_;refine gwp_prune [3,14,17,18,19,119,120,121] (Or.inr (by simp)) ?_;simp only[zP,Nat.reduceEqDiff,reduceIte];refine gwp_loop_l [3,14,17,18,119,120] (α:=Nat) (fun b=>[(19,I (shiftL x0 (xs.take b))),(121,I b)]) (fun b=>[some (.els 1 [[net g s]]),some (.els 1 [[iL (upN p)]]),some (.els 1 (nl.map nCell))]) (fun b=>b≤fs.length) (fun b=>fs.length-b) 0 ?_ ?_ ?_
      ·exact Nat.zero_le _
      ·refine gsub (sub_rb [some 0,some 1,some 2] rfl ?_ (by simp)) (by simp);simp[shiftL,hx0]
      rintro b b1;simp only[zP,Nat.reduceEqDiff,reduceIte];refine gS fun K hK=>?_;simp -dsimp;apply hK;clear hK K;refine gwp_seq_k fun K6 hK6=>?_;refine gwp_cond rfl (fun hc4=>?_) (fun hc4=>?_)
      ·have hbl:b<fs.length:=by simpa using hc4
       have wb:=zW b (by omega);refine gwp_skip ?_;simp only[zT,reduceIte,Nat.reduceEqDiff];refine hK6 _ _ ?_;refine gwp_prune [3,14,17,18,19,119,120,121] (Or.inr (by simp)) ?_;simp only[zP,Nat.reduceEqDiff,reduceIte];refine gwp_seq_k fun K7 hK7=>?_;refine gwp_block ?_;refine gS fun K hK=>?_;simp -dsimp [(hfa b hbl).1];apply hK;clear hK K;refine gwp_draw mixed rfl (by decide) rfl rfl fun K hK=>?_;simp -dsimp [(hfa b hbl).1,(hfa b hbl).2.1,(hfa b hbl).2.2.2.1,hw1 b hbl,hw2 b hbl,hpi b hbl,hzp b hbl];refine callK_intro _ (hwh b hbl) (by simp) ?_;simp -dsimp [(hfa b hbl).1,(hfa b hbl).2.1,(hfa b hbl).2.2.2.1,hw1 b hbl,hw2 b hbl,hpi b hbl,hzp b hbl];refine hK _ _ _ (by decide+kernel) ?_;clear hK K;simp only[zT,reduceIte,Nat.reduceEqDiff];refine hK7 _ _ ?_;refine gwp_prune [3,14,17,18,19,119,120,121] (Or.inr (by simp)) ?_;simp only[zP,Nat.reduceEqDiff,reduceIte];refine gR fun K hK=>?_;simp -dsimp [wb];apply hK;clear hK K;simp only[zT,reduceIte,Nat.reduceEqDiff];exact⟨b+1,by omega,by omega,gsub (sub_rb [some 0,some 1,some 2] rfl (by simp[shiftL_snoc (hxg b hbl),maxI]) (by simp)) (by simp)⟩
      ·have hbl:¬b<fs.length:=by simpa using hc4
       have htx:xs.take b=xs:=List.take_of_length_le (by omega);rw[htx];have hsb:=shiftL_bd xs x0 hx0b hxb;generalize hsh:shiftL x0 xs=sh at hsb ⊢;refine gwp_exit ?_;simp only[zT,reduceIte,Nat.reduceEqDiff];refine hK5 _ _ ?_;refine gwp_prune [17,18,19] (Or.inr (by simp)) ?_;simp only[zP,Nat.reduceEqDiff,reduceIte];refine gwp_seq_k fun K8 hK8=>?_;refine gS fun K hK=>?_;simp -dsimp;apply hK;clear hK K;refine gwp_block ?_;refine gwp_prune [17,18,19,147,148] (Or.inr (by simp)) ?_;simp only[zP,Nat.reduceEqDiff,reduceIte];refine gwp_loop_l [17,18,19,147] (α:=Nat) (fun i=>[(148,I i)]) (fun i=>[some (.els 1 [[net g s]]),some (.els 1 [[iL (upN p)]]),some (.els 1 ((shl nl sh i).map nCell))]) (fun i=>i≤p.length) (fun i=>p.length-i) 0 ?_ ?_ ?_
       ·exact Nat.zero_le _
       ·refine gsub (sub_rb [some 0,some 1,some 2] rfl (by simp) (by simp[shl_zero])) (by simp)
       rintro i i1;simp only[zP,Nat.reduceEqDiff,reduceIte];refine gS fun K hK=>?_;simp -dsimp;apply hK;clear hK K;refine gwp_seq_k fun K9 hK9=>?_;refine gwp_cond rfl (fun hc5=>?_) (fun hc5=>?_)
       ·have hin:i<p.length:=by simpa using hc5
        have wi:=zW i (by omega);obtain⟨x,hx⟩:∃x,nl[i]?=some x:=⟨_,List.getElem?_eq_getElem (by omega)⟩;have hxn:-1000000000000000≤x∧x≤1000000000000000:=by
         rw[hnl,List.getElem?_map]at hx;obtain⟨y,_,rfl⟩:=Option.map_eq_some_iff.1 hx;exact hnb y
        have gsh:=shl_get (sh:=sh) hx;have wx:IntKind.i64.wrap (x+sh)=x+sh:=wrap_in (by omega) (by omega);have hst:=shl_set (sh:=sh) hx;refine gwp_skip ?_;simp only[zT,reduceIte,Nat.reduceEqDiff];refine hK9 _ _ ?_;refine gwp_prune [17,18,19,147,148] (Or.inr (by simp)) ?_;simp only[zP,Nat.reduceEqDiff,reduceIte];refine gwp_seq_k fun K10 hK10=>?_;refine gwp_block ?_;refine gS fun K hK=>?_;simp -dsimp;apply hK;clear hK K;refine gR fun K hK=>?_;simp -dsimp [hin,gsh,wx];apply hK;clear hK K;simp only[zT,reduceIte,Nat.reduceEqDiff];refine hK10 _ _ ?_;refine gwp_prune [17,18,19,147,148] (Or.inr (by simp)) ?_;simp only[zP,Nat.reduceEqDiff,reduceIte];refine gR fun K hK=>?_;simp -dsimp [wi];apply hK;clear hK K;simp only[zT,reduceIte,Nat.reduceEqDiff];exact⟨i+1,by omega,by omega,gsub (sub_rb [some 0,some 1,some 2] rfl (by simp) (by simp[←hst,List.map_set])) (by simp)⟩
       ·have hin0:¬i<p.length:=by simpa using hc5
        have hin:i=p.length:=by omega
        refine gwp_exit ?_;simp only[zT,reduceIte,Nat.reduceEqDiff];refine hK8 _ _ ?_;refine gwp_prune [17,18] (Or.inr (by simp)) ?_;simp only[zP,Nat.reduceEqDiff,reduceIte];refine gS fun K hK=>?_;simp -dsimp;apply hK;clear hK K;have hsl:shl nl sh p.length=v:=by
         rw[shl_all hnll,e1,hnl,List.map_map,hx0',hsh];rfl
        have hvl:v.length=p.length:=by rw[←hsl,shl_len,hnll]
        rw[hin,hsl];exact gwp_ret (by simp[e2,e3,resP,tupOf,←hvl])
    ·skip
     try simp at hc3
     have hsp:0<sumU us p:=by omega
     obtain⟨hsm,e3,a0,ha1,ha2,haf,hal,e2,e1⟩:=q3 hf0 hsp;have hfa:=fun b (hb:b<fs.length)=>feed_at hnt hfs hb;have hwh:=fun b (hb:b<fs.length)=>c_where g s p (at0 fs b) (by omega) (hfa b hb).2.1 (hfa b hb).2.2.1 (hfa b hb).2.2.2.2.1 (hfa b hb).2.2.2.2.2.1;have hpi:=fun b (hb:b<fs.length)=>List.idxOf_lt_length_of_mem (hfa b hb).2.2.2.2.2.1;have hm64:fs.length≤IntKind.i64.bits:=Nat.le_trans (show fs.length≤12 by omega) (by decide);have hsh:IntKind.i64.wrap (2^fs.length)=2^fs.length:=by have:=shl1 fs.length (by omega);rw[Int.toNat_natCast,Int.one_mul,Int.natCast_pow]at this;exact this
     have hpow:2^fs.length≤2^12:=Nat.pow_le_pow_right (by omega) hfl;refine gwp_skip ?_;simp only[zT,reduceIte,Nat.reduceEqDiff];refine hK4 _ _ ?_;refine gwp_prune [2,3,4,13,14] (Or.inr (by simp)) ?_;simp only[zP,Nat.reduceEqDiff,reduceIte];refine gwp_seq_k fun K11 hK11=>?_;refine gS fun K hK=>?_;simp -dsimp [hm64,hsh];apply hK;clear hK K;refine gwp_block ?_;refine gwp_prune [2,3,4,13,14,163,164] (Or.inr (by simp)) ?_;simp only[zP,Nat.reduceEqDiff,reduceIte];refine gwp_loop_l [2,3,4,13,14,163] (α:=Nat) (fun a=>[(164,I a)]) (fun a=>[some (.els 1 [[net g s]]),some (.els 1 [[iL (upN p)]])]) (fun a=>a≤a0) (fun a=>2^fs.length-a) 0 ?_ ?_ ?_
     ·exact Nat.zero_le _
     ·exact gsub (sub_same (by simp)) (by simp)
     rintro a a1;simp only[zP,Nat.reduceEqDiff,reduceIte];refine gS fun K hK=>?_;simp -dsimp;apply hK;clear hK K;refine gwp_seq_k fun K12 hK12=>?_;refine gwp_cond rfl (fun hc6=>?_) (fun hc6=>?_)
     ·have hal2:a<2^fs.length:=by omega
      have wa:=zW a (by omega);refine gwp_skip ?_;simp only[zT,reduceIte,Nat.reduceEqDiff];refine hK12 _ _ ?_;refine gwp_prune [2,3,4,13,14,163,164] (Or.inr (by simp)) ?_;simp only[zP,Nat.reduceEqDiff,reduceIte];refine gwp_seq_k fun K13 hK13=>?_;refine gwp_block ?_;refine gS fun K hK=>?_;simp -dsimp;apply hK;clear hK K;refine gwp_seq_k fun K14 hK14=>?_;refine gS fun K hK=>?_;simp -dsimp;apply hK;clear hK K;refine gwp_cond rfl (fun hc7=>?_) (fun hc7=>?_)
      ·skip
       try simp at hc7
       refine gwp_exit ?_;simp only[zT,reduceIte,Nat.reduceEqDiff];refine hK13 _ _ ?_;refine gwp_prune [2,3,4,13,14,163,164] (Or.inr (by simp)) ?_;simp only[zP,Nat.reduceEqDiff,reduceIte];refine gR fun K hK=>?_;simp -dsimp [wa];apply hK;clear hK K;simp only[zT,reduceIte,Nat.reduceEqDiff];exact⟨a+1,by omega,by omega,gsub (sub_rb [some 0,some 1] rfl (by simp) (by simp)) (by simp)⟩
      ·skip
       try simp at hc7
       refine gwp_skip ?_;simp only[zT,reduceIte,Nat.reduceEqDiff];refine hK14 _ _ ?_;refine gwp_prune [2,3,4,13,14,23,163,164] (Or.inr (by simp)) ?_;simp only[zP,Nat.reduceEqDiff,reduceIte];refine gS fun K hK=>?_;simp -dsimp;refine callK_mat heq (by simp) (fun g=>by simp) ?_;simp -dsimp;apply hK;clear hK K;refine gwp_seq_k fun K15 hK15=>?_;refine gS fun K hK=>?_;simp -dsimp;apply hK;clear hK K;refine gwp_block ?_;refine gwp_prune [2,3,4,13,14,23,24,25,163,164,176,177,178] (Or.inr (by simp)) ?_;simp only[zP,Nat.reduceEqDiff,reduceIte];refine gwp_loop_l [2,3,4,13,14,23,24,25,163,164,176,177] (α:=Nat) (fun t=>[(178,I t)]) (fun t=>[some (.els 1 [[net g s]]),some (.els 1 [[iL (upN p)]]),some (.els 1 (outs 4 p.length p.length)),some (.els 1 ((RfL g (onW g.Wires s.Wires) us p fs t a).map nCell))]++mrows (Af g (onW g.Wires s.Wires) us p fs t a) p.length p.length) (fun t=>t≤fs.length) (fun t=>fs.length-t) 0 ?_ ?_ ?_
       ·exact Nat.zero_le _
       ·rw[Af_zero,Rf_zero];exact gsub (sub_same (by simp)) (by simp)
       rintro t t1;simp only[zP,Nat.reduceEqDiff,reduceIte];refine gS fun K hK=>?_;simp -dsimp;apply hK;clear hK K;refine gwp_seq_k fun K16 hK16=>?_;refine gwp_cond rfl (fun hc8=>?_) (fun hc8=>?_)
       ·have htl:t<fs.length:=by simpa using hc8
        have wt:=zW t (by omega);have hbit:bits .and .i64 ((a:Int)/2^t) 1=if a.testBit t then 1 else 0:=by have:=shr_bit a t (by omega);rwa [Int.toNat_natCast]at this
        have ht64:t≤IntKind.i64.bits:=Nat.le_trans (show t≤12 by omega) (by decide);refine gwp_skip ?_;simp only[zT,reduceIte,Nat.reduceEqDiff];refine hK16 _ _ ?_;refine gwp_prune [2,3,4,13,14,23,24,25,163,164,176,177,178] (Or.inr (by simp)) ?_;simp only[zP,Nat.reduceEqDiff,reduceIte];refine gwp_seq_k fun K17 hK17=>?_;refine gwp_block ?_;refine gS fun K hK=>?_;simp -dsimp [(hfa t htl).1];apply hK;clear hK K;refine gS fun K hK=>?_;simp -dsimp [hbit,ht64];apply hK;clear hK K;refine gwp_cond rfl (fun hc9=>?_) (fun hc9=>?_)
        ·have hbt:a.testBit t=true:=by cases h:a.testBit t with|true=>rfl|false=>rw[h]at hc9;simp at hc9
         obtain⟨k,hk⟩:∃k,k=p.idxOf (fdI g (at0 fs t)).At.toNat:=⟨_,rfl⟩;have hkl:k<p.length:=by rw[hk];exact hpi t htl
         have hkl1:k≤p.length+1:=by omega
         have hkg:p[k]?=some (fdI g (at0 fs t)).At.toNat:=by rw[hk];exact idxOf_get (hfa t htl).2.2.2.2.2.1
         have hat:p.getD k 0=(fdOf g fs t).At.toNat:=by rw[getD_get hkl]at hkg;exact Option.some.inj hkg
         have hAe:=Af_on g (onW g.Wires s.Wires) us p fs hpt.nd hbt hkl hat;have hRe:=Rf_on g (onW g.Wires s.Wires) us p fs hpt.nd hbt hkl hat;have hfdo:fdOf g fs t=fdI g (at0 fs t):=rfl;rw[hfdo]at hAe hRe;have hab:(Af g (onW g.Wires s.Wires) us p fs t a k k).natAbs≤400:=by
          have hb1:=at_bd (P:=Pt g (onW g.Wires s.Wires) us p fs t) (S:=bitS a) (c:=(Pt g (onW g.Wires s.Wires) us p fs t).s) (C:=4) (i:=p.getD k 0) (by omega) (fun b hb=>by
           have:=hfa b (by have:=List.mem_range.1 hb;omega);show 0≤(fdI g (at0 fs b)).Siem∧(fdI g (at0 fs b)).Siem≤4;omega)
          have hb2:(Pt g (onW g.Wires s.Wires) us p fs t).fs.length=t:=List.length_range;rw[hb2]at hb1;have hb3:(lw (onW g.Wires s.Wires) (p.getD k 0) (p.getD k 0)).natAbs≤320:=Nat.le_trans (lw_abs fun x hx=>by
           obtain⟨w',hw',e⟩:=onW_mem hx;have:=hnt.wires w' hw';simp only[wrB,Bool.and_eq_true,inr_iff]at this;rw[e];simp only;omega) (by have:=onW_len g.Wires s.Wires;omega)
          unfold Af Part.A;rw[if_pos rfl];show(lw _ _ _+_).natAbs≤400;omega
         have hrb:(Rf g (onW g.Wires s.Wires) us p fs t a k).natAbs≤50000:=by
          have hb1:=at_bd (P:=Pt g (onW g.Wires s.Wires) us p fs t) (S:=bitS a) (c:=fun b=>(Pt g (onW g.Wires s.Wires) us p fs t).s b*(Pt g (onW g.Wires s.Wires) us p fs t).V b) (C:=4000) (i:=p.getD k 0) (by omega) (fun b hb=>by
           have h:=hfa b (by have:=List.mem_range.1 hb;omega);show 0≤(fdI g (at0 fs b)).Siem*(fdI g (at0 fs b)).Volts∧(fdI g (at0 fs b)).Siem*(fdI g (at0 fs b)).Volts≤4000;exact⟨Int.mul_nonneg (by omega) (by omega),Int.mul_le_mul h.2.2.2.2.2.2.2.2.2 h.2.2.2.2.2.2.2.1 (by omega) (by omega)⟩)
          have hb2:(Pt g (onW g.Wires s.Wires) us p fs t).fs.length=t:=List.length_range;rw[hb2]at hb1;have hb3:=hus (p.getD k 0);unfold Rf Part.b;show(-igt us _+_).natAbs≤50000;omega
         have hsv:0≤(fdI g (at0 fs t)).Siem*(fdI g (at0 fs t)).Volts∧(fdI g (at0 fs t)).Siem*(fdI g (at0 fs t)).Volts≤4000:=by
          have h:=hfa t htl;exact⟨Int.mul_nonneg (by omega) (by omega),Int.mul_le_mul h.2.2.2.2.2.2.2.2.2 h.2.2.2.2.2.2.2.1 (by omega) (by omega)⟩
         have w1:IntKind.i64.wrap (Af g (onW g.Wires s.Wires) us p fs t a k k+(fdI g (at0 fs t)).Siem)=Af g (onW g.Wires s.Wires) us p fs t a k k+(fdI g (at0 fs t)).Siem:=wrap_in (by have:=hfa t htl;omega) (by have:=hfa t htl;omega);have w2:IntKind.i64.wrap ((fdI g (at0 fs t)).Siem*(fdI g (at0 fs t)).Volts)=(fdI g (at0 fs t)).Siem*(fdI g (at0 fs t)).Volts:=wrap_in (by omega) (by omega);have w3:IntKind.i64.wrap (Rf g (onW g.Wires s.Wires) us p fs t a k+(fdI g (at0 fs t)).Siem*(fdI g (at0 fs t)).Volts)=Rf g (onW g.Wires s.Wires) us p fs t a k+(fdI g (at0 fs t)).Siem*(fdI g (at0 fs t)).Volts:=wrap_in (by omega) (by omega);have grk:=RfL_get g (onW g.Wires s.Wires) us p fs (t:=t) (a:=a) hkl;have hwk:=hwh t htl;rw[←hk]at hwk;generalize Af g (onW g.Wires s.Wires) us p fs t a=f at w1 hAe ⊢;generalize Rf g (onW g.Wires s.Wires) us p fs t a k=rk at w3 grk hRe;generalize RfL g (onW g.Wires s.Wires) us p fs t a=rl at grk hRe ⊢;refine gwp_sd mixed rfl (by decide) rfl rfl fun K hK=>?_;simp -dsimp [(hfa t htl).1,(hfa t htl).2.1,(hfa t htl).2.2.2.1,Nat.add_assoc];refine callK_intro _ (hwk) (by simp) ?_;simp -dsimp [(hfa t htl).1,(hfa t htl).2.1,(hfa t htl).2.2.2.1,Nat.add_assoc];refine hK _ _ _ (by exact draw_pairs [(0,5),(1,5),(2,5),(3,5),(4,5),(0,8),(1,8),(2,8),(3,8),(4,8),(5,8),(6,8),(7,8),(0,9),(1,9),(2,9),(3,9),(4,9),(5,9),(6,9),(7,9),(8,9),(0,10),(1,10),(2,10),(3,10),(4,10),(5,10),(6,10),(7,10),(0,11),(1,11),(2,11),(3,11),(4,11),(5,11),(6,11),(7,11),(8,11),(9,11),(10,11)] (by decide+kernel) (by decide+kernel) (by simp[confl]<;>omega)) ?_;clear hK K;refine gwp_sd mixed rfl (by decide) rfl rfl fun K hK=>?_;simp -dsimp [hkl1,Nat.add_assoc,outs_get hkl,hkl,hget_mrows hkl,mrow,mrow_get hkl,hset_mrows hkl,w1];refine hK _ _ _ (by exact draw_pairs [(0,1),(0,4),(1,4),(2,4),(3,4),(0,7),(1,7),(2,7),(3,7),(4,7),(5,7),(6,7),(0,8),(1,8),(2,8),(3,8),(4,8),(5,8),(6,8)] (by decide+kernel) (by decide+kernel) (by simp[confl]<;>omega)) ?_;clear hK K;refine gwp_draw mixed rfl (by decide) rfl rfl fun K hK=>?_;simp -dsimp [hkl1,Nat.add_assoc,grk,hkl,w2,w3];refine hK _ _ _ (by exact draw_pairs [(0,1),(0,4),(1,4),(2,4),(3,4),(0,5),(1,5),(2,5),(3,5),(0,6),(1,6),(2,6),(3,6),(4,6),(5,6),(0,7),(1,7),(2,7),(3,7),(4,7),(5,7),(0,8),(1,8),(2,8),(3,8)] (by decide+kernel) (by decide+kernel) (by simp[confl]<;>omega)) ?_;clear hK K;simp only[zT,reduceIte,Nat.reduceEqDiff];refine hK17 _ _ ?_;refine gwp_prune [2,3,4,13,14,23,24,25,163,164,176,177,178] (Or.inr (by simp)) ?_;simp only[zP,Nat.reduceEqDiff,reduceIte];refine gR fun K hK=>?_;simp -dsimp [wt];apply hK;clear hK K;simp only[zT,reduceIte,Nat.reduceEqDiff];refine⟨t+1,by omega,by omega,gsub (sub_cat (F':=[some (.els 1 [[net g s]]),some (.els 1 [[iL (upN p)]]),some (.els 1 (outs 4 p.length p.length)),some (.els 1 ((RfL g (onW g.Wires s.Wires) us p fs (t+1) a).map nCell))]) [some 0,some 1,some 2,some 3] (Af g (onW g.Wires s.Wires) us p fs (t+1) a) p.length p.length 4 (by simp[nodupB]) (fun i hi=>by simp) ?_ (by simp) ?_) (by simp)⟩
         ·intro i hi;show hget (mrows _ p.length p.length++_) i=_;rw[hget_mrows hi];rw[←hget_mrows' (m:=p.length) hi,←hget_mrows' (m:=p.length) hi,mrows_congr hAe]
         ·have hro:=ren_outs (g:=some 0::some 1::some 2::some 3::(List.range p.length).map fun i=>some (i+4)) (c:=4) (c':=4) (m:=p.length) (n:=p.length) (fun i hi=>newName_cat (gf:=[some 0,some 1,some 2,some 3]) hi (by simp));rw[←hRe,List.map_set];simp[hro]
        ·refine gwp_skip ?_;simp only[zT,reduceIte,Nat.reduceEqDiff];refine hK17 _ _ ?_;refine gwp_prune [2,3,4,13,14,23,24,25,163,164,176,177,178] (Or.inr (by simp)) ?_;simp only[zP,Nat.reduceEqDiff,reduceIte];refine gR fun K hK=>?_;simp -dsimp [wt];apply hK;clear hK K;simp only[zT,reduceIte,Nat.reduceEqDiff];have hbt:a.testBit t=false:=by cases h:a.testBit t with|false=>rfl|true=>rw[h]at hc9;simp at hc9
         refine⟨t+1,by omega,by omega,?_⟩;rw[Af_off _ _ _ _ _ hbt,Rf_off _ _ _ _ _ hbt];exact gsub (sub_same (by simp)) (by simp)
       ·have htl:¬t<fs.length:=by simpa using hc8
        have hte:t=fs.length:=by omega
        rw[hte];have hsol:=m_solved (eqM ((Pt g (onW g.Wires s.Wires) us p fs fs.length).A (bitS a)) p) (p.map ((Pt g (onW g.Wires s.Wires) us p fs fs.length).b (bitS a))) p.length (matL_sq _ _) hpt.n1 hpt.n10 (by simp);obtain⟨z1,z2,z3⟩:=hsm a (by omega) hal2;have hv0:(p.map fun k=>wr (Cur.num ((Pt g (onW g.Wires s.Wires) us p fs fs.length).A (bitS a)) ((Pt g (onW g.Wires s.Wires) us p fs fs.length).b (bitS a)) p k))=p.map fun k=>(Pt g (onW g.Wires s.Wires) us p fs fs.length).num (bitS a) k:=List.map_congr_left fun k _=>wr_id (by have:=z1 k;unfold Part.num at this;show _≤Cur.num _ _ (Pt g (onW g.Wires s.Wires) us p fs fs.length).ns k;omega) (by have:=z1 k;unfold Part.num at this;show Cur.num _ _ (Pt g (onW g.Wires s.Wires) us p fs fs.length).ns k≤_;omega);have hd0:wr (D ((Pt g (onW g.Wires s.Wires) us p fs fs.length).A (bitS a)) p)=(Pt g (onW g.Wires s.Wires) us p fs fs.length).den (bitS a):=wr_id (by unfold Part.den at z2;show _≤D _ (Pt g (onW g.Wires s.Wires) us p fs fs.length).ns;omega) (by unfold Part.den at z3;show D _ (Pt g (onW g.Wires s.Wires) us p fs fs.length).ns≤_;omega);rw[eqM_sol _ _ _ hpt.nd,eqM_det,hv0,hd0,←RfL_eq]at hsol;have hfit:=fitB_eq (Pt g (onW g.Wires s.Wires) us p fs fs.length) fs.length a;obtain⟨nl,hnl⟩:∃nl,nl=p.map fun k=>(Pt g (onW g.Wires s.Wires) us p fs fs.length).num (bitS a) k:=⟨_,rfl⟩;have hzl:∀k x,p[k]?=some x→nl[k]?=some ((Pt g (onW g.Wires s.Wires) us p fs fs.length).num (bitS a) x):=fun k x h=>by rw[hnl,List.getElem?_map,h];rfl
        have hnle:∀a',a'=a→(p.map fun k=>(Pt g (onW g.Wires s.Wires) us p fs fs.length).num (bitS a') k)=nl∧(Pt g (onW g.Wires s.Wires) us p fs fs.length).den (bitS a')=(Pt g (onW g.Wires s.Wires) us p fs fs.length).den (bitS a):=by rintro a' rfl;exact⟨hnl.symm,rfl⟩
        rw[←hnl]at hsol;obtain⟨M,hM⟩:∃M,M=eqM ((Pt g (onW g.Wires s.Wires) us p fs fs.length).A (bitS a)) p:=⟨_,rfl⟩;rw[←hM]at hsol;obtain⟨de,hde⟩:∃de,de=(Pt g (onW g.Wires s.Wires) us p fs fs.length).den (bitS a):=⟨_,rfl⟩;rw[←hde]at hsol z2 z3 hnle hfit;obtain⟨nu,hnu⟩:∃nu,nu=(Pt g (onW g.Wires s.Wires) us p fs fs.length).num (bitS a):=⟨_,rfl⟩;rw[←hnu]at z1 hzl hfit;have hnll:nl.length=p.length:=by rw[hnl];simp
        have hVe:(Pt g (onW g.Wires s.Wires) us p fs fs.length).V=fun(b:Nat)=>(fdI g (at0 fs b)).Volts:=rfl;have hpe:(Pt g (onW g.Wires s.Wires) us p fs fs.length).p=fun(b:Nat)=>(fdI g (at0 fs b)).At.toNat:=rfl;rw[hVe,hpe]at hfit;clear hnu hde hVe hpe;refine gwp_exit ?_;simp only[zT,reduceIte,Nat.reduceEqDiff];refine hK15 _ _ ?_;refine gwp_prune [2,3,4,13,14,23,24,25,163,164] (Or.inr (by simp)) ?_;simp only[zP,Nat.reduceEqDiff,reduceIte];refine gwp_weak (gsub (sub_rf (T':=[(2, .mpc false [.i .i64] us),(3, .ptr 0 0 0),(4, .ptr 1 0 0),(13,iL fs),(14, .clo 97 [.ptr 1 0 0, .ptr 0 0 0]),(23,I a),(24,mL M),(25,iL (RfL g (onW g.Wires s.Wires) us p fs fs.length a)),(163,I (2^fs.length)),(164,I a)]) (H':=[some (.els 1 [[net g s]]),some (.els 1 [[iL (upN p)]])]) [some 0,some 1] rfl ⟨.inr (by simp), .inr (by simp), .inr (by simp), .inr (by simp), .inr (by simp), .inr (by simp), .inr ?_, .inr ?_, .inr (by simp), .inr (by simp),trivial⟩ (by simp)) (by simp)) ?_
        ·rw[hM];exact A_rows _ _ _ _ hpt.n1
        ·exact b_frz _ _ _ _ _ (RfL_len _ _ _ _ _ _ _) hpt.n1
        ·refine gS fun K hK=>?_;simp -dsimp;refine callK_mut [] [] [none,none,some 0] (hsol) (by decide) rfl (by simp) (by simp) rfl (by simp) ?_;simp -dsimp;apply hK;clear hK K;refine gS fun K hK=>?_;simp -dsimp;apply hK;clear hK K;refine gwp_seq_k fun K18 hK18=>?_;refine gS fun K hK=>?_;simp -dsimp;apply hK;clear hK K;refine gwp_block ?_;refine gwp_prune [2,3,4,13,14,23,30,31,32,163,164,228,229,230] (Or.inr (by simp)) ?_;simp only[zP,Nat.reduceEqDiff,reduceIte];refine gwp_loop_l [2,3,4,13,14,23,30,31,163,164,228,229] (α:=Nat) (fun b=>[(32,Bo ((List.range b).all (fitC (fun(b:Nat)=>(fdI g (at0 fs b)).Volts) (fun(b:Nat)=>(fdI g (at0 fs b)).At.toNat) nu de a))),(230,I b)]) (fun b=>[some (.els 1 [[net g s]]),some (.els 1 [[iL (upN p)]]),some (.els 1 (nl.map nCell))]) (fun b=>b≤fs.length) (fun b=>fs.length-b) 0 ?_ ?_ ?_
         ·exact Nat.zero_le _
         ·exact gsub (sub_rb [some 0,some 1,some 2] rfl (by simp) (by simp)) (by simp)
         rintro b b1;simp only[zP,Nat.reduceEqDiff,reduceIte];refine gS fun K hK=>?_;simp -dsimp;apply hK;clear hK K;refine gwp_seq_k fun K19 hK19=>?_;refine gwp_cond rfl (fun hc10=>?_) (fun hc10=>?_)
         ·have hbl:b<fs.length:=by simpa using hc10
          have wb:=zW b (by omega);have hbit:bits .and .i64 ((a:Int)/2^b) 1=if a.testBit b then 1 else 0:=by have:=shr_bit a b (by omega);rwa [Int.toNat_natCast]at this
          have hb64:b≤IntKind.i64.bits:=Nat.le_trans (show b≤12 by omega) (by decide);have hvd:-100000000000000000≤(fdI g (at0 fs b)).Volts*de∧(fdI g (at0 fs b)).Volts*de≤100000000000000000:=by
           have h:=hfa b hbl;have h1:=Int.mul_nonneg (show 0≤(fdI g (at0 fs b)).Volts by omega) (show 0≤de by omega);have h2:=Int.mul_le_mul h.2.2.2.2.2.2.2.1 z3 (by omega) (by omega);omega
          have w1:IntKind.i64.wrap ((fdI g (at0 fs b)).Volts*de)=(fdI g (at0 fs b)).Volts*de:=wrap_in (by omega) (by omega);have w2:IntKind.i64.wrap ((fdI g (at0 fs b)).Volts*de-nu (fdI g (at0 fs b)).At.toNat)=(fdI g (at0 fs b)).Volts*de-nu (fdI g (at0 fs b)).At.toNat:=wrap_in (by have:=z1 (fdI g (at0 fs b)).At.toNat;omega) (by have:=z1 (fdI g (at0 fs b)).At.toNat;omega);have hzp:=hzl _ _ (idxOf_get (hfa b hbl).2.2.2.2.2.1);refine gwp_skip ?_;simp only[zT,reduceIte,Nat.reduceEqDiff];refine hK19 _ _ ?_;refine gwp_prune [2,3,4,13,14,23,30,31,32,163,164,228,229,230] (Or.inr (by simp)) ?_;simp only[zP,Nat.reduceEqDiff,reduceIte];refine gwp_seq_k fun K20 hK20=>?_;refine gwp_block ?_;refine gS fun K hK=>?_;simp -dsimp [(hfa b hbl).1];apply hK;clear hK K;refine gwp_sd mixed rfl (by decide) rfl rfl fun K hK=>?_;simp -dsimp [(hfa b hbl).1,(hfa b hbl).2.1,(hfa b hbl).2.2.2.1,w1,w2,hpi b hbl,hzp];refine callK_intro _ (hwh b hbl) (by simp) ?_;simp -dsimp [(hfa b hbl).1,(hfa b hbl).2.1,(hfa b hbl).2.2.2.1,w1,w2,hpi b hbl,hzp];refine hK _ _ _ (by decide+kernel) ?_;clear hK K;refine gR fun K hK=>?_;simp -dsimp [hbit,hb64];apply hK;clear hK K;simp only[zT,reduceIte,Nat.reduceEqDiff];refine hK20 _ _ ?_;refine gwp_prune [2,3,4,13,14,23,30,31,32,163,164,228,229,230] (Or.inr (by simp)) ?_;simp only[zP,Nat.reduceEqDiff,reduceIte];refine gR fun K hK=>?_;simp -dsimp [wb];apply hK;clear hK K;simp only[zT,reduceIte,Nat.reduceEqDiff];refine⟨b+1,by omega,by omega,gsub (sub_rb [some 0,some 1,some 2] rfl ?_ (by simp)) (by simp)⟩;rw[all_succ];unfold fitC
          cases hbb:a.testBit b<;>simp[hbb]
         ·have hbl:¬b<fs.length:=by simpa using hc10
          have hbe:b=fs.length:=by omega
          rw[hbe,←hfit];refine gwp_exit ?_;simp only[zT,reduceIte,Nat.reduceEqDiff];refine hK18 _ _ ?_;refine gwp_prune [2,3,4,13,14,30,31,32,163,164] (Or.inr (by simp)) ?_;simp only[zP,Nat.reduceEqDiff,reduceIte];refine gS fun K hK=>?_;simp -dsimp;apply hK;clear hK K;refine gwp_cond rfl (fun hc11=>?_) (fun hc11=>?_)
          ·refine gS fun K hK=>?_;simp -dsimp;apply hK;clear hK K;have hae:a0=a:=by
            rcases Nat.lt_or_ge a a0 with h|h
            ·have:=hal a (by omega) h;rw[this]at hc11;cases hc11
            ·omega
           obtain⟨g1,g2⟩:=hnle a0 hae;have htk:List.take p.length (nl.map nCell)=nl.map nCell:=List.take_of_length_le (by simp;omega);exact gwp_ret (by simp[e1,e2,e3,g1,g2,hnll,htk,resP,tupOf])
          ·refine gwp_skip ?_;simp only[zT,reduceIte,Nat.reduceEqDiff];refine hK13 _ _ ?_;refine gwp_prune [2,3,4,13,14,163,164] (Or.inr (by simp)) ?_;simp only[zP,Nat.reduceEqDiff,reduceIte];refine gR fun K hK=>?_;simp -dsimp [wa];apply hK;clear hK K;simp only[zT,reduceIte,Nat.reduceEqDiff];have hae:a0≠a:=by
            rintro rfl;rw[haf]at hc11;cases hc11
           exact⟨a+1,by omega,by omega,gsub (sub_rb [some 0,some 1] rfl (by simp) (by simp)) (by simp)⟩
     ·exfalso;have h:((a:Nat):Int)<2^fs.length:=by have:=Int.ofNat_lt.2 (show a<2^fs.length by omega);rwa [Int.natCast_pow]at this
      exact absurd h (of_decide_eq_false hc6)
end Go.Cur
end
section
namespace Go.Cur
open Go.AM Go.Proofs
theorem ins_perm (x:Int):∀l,(ins x l).Perm (x::l)
 |[]=>List.Perm.refl _
 |y::l=>by
  simp only[ins]
  split
  ·exact List.Perm.refl _
  ·exact((ins_perm x l).cons y).trans (List.Perm.swap x y l)
theorem srt_perm (l:List Int):(srt l).Perm l:=by
 have gen:∀(l s:List Int),(l.foldl (fun s x=>ins x s) s).Perm (s++l):=by
  intro l
  induction l with
  |nil=>intro s;simp
  |cons x l ih=>
   intro s;rw[List.foldl_cons];refine(ih (ins x s)).trans ?_;refine((ins_perm x s).append_right l).trans ?_;exact(List.perm_middle (l₁:=s) (l₂:=l) (a:=x)).symm
 have:=gen l [];simpa [srt]using this
theorem srt_eq {l m:List Int} (hm:m.Pairwise (· ≤ ·)) (h:l.Perm m):srt l=m:=
 List.Perm.eq_of_pairwise (fun a b _ _ h1 h2=>Int.le_antisymm h1 h2) (srt_sorted l) hm ((srt_perm l).trans h)
abbrev netE (g:Gr) (s:Sta):List (Nat×Nat):=edges (onW g.Wires s.Wires)
def partL (g:Gr) (s:Sta):List (List Nat):=partsN (netE g s) g.Nodes.toNat
def pAV (p:List Nat):List AV:=[iL (upN p)]
theorem pAV_len (l:List (List Nat)):∀z∈l.map pAV,z.length=1:=by
 intro z hz;obtain⟨q,_,rfl⟩:=List.mem_map.1 hz
 rfl
theorem onW_ok {g:Gr} {s:Sta} (h:NetOk g s):OkW (onW g.Wires s.Wires) g.Nodes.toNat:=fun w hw=>by
 obtain⟨w',hw',rfl⟩:=onW_mem hw;have:=h.wires w' hw';simp only[wrB,Bool.and_eq_true,inr_iff,Bool.not_eq_true',decide_eq_false_iff_not]at this;have hn:=(grB_bd h.gr).1;refine⟨?_,?_,?_,?_⟩<;>simp only<;>omega
theorem netE_ok {g:Gr} {s:Sta} (h:NetOk g s):∀e∈netE g s,e.1<g.Nodes.toNat∧e.2<g.Nodes.toNat:=edges_ok (onW_ok h)
def metB (E:List (Nat×Nat)) (n k:Nat) (part:List Nat) (j:Nat):Bool:=decide (nm E n j<k)||decide (j∈part)
def metL (E:List (Nat×Nat)) (n k:Nat) (part:List Nat):List Bool:=(List.range n).map (metB E n k part)
theorem metL_len (E:List (Nat×Nat)) (n k:Nat) (part:List Nat):(metL E n k part).length=n:=by simp[metL]
theorem metL_get {E:List (Nat×Nat)} {n k j:Nat} {part:List Nat} (h:j<n):(metL E n k part)[j]?=some (metB E n k part j):=by
 unfold metL;rw[List.getElem?_map,List.getElem?_range h];rfl
theorem metL_set {E:List (Nat×Nat)} {n k j:Nat} {part:List Nat}:(metL E n k part).set j true=metL E n k (part++[j]):=by
 refine List.ext_getElem? fun i=>?_
 by_cases hi:i<n
 ·rw[metL_get hi]
  by_cases h:i=j
  ·subst h;rw[List.getElem?_set_self (by rw[metL_len];exact hi)];simp[metB]
  ·rw[List.getElem?_set_ne (fun e=>h e.symm),metL_get hi];simp[metB,h]
 ·rw[List.getElem?_eq_none (by simp[metL];omega),List.getElem?_eq_none (by simp[metL];omega)]
theorem metL_zero (E:List (Nat×Nat)) (n:Nat):metL E n 0 []=List.replicate n false:=by
 refine List.ext_getElem? fun i=>?_
 by_cases hi:i<n
 ·rw[metL_get hi,List.getElem?_replicate,if_pos hi];simp[metB]
 ·rw[List.getElem?_eq_none (by simp[metL];omega),List.getElem?_eq_none (by simp;omega)]
theorem metL_next {E:List (Nat×Nat)} {n k:Nat} {part:List Nat} (h:∀j,j<n→(j∈part↔nm E n j=k)):metL E n k part=metL E n (k+1) []:=by
 unfold metL;refine List.map_congr_left fun j hj=>?_;have:=h j (List.mem_range.1 hj);unfold metB;simp only[this,List.not_mem_nil,decide_false,Bool.or_false];rw[Bool.eq_iff_iff];simp only[Bool.or_eq_true,decide_eq_true_eq];omega
def headsTo (E:List (Nat×Nat)) (n k:Nat):Nat:=((List.range k).filter fun i=>decide (nm E n i=i)).length
theorem headsTo_succ (E:List (Nat×Nat)) (n k:Nat):headsTo E n (k+1)=headsTo E n k+if nm E n k=k then 1 else 0:=by
 unfold headsTo;rw[List.range_succ,List.filter_append,List.length_append]
 by_cases h:nm E n k=k<;>simp[h]
theorem heads_at {E:List (Nat×Nat)} {n k:Nat} (hk:k<n) (h:nm E n k=k):(heads E n)[headsTo E n k]?=some k:=by
 have:∀d,∃v,(List.range (k+1+d)).filter (fun i=>decide (nm E n i=i))=(List.range k).filter (fun i=>decide (nm E n i=i))++k::v:=by
  intro d
  induction d with
  |zero=>exact⟨[],by rw[Nat.add_zero,List.range_succ,List.filter_append];simp[h]⟩
  |succ d ih=>
   obtain⟨v,hv⟩:=ih;refine⟨v++if nm E n (k+1+d)=k+1+d then [k+1+d]else [],?_⟩;rw[←Nat.add_assoc,List.range_succ,List.filter_append,hv,List.append_assoc]
   by_cases hx:nm E n (k+1+d)=k+1+d<;>simp[hx]
 obtain⟨v,hv⟩:=this (n-(k+1));rw[show k+1+(n-(k+1))=n by omega]at hv;unfold heads headsTo;rw[hv,List.getElem?_append_right (Nat.le_refl _),Nat.sub_self];rfl
structure Grow (E:List (Nat×Nat)) (n k:Nat) (part:List Nat) (i:Nat):Prop where
 nd:part.Nodup
 sub:∀x∈part,x∈cp E n k
 first:k∈part
 done:∀j x,j<i→part[j]?=some x→∀e∈E,(e.1=x→e.2∈part)∧(e.2=x→e.1∈part)
theorem Grow.all {E:List (Nat×Nat)} {n k:Nat} {part:List Nat} (h:Grow E n k part part.length) (hk:k∈heads E n):∀x,x∈part↔x∈cp E n k:=by
 refine fun x=>⟨h.sub x,fun hx=>cp_whole hk h.first (fun e he=>?_) hx⟩;constructor
 ·intro h1;obtain⟨j,hj⟩:=List.getElem?_of_mem h1;exact(h.done j _ (List.getElem?_eq_some_iff.1 hj).1 hj e he).1 rfl
 ·intro h1;obtain⟨j,hj⟩:=List.getElem?_of_mem h1;exact(h.done j _ (List.getElem?_eq_some_iff.1 hj).1 hj e he).2 rfl
theorem Grow.more {E:List (Nat×Nat)} {n k i x:Nat} {part:List Nat} (h:Grow E n k part i) (hi:i≤part.length) (hx:x∈cp E n k) (hn:x∉part):Grow E n k (part++[x]) i:=by
 refine⟨?_,fun y hy=>?_,by simp[h.first],fun j y hj hy e he=>?_⟩
 ·rw[List.nodup_append];exact⟨h.nd,by simp,fun a ha b hb=>by simp at hb;subst hb;rintro rfl;exact hn ha⟩
 ·rcases List.mem_append.1 hy with hy|hy
  ·exact h.sub y hy
  ·simp at hy;subst hy;exact hx
 ·rw[List.getElem?_append_left (by omega)]at hy;obtain⟨h1,h2⟩:=h.done j y hj hy e he;exact⟨fun e=>by simp[h1 e],fun e=>by simp[h2 e]⟩
theorem Grow.len {E:List (Nat×Nat)} {n k i:Nat} {part:List Nat} (h:Grow E n k part i):part.length≤(cp E n k).length:=h.nd.length_le_of_subset h.sub
theorem cp_le {E:List (Nat×Nat)} {n k:Nat}:(cp E n k).length≤n:=by
 have:=List.length_filter_le (fun j=>decide (nm E n j=k)) (List.range n);simpa [cp]using this
theorem upN_sorted {p:List Nat} (h:p.Pairwise (· < ·)):(upN p).Pairwise (· ≤ ·):=by
 unfold upN;rw[List.pairwise_map];exact h.imp fun h=>by omega
theorem Grow.sorted {E:List (Nat×Nat)} {n k:Nat} {part:List Nat} (h:Grow E n k part part.length) (hk:k∈heads E n):srt (upN part)=upN (cp E n k):=by
 refine srt_eq (upN_sorted cp_sorted) ?_;unfold upN;exact((List.perm_ext_iff_of_nodup h.nd cp_nodup).2 (h.all hk)).map _
theorem upN_take (p:List Nat):List.take p.length ((upN p).map nCell)=(upN p).map nCell:=List.take_of_length_le (by simp[upN_len])
theorem c_parts (cs:List AV):PureCall Tryz.prog 76 [.iptr cs] (.clo 94 [.iptr [.iptr cs]]):=by
 refine PureCall.of_body Tryz.func76 rfl (by decide) (by simp[Tryz.ntmps76]) ?_;simp only[Tryz.ntmps76,Tryz.results76];refine aS fun K hK=>?_;simp -dsimp;apply hK;clear hK K;refine aS fun K hK=>?_;simp -dsimp;apply hK;clear hK K;exact awp_ret (by simp)
theorem c_parts1 (g:Gr) (s:Sta) (hnt:NetOk g s) (n:Nat) (hn:g.Nodes=n) (E:List (Nat×Nat)) (hE:E=netE g s) (h12:∀k∈heads E n,(cp E n k).length≤12) (xs:List (List AV)) (hx0:xs=((heads E n).map (cp E n)).map pAV):IterCall Tryz.prog 94 [.iptr [net g s]] xs:=by
 have hb:=grB_bd hnt.gr;have hEo:∀e∈E,e.1<n∧e.2<n:=by
  have:=netE_ok hnt;rw[←hE]at this;intro e he;have:=this e he;omega
 have f0:Fits n 2:=fits_of (by omega) (by omega);have f1:Fits n 9:=fits_of (by omega) (by omega);have hhl:xs.length=headsTo E n n:=by rw[hx0,List.length_map,List.length_map];rfl
 refine IterCallW.of_body Tryz.func94 rfl (by decide) (by simp[Tryz.ntmps94]) (by simp[Tryz.ntmps94]) (by simp[Tryz.results94]) ?_;intro J l hmk hY;simp only[Tryz.ntmps94,Tryz.results94];refine gS fun K hK=>?_;simp -dsimp [hn,f0];apply hK;clear hK K;refine gS fun K hK=>?_;simp -dsimp [hn];apply hK;clear hK K;refine gwp_block ?_;refine gwp_prune [0,1,3,20,21,999999] (Or.inl (by decide)) ?_;simp only[zP,Nat.reduceEqDiff,reduceIte];refine gwp_loop_l [0,1,3,20] (α:=Nat) (fun k=>[(21,I k),(999999,cntV (headsTo E n k))]) (fun k=>[some (.els 1 ((metL E n k []).map bCell))]) (fun k=>k≤n) (fun k=>n-k) 0 ?_ ?_ ?_
 ·exact Nat.zero_le _
 ·exact gsub (sub_rb [some 0] rfl (by simp[headsTo]) (by simp[metL_zero])) (by simp[headsTo])
 rintro k k1;simp only[zP,Nat.reduceEqDiff,reduceIte];refine gS fun K hK=>?_;simp -dsimp;apply hK;clear hK K;refine gwp_seq_k fun K1 hK1=>?_;refine gwp_cond rfl (fun hc0=>?_) (fun hc0=>?_)
 ·skip
  try simp at hc0
  have wk:=zW k (by omega);have gm:=metL_get (E:=E) (n:=n) (k:=k) (part:=[]) hc0;have hms:metL E n k [k]=(metL E n k []).set k true:=(metL_set (E:=E) (n:=n) (k:=k) (j:=k) (part:=[])).symm;have hml:=metL_len E n k [];have hmb:metB E n k [] k=decide (nm E n k<k):=by simp[metB]
  refine gwp_skip ?_;simp only[zT,reduceIte,Nat.reduceEqDiff];refine hK1 _ _ ?_;refine gwp_prune [0,1,3,20,21,999999] (Or.inl (by decide)) ?_;simp only[zP,Nat.reduceEqDiff,reduceIte];refine gwp_seq_k fun K2 hK2=>?_;refine gwp_block ?_;refine gS fun K hK=>?_;simp -dsimp;apply hK;clear hK K;refine gwp_seq_k fun K3 hK3=>?_;refine gS fun K hK=>?_;simp -dsimp [gm,hc0,hmb];apply hK;clear hK K;refine gwp_cond rfl (fun hc1=>?_) (fun hc1=>?_)
  ·skip
   try simp at hc1
   refine gwp_exit ?_;simp only[zT,reduceIte,Nat.reduceEqDiff];refine hK2 _ _ ?_;refine gwp_prune [0,1,3,20,21,999999] (Or.inl (by decide)) ?_;simp only[zP,Nat.reduceEqDiff,reduceIte];refine gR fun K hK=>?_;simp -dsimp [wk];apply hK;clear hK K;simp only[zT,reduceIte,Nat.reduceEqDiff];have hh:headsTo E n (k+1)=headsTo E n k:=by rw[headsTo_succ,if_neg (by omega)];rfl
   have hme:metL E n k []=metL E n (k+1) []:=metL_next fun j hj=>by
    simp only[List.not_mem_nil,false_iff];intro e;have h2:=nm_nm hEo j;rw[e]at h2;omega
   exact⟨k+1,by omega,by omega,gsub (sub_rb [some 0] rfl (by simp[hh]) (by simp[hme])) (by simp[hh])⟩
  ·skip
   try simp at hc1
   have hnk:nm E n k=k:=by have:=nm_le (E:=E) (n:=n) (k:=k);omega
   have hkh:k∈heads E n:=heads_mem.2 ⟨hc0,hnk⟩;refine gwp_skip ?_;simp only[zT,reduceIte,Nat.reduceEqDiff];refine hK3 _ _ ?_;refine gwp_prune [0,1,3,4,20,21,999999] (Or.inl (by decide)) ?_;simp only[zP,Nat.reduceEqDiff,reduceIte];refine gS fun K hK=>?_;simp -dsimp [hc0,hml];apply hK;clear hK K;refine gwp_flag (by decide) ?_;refine gS fun K hK=>?_;simp -dsimp;apply hK;clear hK K;refine gwp_seq_k fun K4 hK4=>?_;refine gS fun K hK=>?_;simp -dsimp;apply hK;clear hK K;refine gwp_block ?_;refine gwp_prune [0,1,3,5,6,20,21,999999] (Or.inl (by decide)) ?_;simp only[zP,Nat.reduceEqDiff,reduceIte];refine gwp_loop_l [0,1,3,20,21] (α:=Nat×List Nat) (fun x=>[(5, .row 1 0 x.2.length),(6,I x.1),(999999,cntV (headsTo E n k))]) (fun x=>[some (.els 1 ((metL E n k x.2).map bCell)),some (.els 1 ((upN x.2).map nCell))]) (fun x=>x.1≤x.2.length∧Grow E n k x.2 x.1) (fun x=>n-x.1) (0,[k]) ?_ ?_ ?_
   ·exact⟨Nat.zero_le _,⟨by simp,by simpa using cp_self hkh,by simp,fun j x hj=>by omega⟩⟩
   ·refine gsub (sub_rb [some 0,some 1] rfl (by simp) ?_) (by simp);simp[hms,List.map_set,upN]
   rintro⟨i,part⟩ ⟨i1,i2⟩;simp only at i1 i2 ⊢;simp only[zP,Nat.reduceEqDiff,reduceIte];refine gwp_seq_k fun K5 hK5=>?_;refine gS fun K hK=>?_;simp -dsimp;apply hK;clear hK K;refine gwp_cond rfl (fun hc2=>?_) (fun hc2=>?_)
   ·have hil:i<part.length:=by simpa using hc2
    obtain⟨x,hx⟩:∃x,part[i]?=some x:=⟨_,List.getElem?_eq_getElem hil⟩;have hpn:part.length≤n:=Nat.le_trans i2.len cp_le;have hxc:=i2.sub x (List.mem_of_getElem? hx);have hxn:x<n:=(cp_mem.1 hxc).1;have wi:=zW i (by omega);refine gwp_skip ?_;simp only[zT,reduceIte,Nat.reduceEqDiff];refine hK5 _ _ ?_;refine gwp_prune [0,1,3,5,6,20,21,999999] (Or.inl (by decide)) ?_;simp only[zP,Nat.reduceEqDiff,reduceIte];refine gwp_seq_k fun K6 hK6=>?_;refine gwp_block ?_;refine gS fun K hK=>?_;simp -dsimp;apply hK;clear hK K;refine gwp_block ?_;refine gwp_prune [0,1,3,5,6,20,21,43,44,45,999999] (Or.inl (by decide)) ?_;simp only[zP,Nat.reduceEqDiff,reduceIte];refine gwp_loop_l [0,1,3,6,20,21,43,44] (α:=Nat×List Nat) (fun y=>[(5, .row 1 0 y.2.length),(45,I y.1),(999999,cntV (headsTo E n k))]) (fun y=>[some (.els 1 ((metL E n k y.2).map bCell)),some (.els 1 ((upN y.2).map nCell))]) (fun y=>y.1≤g.Wires.length∧i<y.2.length∧Grow E n k y.2 i∧y.2[i]?=some x∧∀w∈onW (g.Wires.take y.1) (s.Wires.take y.1),(w.a=x→w.b∈y.2)∧(w.b=x→w.a∈y.2)) (fun y=>g.Wires.length-y.1) (0,part) ?_ ?_ ?_
    ·exact⟨Nat.zero_le _,hil,i2,hx,fun w hw=>by simp[onW]at hw⟩
    ·exact gsub (sub_rb [some 0,some 1] rfl (by simp) (by simp)) (by simp)
    rintro⟨q,pt⟩ ⟨j1,j2,j3,j4,j5⟩;simp only at j1 j2 j3 j4 j5 ⊢;simp only[zP,Nat.reduceEqDiff,reduceIte];refine gS fun K hK=>?_;simp -dsimp;apply hK;clear hK K;refine gwp_seq_k fun K7 hK7=>?_;refine gwp_cond rfl (fun hc3=>?_) (fun hc3=>?_)
    ·have hql:q<g.Wires.length:=by simpa using hc3
     obtain⟨w,hq⟩:∃w,g.Wires[q]?=some w:=⟨_,List.getElem?_eq_getElem hql⟩;have wq:=zW q (by omega);have hwb:=hnt.wires w (List.mem_of_getElem? hq);simp only[wrB,Bool.and_eq_true,inr_iff,Bool.not_eq_true',decide_eq_false_iff_not]at hwb;obtain⟨⟨⟨hwA,hwB⟩,hAB⟩,hwS⟩:=hwb;have hsw:=hnt.sw;have gsw:=bAt_get (l:=s.Wires) (k:=q) (by omega);have hsn:=onW_snoc hq gsw;obtain⟨a,ha⟩:∃a:Nat,w.A=a:=⟨w.A.toNat,by omega⟩;obtain⟨b,hb⟩:∃b:Nat,w.B=b:=⟨w.B.toNat,by omega⟩;obtain⟨wA,wB,wS,wSw⟩:=w;simp only at ha hb hwS hsn hwA hwB hAB;subst ha hb;simp only[Int.toNat_natCast]at hsn;have gx:=upN_get j4;have hptn:pt.length≤n:=Nat.le_trans j3.len cp_le;refine gwp_skip ?_;simp only[zT,reduceIte,Nat.reduceEqDiff];refine hK7 _ _ ?_;refine gwp_prune [0,1,3,5,6,20,21,43,44,45,999999] (Or.inl (by decide)) ?_;simp only[zP,Nat.reduceEqDiff,reduceIte];refine gwp_seq_k fun K8 hK8=>?_;refine gwp_block ?_;refine gS fun K hK=>?_;simp -dsimp [hq];apply hK;clear hK K;refine gwp_seq_k fun K9 hK9=>?_;refine gwp_sd mixed rfl (by decide) rfl rfl fun K hK=>?_;simp -dsimp [gsw,gx,j2];refine hK _ _ _ (by decide+kernel) ?_;clear hK K;refine gwp_cond rfl (fun hc4=>?_) (fun hc4=>?_)
     ·refine gwp_exit ?_;simp only[zT,reduceIte,Nat.reduceEqDiff];refine hK8 _ _ ?_;refine gwp_prune [0,1,3,5,6,20,21,43,44,45,999999] (Or.inl (by decide)) ?_;simp only[zP,Nat.reduceEqDiff,reduceIte];refine gR fun K hK=>?_;simp -dsimp [wq];apply hK;clear hK K;simp only[zT,reduceIte,Nat.reduceEqDiff];refine⟨(q+1,pt),⟨by simp only;omega,j2,j3,j4,fun w hw=>?_⟩,by simp only;omega,gsub (sub_rb [some 0,some 1] rfl (by simp) (by simp)) (by simp)⟩;rw[hsn]at hw
      rcases List.mem_append.1 hw with hw|hw
      ·exact j5 w hw
      ·cases hon:bAt s.Wires q with
       |false=>rw[hon]at hw;simp at hw
       |true=>
        rw[hon]at hw;simp only[if_true,List.mem_singleton]at hw;subst hw;simp[hon,bne,beq_d]at hc4;simp only;exact⟨fun e=>absurd e (by omega),fun e=>absurd e (by omega)⟩
     ·have hon:bAt s.Wires q=true:=by cases h:bAt s.Wires q with|true=>rfl|false=>rw[h]at hc4;simp at hc4
      have hax:a=x∨b=x:=by
       rw[hon]at hc4;simp only[bne,beq_d,Bool.not_true,Bool.false_or]at hc4
       rcases Decidable.em ((a:Int)=x)with h|h
       ·exact Or.inl (by omega)
       ·rcases Decidable.em ((b:Int)=x)with h2|h2
        ·exact Or.inr (by omega)
        ·simp[h,h2]at hc4
      obtain⟨o,ho⟩:∃o:Nat,o=if a=x then b else a:=⟨_,rfl⟩;have hmem:(⟨a,b,wS⟩:Wn)∈onW g.Wires s.Wires:=onW_take (k:=q+1) (by rw[hsn,hon];simp);have hed:(a,b)∈E:=by rw[hE];exact List.mem_map.2 ⟨_,hmem,rfl⟩
      have hnab:=nm_eq hEo hed;have hbds:=hEo _ hed;simp only at hnab hbds;have hxk:nm E n x=k:=(cp_mem.1 hxc).2;have hoc:o<n∧nm E n o=k:=by
       rcases hax with h|h
       ·subst h;rw[ho,if_pos rfl];exact⟨hbds.2,by rw[←hnab];exact hxk⟩
       ·by_cases h2:a=x
        ·rw[ho,if_pos h2,h];exact⟨hxn,hxk⟩
        ·subst h;rw[ho,if_neg h2];exact⟨hbds.1,by rw[hnab];exact hxk⟩
      have hoe:(a:Int)+b-x=o:=by
       rw[ho]
       split<;>omega
      have wab:IntKind.i64.wrap ((a:Int)+b)=(a:Int)+b:=wrap_in (by omega) (by omega);have wabx:IntKind.i64.wrap ((a:Int)+b-x)=o:=by rw[hoe];exact wrap_in (by omega) (by omega)
      have gmo:=metL_get (E:=E) (n:=n) (k:=k) (part:=pt) hoc.1;have hmo:metB E n k pt o=decide (o∈pt):=by unfold metB;rw[decide_eq_false (by omega),Bool.false_or]
      have hj5:∀pt':List Nat,(∀y∈pt,y∈pt')→o∈pt'→∀w∈onW (g.Wires.take (q+1)) (s.Wires.take (q+1)),(w.a=x→w.b∈pt')∧(w.b=x→w.a∈pt'):=by
       intro pt' hsub hop w hw;rw[hsn,hon]at hw
       rcases List.mem_append.1 hw with hw|hw
       ·exact⟨fun e=>hsub _ ((j5 w hw).1 e),fun e=>hsub _ ((j5 w hw).2 e)⟩
       ·simp only[if_true,List.mem_singleton]at hw;subst hw;simp only;refine⟨fun e=>?_,fun e=>?_⟩
        ·rw[if_pos e]at ho;rw[←ho];exact hop
        ·rw[if_neg (by omega)]at ho;rw[←ho];exact hop
      have hmsl:=metL_len E n k pt;have hms2:metL E n k (pt++[o])=(metL E n k pt).set o true:=metL_set.symm;have hul:=upN_len pt;have fpt:Fits (pt.length+1) 9:=fits_of (by omega) (by omega);refine gwp_skip ?_;simp only[zT,reduceIte,Nat.reduceEqDiff];refine hK9 _ _ ?_;refine gwp_prune [0,1,3,5,6,8,20,21,43,44,45,999999] (Or.inl (by decide)) ?_;simp only[zP,Nat.reduceEqDiff,reduceIte];refine gwp_sd mixed rfl (by decide) rfl rfl fun K hK=>?_;simp -dsimp [gx,j2,wab,wabx];refine hK _ _ _ (by decide+kernel) ?_;clear hK K;refine gS fun K hK=>?_;simp -dsimp [gmo,hmo,hoc.1];apply hK;clear hK K;refine gwp_cond rfl (fun hc5=>?_) (fun hc5=>?_)
      ·refine gS fun K hK=>?_;simp -dsimp [hoc.1,hmsl,gmo];apply hK;clear hK K;refine gR fun K hK=>?_;simp -dsimp [fpt,hul];apply hK;clear hK K;simp only[zT,reduceIte,Nat.reduceEqDiff];refine hK8 _ _ ?_;refine gwp_prune [0,1,3,5,6,20,21,43,44,45,999999] (Or.inl (by decide)) ?_;simp only[zP,Nat.reduceEqDiff,reduceIte];refine gR fun K hK=>?_;simp -dsimp [wq];apply hK;clear hK K;simp only[zT,reduceIte,Nat.reduceEqDiff];have hno:o∉pt:=by simpa using hc5
       have hup:upN (pt++[o])=upN pt++[(o:Int)]:=by simp[upN]
       refine⟨(q+1,pt++[o]),⟨by simp only;omega,by simp;omega,j3.more (by omega) (cp_mem.2 hoc) hno,?_,hj5 _ (fun y hy=>by simp[hy]) (by simp)⟩,by simp only;omega,gsub (sub_rb [some 0,some 3] rfl (by simp) (by simp[hms2,hup,List.map_set,upN_take])) (by simp)⟩;simp only;rw[List.getElem?_append_left j2];exact j4
      ·refine gwp_skip ?_;simp only[zT,reduceIte,Nat.reduceEqDiff];refine hK8 _ _ ?_;refine gwp_prune [0,1,3,5,6,20,21,43,44,45,999999] (Or.inl (by decide)) ?_;simp only[zP,Nat.reduceEqDiff,reduceIte];refine gR fun K hK=>?_;simp -dsimp [wq];apply hK;clear hK K;simp only[zT,reduceIte,Nat.reduceEqDiff];have hno:o∈pt:=by simpa using hc5
       exact⟨(q+1,pt),⟨by simp only;omega,j2,j3,j4,hj5 _ (fun y hy=>hy) hno⟩,by simp only;omega,gsub (sub_rb [some 0,some 1] rfl (by simp) (by simp)) (by simp)⟩
    ·have hqe:¬q<g.Wires.length:=by simpa using hc3
     have hsw:=hnt.sw;have ht1:g.Wires.take q=g.Wires:=List.take_of_length_le (by omega);have ht2:s.Wires.take q=s.Wires:=List.take_of_length_le (by omega);rw[ht1,ht2]at j5;refine gwp_exit ?_;simp only[zT,reduceIte,Nat.reduceEqDiff];refine hK6 _ _ ?_;refine gwp_prune [0,1,3,5,6,20,21,999999] (Or.inl (by decide)) ?_;simp only[zP,Nat.reduceEqDiff,reduceIte];refine gR fun K hK=>?_;simp -dsimp [wi];apply hK;clear hK K;simp only[zT,reduceIte,Nat.reduceEqDiff];have hptn:pt.length≤n:=Nat.le_trans j3.len cp_le;refine⟨(i+1,pt),⟨by simp only;omega,j3.nd,j3.sub,j3.first,fun j y hj hy e he=>?_⟩,by simp only;omega,gsub (sub_rb [some 0,some 1] rfl (by simp) (by simp)) (by simp)⟩
     rcases Nat.lt_succ_iff_lt_or_eq.1 hj with h|h
     ·exact j3.done j y h hy e he
     ·subst h;rw[j4]at hy;simp only[Option.some.injEq]at hy;subst hy;rw[hE]at he;obtain⟨w,hw,rfl⟩:=List.mem_map.1 he;exact j5 w hw
   ·have hil:¬i<part.length:=by simpa using hc2
    have hie:i=part.length:=by omega
    rw[hie]at i2;have hpl12:part.length≤12:=Nat.le_trans i2.len (h12 k hkh);have hp1:1≤part.length:=List.length_pos_of_mem i2.first
    have hsort:=m_Sort (upN part) (by rw[upN_len];exact hp1) (by rw[upN_len];exact hpl12);rw[i2.sorted hkh,upN_len]at hsort;have hcl:(cp E n k).length=part.length:=((List.perm_ext_iff_of_nodup i2.nd cp_nodup).2 (i2.all hkh)).length_eq.symm;have hmn:metL E n k part=metL E n (k+1) []:=metL_next fun j hj=>by rw[i2.all hkh];exact⟨fun h=>(cp_mem.1 h).2,fun h=>cp_mem.2 ⟨hj,h⟩⟩
    rw[hmn];have hxs:xs[headsTo E n k]?=some [iL (upN (cp E n k))]:=by rw[hx0,List.getElem?_map,List.getElem?_map,heads_at hc0 hnk];rfl
    refine gwp_exit ?_;simp only[zT,reduceIte,Nat.reduceEqDiff];refine hK4 _ _ ?_;refine gwp_prune [0,1,3,5,20,21,999999] (Or.inl (by decide)) ?_;simp only[zP,Nat.reduceEqDiff,reduceIte];refine gS fun K hK=>?_;simp -dsimp;refine callK_mut [1] [] [none,some 0] (hsort) (by decide) rfl (by simp) (by simp) rfl (by simp) ?_;simp -dsimp;apply hK;clear hK K;refine gwp_weak (gsub (sub_rf (T':=[(0, .v (.func (.yield l) #[] #[])),(1, .iptr [net g s]),(3, .row 0 0 n),(5,iL (upN (cp E n k))),(20,I n),(21,I k),(999999,cntV (headsTo E n k))]) (H':=[some (.els 1 ((metL E n (k+1) []).map bCell))]) [some 0] rfl ⟨.inr (by simp), .inr (by simp), .inr (by simp), .inr ?_, .inr (by simp), .inr (by simp), .inr (by simp[cntV]),trivial⟩ (by simp)) (by simp)) ?_
    ·simp[←hcl,upN_take,upN_len]
    ·refine gwp_sy hmk hY rfl (by decide) rfl rfl fun K hK=>?_;simp -dsimp;refine yK_intro hxs ?_ ?_
     ·apply hK;clear hK K;refine gwp_cond rfl (fun hc6=>?_) (fun hc6=>?_)
      ·simp at hc6
      ·refine gwp_skip ?_;simp only[zT,reduceIte,Nat.reduceEqDiff];refine hK2 _ _ ?_;refine gwp_prune [0,1,3,20,21,999999] (Or.inl (by decide)) ?_;simp only[zP,Nat.reduceEqDiff,reduceIte];refine gR fun K hK=>?_;simp -dsimp [wk];apply hK;clear hK K;simp only[zT,reduceIte,Nat.reduceEqDiff];have hh:headsTo E n (k+1)=headsTo E n k+1:=by rw[headsTo_succ,if_pos hnk]
       exact⟨k+1,by omega,by omega,gsub (sub_rb [some 0] rfl (by simp[hh]) (by simp)) (by simp[hh])⟩
     ·apply hK;clear hK K;refine gwp_cond rfl (fun hc6=>?_) (fun hc6=>?_)
      ·exact gwp_ret (by simp)
      ·simp at hc6
 ·skip
  try simp at hc0
  have hke:k=n:=by omega
  subst hke;refine gwp_exit ?_
  try simp only[zT,reduceIte,Nat.reduceEqDiff]
  simp[hhl]
end Go.Cur
end
section
namespace Go.Cur
open Go.AM Go.Proofs
def Few12 (g:Gr) (s:Sta):Prop:=∀p∈partL g s,p.length≤12
theorem c_iter (g:Gr) (s:Sta) (hnt:NetOk g s) (h12:Few12 g s):IterCall Tryz.prog 94 [.iptr [net g s]] ((partL g s).map pAV):=by
 have hb:=grB_bd hnt.gr;exact c_parts1 g s hnt g.Nodes.toNat (by omega) _ rfl (fun k hk=>h12 _ (List.mem_map.2 ⟨k,hk,rfl⟩)) _ rfl
def longB (g:Gr) (s:Sta):Bool:=(partL g s).any fun p=>decide (10<p.length)
theorem c_long (g:Gr) (s:Sta) (hnt:NetOk g s) (h12:Few12 g s):PureCall Tryz.prog 50 [net g s] (Bo (longB g s)):=by
 have hit:=c_iter g s hnt h12;have hc:=c_parts (ntC g (bL s.Feeds) (bL s.Wires));unfold longB;generalize partL g s=L at hit;refine PureCall.of_bodyG Tryz.func50 rfl (by decide) (by simp[Tryz.ntmps50]) ?_;intro J hJ;simp only[Tryz.ntmps50,Tryz.results50];refine gS fun K hK=>?_;simp -dsimp;apply hK;clear hK K;refine gwp_seq_k fun K1 hK1=>?_;refine gS fun K hK=>?_;simp -dsimp;refine callK_intro _ (hc) (by simp) ?_;simp -dsimp;apply hK;clear hK K;refine gwp_block ?_;refine gwp_prune [2,5] (Or.inr (by simp)) ?_;simp only[zP,Nat.reduceEqDiff,reduceIte];refine gwp_range_s hJ [2,5] (fun _=>[some (.els 1 [[Bo false]])]) (fun n=>(L.take n).any (fun p=>decide (10<p.length))=false) rfl (hit) rfl (by simp) (by decide) (by decide) (by decide) (pAV_len L) ?_ ?_ ?_ ?_
 ·trivial
 ·exact sub_same (by simp)
 ·intro n xv hxn hi l1 J1 hJ1;obtain⟨p,hp,rfl⟩:∃p,L[n]?=some p∧pAV p=xv:=by simpa using hxn
  have hpl:=upN_len p;simp only[pAV];simp only[List.zip_cons_cons,List.zip_nil_left,List.zip_nil_right,List.cons_append,List.nil_append];refine gR fun K hK=>?_;simp -dsimp;apply hK;clear hK K;simp only[onlyN];intro J2 hJ2;refine gwp_prune [2,3,5] (Or.inr (by simp)) ?_;simp only[zP,Nat.reduceEqDiff,reduceIte];refine gwp_block ?_;refine gS fun K hK=>?_;simp -dsimp [hpl];apply hK;clear hK K;refine gwp_cond rfl (fun hc0=>?_) (fun hc0=>?_)
  ·skip
   try simp at hc0
   have hany:L.any (fun p=>decide (10<p.length))=true:=List.any_eq_true.2 ⟨p,List.mem_of_getElem? hp,by simp;omega⟩;refine gS fun K hK=>?_;simp -dsimp;apply hK;clear hK K;exact gwp_ret ⟨[some (.els 1 [[Bo true]])],sub_rb [some 0] rfl (by simp) (by simp),by simp[hany]⟩
  ·skip
   try simp at hc0
   refine gwp_skip ?_;simp only[thenA,inBlockA,roundQ,reduceIte,Nat.reduceEqDiff,eq_self];refine⟨?_,sub_rb [some 0] rfl (by simp) (by simp)⟩;rw[List.take_add_one,List.any_append,hi,hp];simp;omega
 ·intro hdone;simp only[zT,reduceIte,Nat.reduceEqDiff];refine hK1 _ _ ?_;refine gwp_prune [2] (Or.inr (by simp)) ?_;simp only[zP,Nat.reduceEqDiff,reduceIte];refine gS fun K hK=>?_;simp -dsimp;apply hK;clear hK K;refine gwp_ret ?_;rw[List.take_of_length_le (by simp)]at hdone;simp[hdone]
theorem PureCall.argR {P:Program} {f:FuncId} {args args':List AV} {res:AV} (h:PureCall P f args' res) (hl:args.length=args'.length)
  (hr:∀(i:Nat) c c',args[i]?=some c→args'[i]?=some c'→∀(w:World) (S:Nat→Prop) (y:Value),RepP w S c y→RepP w S c' y):PureCall P f args res:=by
 have key:∀{w:World} {S:Nat→Prop} {vs:List Value},(∀(i:Nat) c x,args[i]?=some c→vs[i]?=some x→RepP w S c x)→∀(i:Nat) c x,args'[i]?=some c→vs[i]?=some x→RepP w S c x:=by
  intro w S vs h i c x h1 h2;have hil:i<args.length:=by rw[hl];exact(List.getElem?_eq_some_iff.1 h1).1
  exact hr i _ c (List.getElem?_eq_getElem hil) h1 w S x (h i _ x (List.getElem?_eq_getElem hil) h2)
 rcases h with⟨h1,h2⟩|h2
 ·exact Or.inl ⟨h1,fun S0 w vs a b c=>h2 S0 w vs a (by rw[←hl];exact b) (key c)⟩
 ·exact Or.inr fun S0 w vs a b=>h2 S0 w vs (by rw[←hl];exact a) (key b)
theorem fine_net {g:Gr} {s:Sta} {l:List Ld} (h:fineB g s l=true):NetOk g s:=by
 simp only[fineB,stB,Bool.and_eq_true,decide_eq_true_eq]at h;exact⟨h.1.1,h.1.2.1.1,h.1.2.1.2⟩
end Go.Cur
end
section
namespace Go.Cur
open Go.AM Go.Proofs
structure VPart (g:Gr) (s:Sta) (us:Kvs) (p:List Nat) (v:List Int) (d:Int) (vf:Nat→Fr):Prop where
 call:PureCall Tryz.prog 77 [net g s,iL (upN p), .mpc false [.i .i64] us] (.tup [iL v,I d,Bo true])
 len:v.length=p.length
 d0:0<d
 d1:d≤100000000000000
 nb:∀x∈v,-300000000000000000≤x∧x≤300000000000000000
 fr:∀i k,p[i]?=some k→vf k=red (at0 v (i:Nat)) d
theorem red_bd {n d:Int} (hd:0<d):0<(red n d).Den∧(red n d).Den≤d∧(red n d).Num.natAbs≤n.natAbs:=by
 obtain⟨a,b,g,hg,e,ha,hb⟩:=gcd_dvd (n:=n) hd;have ea':n/g=a:=by rw[ha];exact Int.mul_ediv_cancel_left _ (by omega)
 have eb':d/g=b:=by rw[hb];exact Int.mul_ediv_cancel_left _ (by omega)
 have hb0:0<b:=by
  refine Int.not_le.1 fun h=>?_;have:=Int.mul_nonpos_of_nonneg_of_nonpos (Int.le_of_lt hg) h;omega
 have hbd:b≤d:=by
  have:=Int.mul_le_mul_of_nonneg_right (show(1:Int)≤g by omega) (Int.le_of_lt hb0);omega
 have hna:a.natAbs≤n.natAbs:=by
  rw[ha,Int.natAbs_mul];exact Nat.le_mul_of_pos_left _ (by omega)
 unfold red;rw[e,ea',eb'];exact⟨hb0,hbd,hna⟩
def vlF (n:Nat) (vf:Nat→Fr) (done:List Nat):List Fr:=(List.range n).map fun k=>if k∈done then vf k else⟨0,0⟩
theorem vlF_len (n:Nat) (vf:Nat→Fr) (done:List Nat):(vlF n vf done).length=n:=by simp[vlF]
theorem vlF_get {n:Nat} {vf:Nat→Fr} {done:List Nat} {k:Nat} (h:k<n):(vlF n vf done)[k]?=some (if k∈done then vf k else⟨0,0⟩):=by
 unfold vlF;rw[List.getElem?_map,List.getElem?_range h];rfl
theorem vlF_set {n:Nat} {vf:Nat→Fr} {done:List Nat} {k:Nat}:(vlF n vf done).set k (vf k)=vlF n vf (done++[k]):=by
 refine List.ext_getElem? fun i=>?_
 by_cases hi:i<n
 ·rw[vlF_get hi]
  by_cases h:i=k
  ·subst h;rw[List.getElem?_set_self (by rw[vlF_len];exact hi)];simp
  ·rw[List.getElem?_set_ne (fun e=>h e.symm),vlF_get hi];simp[h]
 ·rw[List.getElem?_eq_none (by simp[vlF];omega),List.getElem?_eq_none (by simp[vlF];omega)]
theorem vlF_nil (n:Nat) (vf:Nat→Fr):vlF n vf []=List.replicate n ⟨0,0⟩:=by
 unfold vlF;refine List.ext_getElem? fun i=>?_
 by_cases hi:i<n
 ·rw[List.getElem?_map,List.getElem?_range hi,List.getElem?_replicate,if_pos hi];simp
 ·rw[List.getElem?_eq_none (by simp;omega),List.getElem?_eq_none (by simp;omega)]
def vlA (n:Nat) (vf:Nat→Fr):List Fr:=(List.range n).map vf
theorem vlF_all {n:Nat} {vf:Nat→Fr} {done:List Nat} (h:∀k,k<n→k∈done):vlF n vf done=vlA n vf:=by
 unfold vlF vlA;exact List.map_congr_left fun k hk=>if_pos (h k (List.mem_range.1 hk))
theorem vlA_get {n:Nat} {vf:Nat→Fr} {k:Nat} (h:k<n):(vlA n vf)[k]?=some (vf k):=by
 unfold vlA;rw[List.getElem?_map,List.getElem?_range h];rfl
theorem partL_all {g:Gr} {s:Sta} (hnt:NetOk g s) {k:Nat} (hk:k<g.Nodes.toNat):k∈(partL g s).flatten:=by
 rw[List.mem_flatten];exact⟨_,List.mem_map.2 ⟨_,nm_head (netE_ok hnt) hk,rfl⟩,cp_mem.2 ⟨hk,rfl⟩⟩
theorem partL_lt {g:Gr} {s:Sta} {p:List Nat} (hp:p∈partL g s) {k:Nat} (hk:k∈p):k<g.Nodes.toNat:=by
 obtain⟨i,_,rfl⟩:=List.mem_map.1 hp;exact(cp_mem.1 hk).1
def ffF (g:Gr) (s:Sta) (vf:Nat→Fr) (i:Nat):Fr:=
 let f:=fdI g i
 let v:=vf f.At.toNat
 if bAt s.Feeds i=true∧0<f.Volts*v.Den-v.Num then red (f.Siem*(f.Volts*v.Den-v.Num)) v.Den else⟨0,1⟩
def flF (g:Gr) (s:Sta) (vf:Nat→Fr) (k:Nat):List Fr:=(List.range g.Feeds.length).map fun i=>if i<k then ffF g s vf i else⟨0,0⟩
theorem flF_get {g:Gr} {s:Sta} {vf:Nat→Fr} {k i:Nat} (h:i<g.Feeds.length):(flF g s vf k)[i]?=some (if i<k then ffF g s vf i else⟨0,0⟩):=by
 unfold flF;rw[List.getElem?_map,List.getElem?_range h];rfl
theorem flF_len (g:Gr) (s:Sta) (vf:Nat→Fr) (k:Nat):(flF g s vf k).length=g.Feeds.length:=by simp[flF]
theorem flF_set {g:Gr} {s:Sta} {vf:Nat→Fr} {k:Nat}:(flF g s vf k).set k (ffF g s vf k)=flF g s vf (k+1):=by
 refine List.ext_getElem? fun i=>?_
 by_cases hi:i<g.Feeds.length
 ·rw[flF_get hi]
  by_cases h:i=k
  ·subst h;rw[List.getElem?_set_self (by rw[flF_len];exact hi)];simp
  ·rw[List.getElem?_set_ne (fun e=>h e.symm),flF_get hi]
   by_cases h2:i<k
   ·rw[if_pos h2,if_pos (by omega)]
   ·rw[if_neg h2,if_neg (by omega)]
 ·rw[List.getElem?_eq_none (by simp[flF];omega),List.getElem?_eq_none (by simp[flF];omega)]
theorem flF_zero (g:Gr) (s:Sta) (vf:Nat→Fr):flF g s vf 0=List.replicate g.Feeds.length ⟨0,0⟩:=by
 unfold flF;refine List.ext_getElem? fun i=>?_
 by_cases hi:i<g.Feeds.length
 ·rw[List.getElem?_map,List.getElem?_range hi,List.getElem?_replicate,if_pos hi];simp
 ·rw[List.getElem?_eq_none (by simp;omega),List.getElem?_eq_none (by simp;omega)]
def flA (g:Gr) (s:Sta) (vf:Nat→Fr):List Fr:=(List.range g.Feeds.length).map (ffF g s vf)
theorem flF_all (g:Gr) (s:Sta) (vf:Nat→Fr):flF g s vf g.Feeds.length=flA g s vf:=by
 unfold flF flA;exact List.map_congr_left fun k hk=>if_pos (List.mem_range.1 hk)
end Go.Cur
end
section
namespace Go.Cur
open Go.AM Go.Proofs
theorem c_solve_f (g:Gr) (s:Sta) (us:Kvs) (hnt:NetOk g s) (h12:Few12 g s) (vf:Nat→Fr) (t0:Nat) (p0:List Nat) (hp0:(partL g s)[t0]?=some p0) (v0:List Int) (d0:Int) (hc0':PureCall Tryz.prog 77 [net g s,iL (upN p0), .mpc false [.i .i64] us] (.tup [iL v0,I d0,Bo false])) (hv:∀(t:Nat) p,t<t0→(partL g s)[t]?=some p→∃v d,VPart g s us p v d vf):
  PureCall Tryz.prog 51 [net g s, .mpc false [.i .i64] us] (.tup [.agg [.v (.slice none 0 0), .v (.slice none 0 0)],Bo false]):=by
 have hbd:=grB_bd hnt.gr;obtain⟨N,hnn⟩:∃N:Nat,g.Nodes.toNat=N:=⟨g.Nodes.toNat,rfl⟩;have hn0:0≤g.Nodes:=by omega
 have hit:=c_iter g s hnt h12;have hc:=c_parts (ntC g (bL s.Feeds) (bL s.Wires));have hcov:=fun k=>partL_all (k:=k) hnt;have hlt:=fun p (hp:p∈partL g s) k (hk:k∈p)=>partL_lt hp hk;rw[hnn]at hcov hlt;have h12':∀p∈partL g s,p.length≤12:=h12;generalize partL g s=L at hit hv hcov hlt h12' hp0;have f0:Fits N 17:=fits_of (by omega) (by omega);have f1:Fits g.Feeds.length 17:=fits_of (by omega) (by omega);refine PureCall.of_bodyG Tryz.func51 rfl (by decide) (by simp[Tryz.ntmps51]) ?_;intro J hJ;simp only[Tryz.ntmps51,Tryz.results51];refine gS fun K hK=>?_;simp -dsimp;apply hK;clear hK K;refine gwp_sd mixed rfl (by decide) rfl rfl fun K hK=>?_;simp -dsimp [hn0,hnn,f0,f1];refine hK _ _ _ (by decide+kernel) ?_;clear hK K;refine gwp_seq_k fun K1 hK1=>?_;refine gS fun K hK=>?_;simp -dsimp;refine callK_intro _ (hc) (by simp) ?_;simp -dsimp;apply hK;clear hK K;refine gwp_block ?_;refine gwp_prune [2,3,4,5,6,32] (Or.inr (by simp)) ?_;simp only[zP,Nat.reduceEqDiff,reduceIte];refine gwp_range_s hJ [2,3,4,5,6,32] (fun t=>[some (.els 1 [[net g s]]),some (.els 1 [[.mpc false [.i .i64] us]]),some (.els 2 [[.v (.slice none 0 0), .v (.slice none 0 0)]]),some (.els 1 [[Bo false]]),some (.els 2 ((vlF N vf (L.take t).flatten).map Fr.cells)),some (.els 2 ((flF g s vf 0).map Fr.cells)),some (.els 2 [[.row 4 0 N, .row 5 0 g.Feeds.length]])]) (fun t=>t≤t0) rfl (hit) rfl (by simp) (by decide) (by decide) (by decide) (pAV_len L) ?_ ?_ ?_ ?_
 ·exact Nat.zero_le _
 ·exact sub_rb [some 0,some 1,some 2,some 3,some 4,some 5,some 6] rfl (by simp) (by simp[vlF_nil,flF_zero])
 ·intro n xv hxn hi l1 J1 hJ1;obtain⟨p,hp,rfl⟩:∃p,L[n]?=some p∧pAV p=xv:=by simpa using hxn
  have hpm:=List.mem_of_getElem? hp;have hpl:=upN_len p;have hp12:=h12' p hpm;simp only[pAV];simp only[List.zip_cons_cons,List.zip_nil_left,List.zip_nil_right,List.cons_append,List.nil_append];refine gR fun K hK=>?_;simp -dsimp;apply hK;clear hK K;simp only[onlyN];intro J2 hJ2;refine gwp_prune [2,3,4,5,6,7,32] (Or.inr (by simp)) ?_;simp only[zP,Nat.reduceEqDiff,reduceIte];refine gwp_block ?_
  rcases Nat.lt_or_eq_of_le hi with h|h
  rotate_left
  have hpe:p=p0:=by rw[h,hp0]at hp;simpa using hp.symm
  subst hpe
  rotate_left
  obtain⟨v,d,hV⟩:=hv n p h hp;have hcall:=hV.call;have hvl:=hV.len;have hd0:=hV.d0;have hd1:=hV.d1
  rotate_left
  ·refine gS fun K hK=>?_;simp -dsimp;refine callK_intro _ (hc0') (by simp) ?_;simp -dsimp;apply hK;clear hK K;refine gwp_seq_k fun K2 hK2=>?_;refine gS fun K hK=>?_;simp -dsimp;apply hK;clear hK K;refine gwp_cond rfl (fun hc0=>?_) (fun hc0=>?_)
   ·refine gS fun K hK=>?_;simp -dsimp;apply hK;clear hK K;exact gwp_ret ⟨[some (.els 1 [[net g s]]),some (.els 1 [[.mpc false [.i .i64] us]]),some (.els 2 [[.v (.slice none 0 0), .v (.slice none 0 0)]]),some (.els 1 [[Bo false]]),some (.els 2 ((vlF N vf (L.take n).flatten).map Fr.cells)),some (.els 2 ((flF g s vf 0).map Fr.cells)),some (.els 2 [[.row 4 0 N, .row 5 0 g.Feeds.length]])],sub_rb [some 0,some 1,some 2,some 3,some 4,some 5,some 6] rfl (by simp) (by simp),by simp[resP,tupOf]⟩
   ·simp at hc0
  ·refine gS fun K hK=>?_;simp -dsimp;refine callK_intro _ (hcall) (by simp) ?_;simp -dsimp;apply hK;clear hK K;refine gwp_seq_k fun K3 hK3=>?_;refine gS fun K hK=>?_;simp -dsimp;apply hK;clear hK K;refine gwp_cond rfl (fun hc0=>?_) (fun hc0=>?_)
   ·simp at hc0
   ·refine gwp_skip ?_;simp only[zT,reduceIte,Nat.reduceEqDiff];refine hK3 _ _ ?_;refine gwp_prune [2,3,4,5,6,7,8,9,32] (Or.inr (by simp)) ?_;simp only[zP,Nat.reduceEqDiff,reduceIte];refine gS fun K hK=>?_;simp -dsimp;apply hK;clear hK K;refine gwp_block ?_;refine gwp_prune [2,3,4,5,6,8,9,32,45,46,47] (Or.inr (by simp)) ?_;simp only[zP,Nat.reduceEqDiff,reduceIte];refine gwp_loop_l [2,3,4,5,6,8,9,32,45,46] (α:=Nat) (fun i=>[(47,I i)]) (fun i=>[some (.els 1 [[net g s]]),some (.els 1 [[.mpc false [.i .i64] us]]),some (.els 2 [[.v (.slice none 0 0), .v (.slice none 0 0)]]),some (.els 1 [[Bo false]]),some (.els 2 ((vlF N vf ((L.take n).flatten++p.take i)).map Fr.cells)),some (.els 2 ((flF g s vf 0).map Fr.cells)),some (.els 2 [[.row 4 0 N, .row 5 0 g.Feeds.length]])]) (fun i=>i≤p.length) (fun i=>p.length-i) 0 ?_ ?_ ?_
    ·exact Nat.zero_le _
    ·exact gsub (sub_rb [some 0,some 1,some 2,some 3,some 4,some 5,some 6] rfl (by simp) (by simp)) (by simp)
    rintro i i1;simp only[zP,Nat.reduceEqDiff,reduceIte];refine gS fun K hK=>?_;simp -dsimp;apply hK;clear hK K;refine gwp_seq_k fun K4 hK4=>?_;refine gwp_cond rfl (fun hc1=>?_) (fun hc1=>?_)
    ·have hil:i<p.length:=by rw[←hpl];simpa using hc1
     obtain⟨k,hk⟩:∃k,p[i]?=some k:=⟨_,List.getElem?_eq_getElem hil⟩;have gk:=upN_get hk;have gv:=at0_nat (l:=v) (k:=i) (by omega);have hkN:=hlt p hpm k (List.mem_of_getElem? hk);have wi:=zW i (by omega);have hnb:=hV.nb _ (List.mem_of_getElem? gv);have hfr:=c_fraction (at0 v (i:Nat)) d hd0 (by omega) (by omega) (by omega);have hfk:=hV.fr i k hk;rw[←hfk]at hfr;have hvls:=vlF_len N vf ((L.take n).flatten++p.take i);have gvl:=vlF_get (vf:=vf) (done:=(L.take n).flatten++p.take i) hkN;have hst:=vlF_set (n:=N) (vf:=vf) (done:=(L.take n).flatten++p.take i) (k:=k);have hpt:p.take (i+1)=p.take i++[k]:=by rw[List.take_add_one,hk];rfl
     rw[List.append_assoc,←hpt]at hst;generalize vlF N vf ((L.take n).flatten++p.take i)=VL at hvls gvl hst ⊢;refine gwp_skip ?_;simp only[zT,reduceIte,Nat.reduceEqDiff];refine hK4 _ _ ?_;refine gwp_prune [2,3,4,5,6,8,9,32,45,46,47] (Or.inr (by simp)) ?_;simp only[zP,Nat.reduceEqDiff,reduceIte];refine gwp_seq_k fun K5 hK5=>?_;refine gwp_block ?_;refine gS fun K hK=>?_;simp -dsimp [gk];apply hK;clear hK K;refine gwp_draw mixed rfl (by decide) rfl rfl fun K hK=>?_;simp -dsimp [gv,hkN,hvls,gvl];refine callK_intro _ (hfr) (by simp) ?_;simp -dsimp [gv,hkN,hvls,gvl];refine hK _ _ _ (by decide+kernel) ?_;clear hK K;simp only[zT,reduceIte,Nat.reduceEqDiff];refine hK5 _ _ ?_;refine gwp_prune [2,3,4,5,6,8,9,32,45,46,47] (Or.inr (by simp)) ?_;simp only[zP,Nat.reduceEqDiff,reduceIte];refine gR fun K hK=>?_;simp -dsimp [wi];apply hK;clear hK K;simp only[zT,reduceIte,Nat.reduceEqDiff];exact⟨i+1,by omega,by omega,gsub (sub_rb [some 0,some 1,some 2,some 3,some 4,some 5,some 6] rfl (by simp) (by simp[←hst,List.map_set])) (by simp)⟩
    ·have hil:¬i<p.length:=by rw[←hpl];simpa using hc1
     have hpt:p.take i=p:=List.take_of_length_le (by omega);rw[hpt];refine gwp_exit ?_;simp only[thenA,inBlockA,roundQ,reduceIte,Nat.reduceEqDiff,eq_self];have hfl:(L.take (n+1)).flatten=(L.take n).flatten++p:=by rw[List.take_add_one,hp,List.flatten_append];simp
     exact⟨by omega,sub_rb [some 0,some 1,some 2,some 3,some 4,some 5,some 6] rfl (by simp) (by simp[hfl])⟩
 ·intro hdone;have hlt0:=(List.getElem?_eq_some_iff.1 hp0).1;simp at hdone;omega
abbrev allS (l:List Ld):List Bool:=List.replicate l.length true
theorem c_Solve_a (g:Gr) (s:Sta) (l:List Ld) (hl:l.length≤1000) (hf:fineB g s l=false):PureCall Tryz.prog 25 [g.av,s.av,lL l] (.tup [.v (.slice none 0 0), .v (.slice none 0 0),I 2]):=by
 have hb:=c_begin_f g s l hl hf;refine PureCall.of_body Tryz.func25 rfl (by decide) (by simp[Tryz.ntmps25]) ?_;simp only[Tryz.ntmps25,Tryz.results25];refine aS fun K hK=>?_;simp -dsimp;apply hK;clear hK K;refine aS fun K hK=>?_;simp -dsimp;refine callK_intro _ (hb) (by simp) ?_;simp -dsimp;apply hK;clear hK K;refine awp_seq_k fun K1 hK1=>?_;refine awp_block ?_;refine aS fun K hK=>?_;simp -dsimp;apply hK;clear hK K;refine awp_cond rfl (fun hc0=>?_) (fun hc0=>?_)
 ·refine aS fun K hK=>?_;simp -dsimp;apply hK;clear hK K;exact awp_ret (by simp)
 ·simp at hc0
theorem c_Solve_l (g:Gr) (s:Sta) (l:List Ld) (hl:l.length≤1000) (hf:fineB g s l=true) (h12:Few12 g s) (hlo:longB g s=true):PureCall Tryz.prog 25 [g.av,s.av,lL l] (.tup [.v (.slice none 0 0), .v (.slice none 0 0),I 3]):=by
 have hb:=c_begin_t g s l hl hf;have hlg:=c_long g s (fine_net hf) h12;rw[hlo]at hlg;refine PureCall.of_body Tryz.func25 rfl (by decide) (by simp[Tryz.ntmps25]) ?_;simp only[Tryz.ntmps25,Tryz.results25];refine aS fun K hK=>?_;simp -dsimp;apply hK;clear hK K;refine aS fun K hK=>?_;simp -dsimp;refine callK_intro _ (hb) (by simp) ?_;simp -dsimp;apply hK;clear hK K;refine awp_seq_k fun K1 hK1=>?_;refine awp_block ?_;refine aS fun K hK=>?_;simp -dsimp;apply hK;clear hK K;refine awp_cond rfl (fun hc0=>?_) (fun hc0=>?_)
 ·simp at hc0
 ·refine aS fun K hK=>?_;simp -dsimp;refine callK_intro _ (hlg) (by simp) ?_;simp -dsimp;apply hK;clear hK K;refine awp_cond rfl (fun hc1=>?_) (fun hc1=>?_)
  ·refine aS fun K hK=>?_;simp -dsimp;apply hK;clear hK K;exact awp_ret (by simp)
  ·simp at hc1
theorem c_Solve_n (g:Gr) (s:Sta) (l:List Ld) (hl:l.length≤1000) (hf:fineB g s l=true) (h12:Few12 g s) (hlo:longB g s=false) (hs:PureCall Tryz.prog 51 [net g s, .mpc false [.i .i64] (tkK l (allS l))] (.tup [.agg [.v (.slice none 0 0), .v (.slice none 0 0)],Bo false])):PureCall Tryz.prog 25 [g.av,s.av,lL l] (.tup [.v (.slice none 0 0), .v (.slice none 0 0),I 4]):=by
 have hb:=c_begin_t g s l hl hf;have hlg:=c_long g s (fine_net hf) h12;have htk:=c_taken_n l hl;rw[hlo]at hlg;generalize tkK l (allS l)=us at hs htk;refine PureCall.of_body Tryz.func25 rfl (by decide) (by simp[Tryz.ntmps25]) ?_;simp only[Tryz.ntmps25,Tryz.results25];refine aS fun K hK=>?_;simp -dsimp;apply hK;clear hK K;refine aS fun K hK=>?_;simp -dsimp;refine callK_intro _ (hb) (by simp) ?_;simp -dsimp;apply hK;clear hK K;refine awp_seq_k fun K1 hK1=>?_;refine awp_block ?_;refine aS fun K hK=>?_;simp -dsimp;apply hK;clear hK K;refine awp_cond rfl (fun hc0=>?_) (fun hc0=>?_)
 ·simp at hc0
 ·refine aS fun K hK=>?_;simp -dsimp;refine callK_intro _ (hlg) (by simp) ?_;simp -dsimp;apply hK;clear hK K;refine awp_cond rfl (fun hc1=>?_) (fun hc1=>?_)
  ·simp at hc1
  ·refine awp_skip ?_;simp only[zT,reduceIte,Nat.reduceEqDiff];refine hK1 _ _ ?_;refine awp_prune [2,9] ?_;simp only[zP,Nat.reduceEqDiff,reduceIte];refine aS fun K hK=>?_;simp -dsimp;refine callK_intro _ (htk) (by simp) ?_;simp -dsimp;refine callK_intro _ (hs) (by simp) ?_;simp -dsimp;apply hK;clear hK K;refine awp_seq_k fun K2 hK2=>?_;refine aS fun K hK=>?_;simp -dsimp;apply hK;clear hK K;refine awp_cond rfl (fun hc2=>?_) (fun hc2=>?_)
   ·refine aS fun K hK=>?_;simp -dsimp;apply hK;clear hK K;exact awp_ret (by simp)
   ·simp at hc2
end Go.Cur
end
section
namespace Go.Cur
open Go.AM Go.Proofs
theorem partL_head {g:Gr} {s:Sta} {p:List Nat} (hp:p∈partL g s):∃i,i∈heads (netE g s) g.Nodes.toNat∧p=cp (netE g s) g.Nodes.toNat i:=by
 obtain⟨i,hi,rfl⟩:=List.mem_map.1 hp;exact⟨i,hi,rfl⟩
theorem partL_ok {g:Gr} {s:Sta} {p:List Nat} (hnt:NetOk g s) (hp:p∈partL g s) (h10:p.length≤10):PartOk g s p:=by
 obtain⟨i,hi,rfl⟩:=partL_head hp;refine⟨List.length_pos_of_mem (cp_self hi),h10,cp_nodup,fun w hw=>?_⟩;have he:w.e∈netE g s:=List.mem_map.2 ⟨w,hw,rfl⟩;have h1:=netE_ok hnt _ he;have h2:=nm_eq (netE_ok hnt) he;simp only[cp_mem];unfold Wn.e at h1 h2;simp only at h1 h2;rw[h2];exact⟨fun h=>⟨h1.2,h.2⟩,fun h=>⟨h1.1,h.2⟩⟩
theorem Pt_ok {g:Gr} {s:Sta} {us:Kvs} {p:List Nat} {fs:List Int} (hnt:NetOk g s) (hp:p∈partL g s) (hfs:fs=feedL g s (upN p)):(Pt g (onW g.Wires s.Wires) us p fs fs.length).Ok:=by
 obtain⟨i,hi,e⟩:=partL_head hp;have h:=prt_ok (W:=onW g.Wires s.Wires) (n:=g.Nodes.toNat) (i:=i) (u:=fun x=>igt us x) (fs:=List.range fs.length) (p:=fun b=>(fdOf g fs b).At.toNat) (s:=fun b=>(fdOf g fs b).Siem) (V:=fun b=>(fdOf g fs b).Volts) (onW_ok hnt)
  (fun b hb=>by have:=(feed_at hnt hfs (List.mem_range.1 hb)).2.2.2.2.2.1;rw[e]at this;exact this)
  (fun b hb=>by have:=(feed_at hnt hfs (List.mem_range.1 hb));show 0<(fdI g (at0 fs b)).Siem;omega)
 unfold prt at h;unfold Pt;rw[e];exact h
theorem deg_take {g:Gr}:∀k,k≤g.Wires.length→wrTo g k=true→∀x,deg (g.Wires.take k) x≤3
 |0,_,_,x=>by simp[deg]
 | k+1,hk,h,x=>by
  simp only[wrTo,Bool.and_eq_true]at h;have ih:=deg_take k (by omega) h.1 x;obtain⟨w,hw⟩:∃w,g.Wires[k]?=some w:=⟨_,List.getElem?_eq_getElem (by omega)⟩;have h2:=h.2;rw[hw]at h2;simp only[wrD,Bool.and_eq_true,decide_eq_true_eq]at h2;have e:g.Wires.take (k+1)=g.Wires.take k++[w]:=by rw[List.take_add_one,hw];rfl
  by_cases ha:w.A=x
  ·rw[←ha];exact h2.2.1
  ·by_cases hb:w.B=x
   ·rw[←hb];exact h2.2.2
   ·rw[e,deg_append];simp only[deg,if_neg ha,if_neg hb];omega
theorem deg_le {g:Gr} (h:grB g=true) (x:Int):deg g.Wires x≤3:=by
 simp only[grB,Bool.and_eq_true]at h;have:=deg_take g.Wires.length (Nat.le_refl _) h.1.2 x
 rwa [List.take_length]at this
theorem dg_deg {i:Nat}:∀{l:List Wr} {b:List Bool},(∀w∈l,0≤w.A∧0≤w.B)→(dg (onW l b) i:Int)≤deg l i
 |[],b,_=>by simp[onW,dg,deg]
 |w::l,[],h=>by
  have:=deg_nn (i:Int) (w::l);simp only[onW,List.zip_nil_right,List.filterMap_nil,dg,List.filter_nil,List.length_nil];omega
 | w::l,c::b,h=>by
  have ih:=dg_deg (i:=i) (l:=l) (b:=b) fun w hw=>h w (by simp[hw]);have hw:=h w (by simp);have e:onW (w::l) (c::b)=(if c=true then [⟨w.A.toNat,w.B.toNat,w.Siem⟩]else [])++onW l b:=by
   cases c<;>simp[onW]
  rw[e];simp only[deg];unfold dg at ih ⊢;rw[List.filter_append,List.length_append];have h1:(((if c=true then [(⟨w.A.toNat,w.B.toNat,w.Siem⟩:Wn)]else []).filter fun w=>decide (w.a=i)||decide (w.b=i)).length:Int)≤(if w.A=(i:Int)then 1 else 0)+(if w.B=(i:Int)then 1 else 0):=by
   cases c
   ·simp only[Bool.false_eq_true,if_false,List.filter_nil,List.length_nil]
    split<;>split<;>omega
   ·simp only[if_true,List.filter_cons,List.filter_nil];have ha:decide (w.A.toNat=i)=decide (w.A=(i:Int)):=decide_eq_decide.2 (by omega);have hb:decide (w.B.toNat=i)=decide (w.B=(i:Int)):=decide_eq_decide.2 (by omega);rw[ha,hb]
    by_cases h1:w.A=(i:Int)<;>by_cases h2:w.B=(i:Int)<;>simp[h1,h2]
  omega
theorem lw_12 {g:Gr} {s:Sta} (hnt:NetOk g s) (i:Nat):0≤lw (onW g.Wires s.Wires) i i∧lw (onW g.Wires s.Wires) i i≤12:=by
 have hw:=hnt.wires;have h1:=lw_diag (i:=i) (onW_ok hnt) fun w hw'=>by
  obtain⟨w0,h0,rfl⟩:=onW_mem hw';have:=hw w0 h0;simp only[wrB,Bool.and_eq_true,inr_iff]at this;exact this.2.2
 have h2:=dg_deg (i:=i) (l:=g.Wires) (b:=s.Wires) fun w hw'=>by
  have:=hw w hw';simp only[wrB,Bool.and_eq_true,inr_iff]at this;omega
 have h3:=deg_le hnt.gr (i:Int);omega
theorem sa_map {f:Nat→Nat} {g:Nat→Nat}:∀{l:List Nat},sa f (l.map g)=sa (fun i=>f (g i)) l
 |[]=>rfl
 |i::l=>by rw[List.map_cons,sa,sa,sa_map]
theorem sa_getD (f:Nat→Nat) (p:List Nat):sa (fun j=>f (p.getD j 0)) (List.range p.length)=sa f p:=by
 conv=>rhs;rw[list_range (p:=p)]
 rw[sa_map]
theorem getD_mem {p:List Nat} {i:Nat} (h:i<p.length):p.getD i 0∈p:=List.mem_of_getElem? (getD_get h)
theorem D_le {A:Nat→Nat→Int} {p:List Nat} {R:Nat} (h:∀i∈p,sa (fun k=>(A i k).natAbs) p≤R):(D A p).natAbs≤R^p.length:=by
 rw[D_minor];have:=minor_abs (a:=fun i k=>A (p.getD i 0) (p.getD k 0)) (R:=R) (rows:=List.range p.length) (cols:=List.range p.length) fun i hi=>by
  have:=sa_getD (fun k=>(A (p.getD i 0) k).natAbs) p;rw[this];exact h _ (getD_mem (List.mem_range.1 hi))
 rwa [List.length_range]at this
theorem num_le {A:Nat→Nat→Int} {b:Nat→Int} {p:List Nat} {R B:Nat} (hp:p.Nodup) (h:∀i∈p,sa (fun k=>(A i k).natAbs) p≤R) (hB:∀i∈p,(b i).natAbs≤B) (k:Nat):(num A b p k).natAbs≤R^p.length+bnd R B p.length:=by
 by_cases hk:k∈p
 ·obtain⟨j,hj⟩:=List.getElem?_of_mem hk;have hjl:=(List.getElem?_eq_some_iff.1 hj).1;have e:p.getD j 0=k:=by rw[List.getD_eq_getElem?_getD,hj];rfl
  rw [←e,num_minor hp hjl];have:=minor_mark (a:=fun i c=>if c=j then b (p.getD i 0)else A (p.getD i 0) (p.getD c 0)) (R:=R) (B:=B) (k0:=j) (rows:=List.range p.length) (cols:=List.range p.length) List.nodup_range (List.mem_range.2 hjl)
   (fun i hi=>by simp only[if_true];exact hB _ (getD_mem (List.mem_range.1 hi))) (fun i hi=>by
    refine Nat.le_trans (sa_le (g:=fun c=>(A (p.getD i 0) (p.getD c 0)).natAbs) fun c hc=>?_) ?_
    ·split
     ·exact Nat.zero_le _
     ·exact Nat.le_refl _
    ·have:=sa_getD (fun k=>(A (p.getD i 0) k).natAbs) p;rw[this];exact h _ (getD_mem (List.mem_range.1 hi)))
  rw[List.length_range]at this;omega
 ·have e:num A b p k=D A p:=by
   unfold num D
   congr 1
   exact List.map_congr_left fun j hj=>by
    funext i
    rw[if_neg];rintro rfl;exact hk hj
  rw[e];have:=D_le h;omega
theorem bnd_zero (R:Nat):∀n,bnd R 0 n=0
 |0=>rfl
 |n+1=>by rw[bnd,bnd_zero R n];simp
theorem bnd_mono {R B:Nat} (hR:1≤R):∀{n m:Nat},n≤m→bnd R B n≤bnd R B m:=by
 intro n m h
 induction m with
 |zero=>rw[Nat.le_zero.1 h];exact Nat.le_refl _
 |succ m ih=>
  rcases Nat.lt_or_ge n (m+1)with h1|h1
  ·refine Nat.le_trans (ih (by omega)) ?_;rw[bnd];have:=Nat.mul_le_mul_right (bnd R B m) hR;omega
  ·rw[show n=m+1 by omega];exact Nat.le_refl _
theorem sa_diag {f:Nat→Nat} {i X:Nat}:∀{p:List Nat},p.Nodup→sa (fun k=>f k+if i=k then X else 0) p≤sa f p+X
 |[],_=>by simp[sa]
 | k::p,h=>by
  rw[List.nodup_cons]at h;have ih:=sa_diag (f:=f) (i:=i) (X:=X) h.2;rw[sa,sa]
  by_cases e:i=k
  ·have:sa (fun k=>f k+if i=k then X else 0) p≤sa f p:=sa_le fun j hj=>by
    rw[if_neg]; · omega
    rintro rfl;exact h.1 (e▸hj)
   rw[if_pos e];omega
  ·rw[if_neg e];omega
section
variable {g:Gr} {s:Sta} {us:Kvs} {p:List Nat} {fs:List Int}
theorem L_row (hnt:NetOk g s) (hp:p∈partL g s) (hfs:fs=feedL g s (upN p)) {i:Nat} (hi:i∈p):sa (fun k=>(lw (onW g.Wires s.Wires) i k).natAbs) p≤24:=by
 have h:=row_abs (Pt_ok (us:=[]) hnt hp hfs) (i:=i) hi (lw_12 hnt i).1;have h2:=(lw_12 hnt i).2;change ((sa (fun k=>(lw (onW g.Wires s.Wires) i k).natAbs) p:Nat):Int)=2*lw (onW g.Wires s.Wires) i i at h;omega
theorem fs_len (hnt:NetOk g s) (hfs:fs=feedL g s (upN p)):fs.length≤12:=by
 have hb:=grB_bd hnt.gr;have:=List.length_filter_le (fdOn g s (upN p)) (upI g.Feeds.length);rw[upI_len]at this;rw[hfs];unfold feedL;omega
theorem Pt_smallT (hnt:NetOk g s) (hp:p∈partL g s) (h5:p.length≤5) (hfs:fs=feedL g s (upN p)) (hus:∀x,-40≤igt us x∧igt us x≤40) (S:Nat→Bool) (hS:∃b,b<fs.length∧S b=true):
  (∀k,((Pt g (onW g.Wires s.Wires) us p fs fs.length).num S k).natAbs≤7000000000000)∧0<(Pt g (onW g.Wires s.Wires) us p fs fs.length).den S∧(Pt g (onW g.Wires s.Wires) us p fs fs.length).den S≤2000000000:=by
 have ho:=Pt_ok (us:=us) hnt hp hfs;have hf12:=fs_len (p:=p) hnt hfs;have hat:∀{c:Nat→Int} {C:Int} {i:Nat},0≤C→(∀b,b<fs.length→0≤c b∧c b≤C)→0≤(Pt g (onW g.Wires s.Wires) us p fs fs.length).at_ S c i∧(Pt g (onW g.Wires s.Wires) us p fs fs.length).at_ S c i≤C*12:=by
  intro c C i hC h;have h1:=at_bd (P:=Pt g (onW g.Wires s.Wires) us p fs fs.length) (S:=S) (c:=c) (i:=i) hC fun b hb=>h b (List.mem_range.1 hb);have h2:(Pt g (onW g.Wires s.Wires) us p fs fs.length).fs.length=fs.length:=List.length_range;rw[h2]at h1;exact⟨h1.1,Int.le_trans h1.2 (Int.mul_le_mul_of_nonneg_left (by omega) hC)⟩
 have hfa:=fun b (hb:b<fs.length)=>feed_at hnt hfs hb;have hR:∀i∈p,sa (fun k=>((Pt g (onW g.Wires s.Wires) us p fs fs.length).A S i k).natAbs) p≤72:=by
  intro i hi;have h1:=L_row hnt hp hfs hi;have h2:=hat (c:=(Pt g (onW g.Wires s.Wires) us p fs fs.length).s) (C:=4) (i:=i) (by omega) fun b hb=>by
   have:=hfa b hb;show 0≤(fdI g (at0 fs b)).Siem∧(fdI g (at0 fs b)).Siem≤4;omega
  have h3:=sa_diag (f:=fun k=>(lw (onW g.Wires s.Wires) i k).natAbs) (i:=i) (X:=((Pt g (onW g.Wires s.Wires) us p fs fs.length).at_ S (Pt g (onW g.Wires s.Wires) us p fs fs.length).s i).natAbs) ho.nd;refine Nat.le_trans (sa_le fun k _=>?_) (Nat.le_trans h3 ?_)
  ·unfold Part.A;show(lw (onW g.Wires s.Wires) i k+_).natAbs≤_
   split<;>omega
  ·show sa (fun k=>(lw (onW g.Wires s.Wires) i k).natAbs) p+_≤72;omega
 have hB:∀i∈p,((Pt g (onW g.Wires s.Wires) us p fs fs.length).b S i).natAbs≤48040:=by
  intro i hi;have h2:=hat (c:=fun b=>(Pt g (onW g.Wires s.Wires) us p fs fs.length).s b*(Pt g (onW g.Wires s.Wires) us p fs fs.length).V b) (C:=4000) (i:=i) (by omega) fun b hb=>by
   have h:=hfa b hb;show 0≤(fdI g (at0 fs b)).Siem*(fdI g (at0 fs b)).Volts∧(fdI g (at0 fs b)).Siem*(fdI g (at0 fs b)).Volts≤4000;exact⟨Int.mul_nonneg (by omega) (by omega),Int.mul_le_mul h.2.2.2.2.2.2.2.2.2 h.2.2.2.2.2.2.2.1 (by omega) (by omega)⟩
  have h3:=hus i;unfold Part.b;show(-igt us i+_).natAbs≤48040;omega
 have hpw:72^p.length≤72^5:=Nat.pow_le_pow_right (by omega) h5;have hbn:bnd 72 48040 p.length≤bnd 72 48040 5:=bnd_mono (by omega) h5;have e5:bnd 72 48040 5≤6500000000000:=by decide
 have hpos:=den_pos ho (S:=S) (by obtain⟨b,hb,h⟩:=hS;exact⟨b,List.mem_range.2 hb,h⟩);refine⟨fun k=>?_,hpos,?_⟩
 ·have:=num_le (b:=(Pt g (onW g.Wires s.Wires) us p fs fs.length).b S) ho.nd hR hB k;change ((Pt g (onW g.Wires s.Wires) us p fs fs.length).num S k).natAbs≤_ at this;change _≤72^p.length+bnd 72 48040 p.length at this;omega
 ·have:=D_le hR;change ((Pt g (onW g.Wires s.Wires) us p fs fs.length).den S).natAbs≤_ at this;omega
theorem Pt_small (hnt:NetOk g s) (hp:p∈partL g s) (h5:p.length≤5) (hfs:fs=feedL g s (upN p)) (hus:∀x,-40≤igt us x∧igt us x≤40) (S:Nat→Bool) (hS:∃b,b<fs.length∧S b=true):Sml (Pt g (onW g.Wires s.Wires) us p fs fs.length) S:=by
 obtain⟨a,b,c⟩:=Pt_smallT (us:=us) hnt hp h5 hfs hus S hS;exact⟨fun k=>by have:=a k;omega,b,by omega⟩
theorem Pt_small0A (hnt:NetOk g s) (hp:p∈partL g s) (h5:p.length≤5∨(p.length≤10∧∀x,igt us x=0)) (hfs:fs=feedL g s (upN p)) (hus:∀x,-40≤igt us x∧igt us x≤40) (i0:Nat) (hi0:p.getD 0 0=i0):
  Sml0 (Pt g (onW g.Wires s.Wires) us p fs fs.length) i0∧(p.length≤5→(∀k,((Pt g (onW g.Wires s.Wires) us p fs fs.length).num0 i0 k).natAbs≤1000000000)∧(Pt g (onW g.Wires s.Wires) us p fs fs.length).den0 i0≤10000000):=by
 have ho:=Pt_ok (us:=us) hnt hp hfs;have hR:∀i∈p,sa (fun k=>((Pt g (onW g.Wires s.Wires) us p fs fs.length).A0 i0 i k).natAbs) p≤24:=by
  intro i hi;unfold Part.A0
  by_cases h:i=i0
  ·simp only[if_pos h];have h3:=sa_diag (f:=fun _=>0) (i:=i0) (X:=1) ho.nd;have h4:sa (fun _=>0) (Pt g (onW g.Wires s.Wires) us p fs fs.length).ns=0:=by
    generalize (Pt g (onW g.Wires s.Wires) us p fs fs.length).ns=l
    induction l with
    |nil=>rfl
    |cons x l ih=>rw[sa,ih]
   refine Nat.le_trans (sa_le fun k _=>?_) (Nat.le_trans h3 (by omega))
   by_cases hk:k=i0
   ·subst hk;simp
   ·rw[if_neg hk,if_neg (fun e=>hk e.symm)];exact Nat.zero_le _
  ·simp only[if_neg h];exact L_row hnt hp hfs hi
 obtain⟨tl,hn⟩:∃tl,(Pt g (onW g.Wires s.Wires) us p fs fs.length).ns=i0::tl:=by
  have h1:p≠[]:=by
   obtain⟨i,hi,e⟩:=partL_head hp;rw[e];exact List.ne_nil_of_mem (cp_self hi)
  show∃tl,p=i0::tl
  cases p with
  |nil=>exact absurd rfl h1
  |cons a tl=>exact⟨tl,by rw[←hi0];rfl⟩
 have hpos:=den0_pos ho hn;have hD:=D_le hR;change ((Pt g (onW g.Wires s.Wires) us p fs fs.length).den0 i0).natAbs≤_ at hD
 by_cases h5':p.length≤5
 ·have hB:∀i∈p,((Pt g (onW g.Wires s.Wires) us p fs fs.length).b0 i0 i).natAbs≤40:=by
   intro i hi;unfold Part.b0;have:=hus i;show(if i=i0 then 0 else-igt us i).natAbs≤40
   split<;>omega
  have hpw:24^p.length≤24^5:=Nat.pow_le_pow_right (by omega) h5';have hbn:bnd 24 40 p.length≤bnd 24 40 5:=bnd_mono (by omega) h5';have e5:bnd 24 40 5≤900000000:=by decide
  have hk:∀k,((Pt g (onW g.Wires s.Wires) us p fs fs.length).num0 i0 k).natAbs≤1000000000:=fun k=>by
   have:=num_le (b:=(Pt g (onW g.Wires s.Wires) us p fs fs.length).b0 i0) ho.nd hR hB k;change ((Pt g (onW g.Wires s.Wires) us p fs fs.length).num0 i0 k).natAbs≤_ at this;change _≤24^p.length+bnd 24 40 p.length at this;omega
  exact⟨⟨fun k=>by have:=hk k;omega,hpos,by omega⟩,fun _=>⟨hk,by omega⟩⟩
 ·obtain⟨h10,hz⟩:=h5.resolve_left h5';have hB:∀i∈p,((Pt g (onW g.Wires s.Wires) us p fs fs.length).b0 i0 i).natAbs≤0:=by
   intro i hi;unfold Part.b0;have:=hz i;show(if i=i0 then 0 else-igt us i).natAbs≤0
   split<;>omega
  have hpw:24^p.length≤24^10:=Nat.pow_le_pow_right (by omega) h10;refine⟨⟨fun k=>?_,hpos,by omega⟩,fun h=>absurd h h5'⟩;have:=num_le (b:=(Pt g (onW g.Wires s.Wires) us p fs fs.length).b0 i0) ho.nd hR hB k;change ((Pt g (onW g.Wires s.Wires) us p fs fs.length).num0 i0 k).natAbs≤_ at this;change _≤24^p.length+bnd 24 0 p.length at this;rw[bnd_zero]at this;omega
theorem Pt_small0 (hnt:NetOk g s) (hp:p∈partL g s) (h5:p.length≤5∨(p.length≤10∧∀x,igt us x=0)) (hfs:fs=feedL g s (upN p)) (hus:∀x,-40≤igt us x∧igt us x≤40) (i0:Nat) (hi0:p.getD 0 0=i0):Sml0 (Pt g (onW g.Wires s.Wires) us p fs fs.length) i0:=(Pt_small0A hnt hp h5 hfs hus i0 hi0).1
end
end Go.Cur
end
section
namespace Go.AM
theorem MutCall.keep {P:Program} {f:FuncId} {args:List AV} {Hk Hd Hk' Hn:Hp} {res:AV} {d d':Option ARow} (q k k':Nat) {sz sz' s1:Nat} {es es' e1 e1':List (List AV)} {x:Value} {i o:Nat} (h:MutCall P f args Hk (d::Hd) res Hk' (d'::Hn))
  (h1:hget (Hk++d::Hd) q=some (.els sz es)) (h2:es.flatten[k]?=some (.fptr x Hk.length i o)) (h3:hget (Hk'++d'::Hn) q=some (.els sz' es')) (h4:es'.flatten[k']?=some (.fptr x Hk.length i o))
  (h5:d=some (.els s1 e1)) (h6:d'=some (.els s1 e1')):MutCall P f args (Hk++[d]) Hd res (Hk'++[d']) Hn:=by
 have eH:Hk++[d]++Hd=Hk++d::Hd:=by simp
 have eH':Hk'++[d']++Hn=Hk'++d'::Hn:=by simp
 refine⟨h.1,by simp[h.2.1],?_⟩;rw[eH,eH'];intro S0 w ρ vs hh hl hreps;refine(h.2.2 S0 w ρ vs hh hl hreps).mono ?_;rintro e w' ⟨v,ρ',rfl,hh',hrep,hkeep,hfresh,hext⟩;refine⟨v,ρ',rfl,hh',hrep,fun r l' hr hl'=>?_,hfresh,hext⟩
 by_cases hrk:r<Hk.length
 ·exact hkeep r l' hrk hl'
 have hre:r=Hk.length:=by
  rw[List.length_append]at hr;simp at hr;omega
 subst hre;have g1:hget (Hk++d::Hd) Hk.length=some (.els s1 e1):=by rw[hget_eq,List.getElem?_append_right (Nat.le_refl _)];simp[h5]
 have g2:hget (Hk'++d'::Hn) Hk.length=some (.els s1 e1'):=by rw[hget_eq,h.2.1,List.getElem?_append_right (Nat.le_refl _)];simp[h6]
 obtain⟨l,hlr,hrow⟩:=hh.rows _ _ g1;obtain⟨l2,hl2,hrow2⟩:=hh'.rows _ _ g2;rw[hl2]at hl';simp only[Option.some.injEq]at hl';subst hl';have cell:∀{w:World} {ρ:Nat→Option Loc} {L:Nat→Prop} {S:Nat→Prop} {l:Loc} {sz:Nat} {es:List (List AV)} {k:Nat},RowRep w S ρ L l (.els sz es)→es.flatten[k]?=some (.fptr x Hk.length i o)→RepV w S ρ L (.ptr Hk.length i o) x:=by
  intro w ρ L S l sz es k hr hk;obtain⟨_,_,e3,e4⟩:=hr
  cases hb:l.b with
  |none=>rw[e3 hb]at hk;simp at hk
  |some b=>
   obtain⟨c,t,_,_,_,p⟩:=e4 b hb;obtain⟨u,_,_,hu⟩:=p k _ hk
   cases hu with
   |pure _ _ h=>cases h
   |fptr _ _ _ _ h=>exact h
 obtain⟨lq,_,hrq⟩:=hh.rows q _ h1;obtain⟨lq',_,hrq'⟩:=hh'.rows q _ h3;have:=pin_loc (x:= .ptr Hk.length i o) rfl (cell hrq h2) (cell hrq' h4) hlr hl2 hrow hrow2 hext.cells (fun b hb hn=>hext.block b hb (fun ho=>hn (Or.inr ho)));rw[this];exact hlr
end Go.AM
end
section
namespace Go.Cur
open Go.AM Go.Proofs
def partOf (g:Gr) (s:Sta) (k:Nat):List Nat:=cp (netE g s) g.Nodes.toNat (nm (netE g s) g.Nodes.toNat k)
theorem partOf_eq {g:Gr} {s:Sta} {p:List Nat} {k:Nat} (hp:p∈partL g s) (hk:k∈p):p=partOf g s k:=by
 obtain⟨i,_,rfl⟩:=List.mem_map.1 hp;unfold partOf;rw[(cp_mem.1 hk).2]
end Go.Cur
end
section
namespace Go.Cur
open Go.AM Go.Proofs
abbrev hSb (x:AV) (l:List Ld) (ns:Nat) (vs fs:List Fr) (nc:Nat):Option ARow:=some (.els 6 [[x,lL l, .row 2 0 ns,fL vs,fL fs, .row 3 0 nc]])
end Go.Cur
end
section
namespace Go.Cur
open Go.AM Go.Proofs
def BolM (s:Kvs):Prop:=∀p∈s,∃b,p.2= .bool b
theorem BolM.set {s:Kvs} (hs:BolM s) (x:Int) (b:Bool):BolM (kvSet s (ik x) (.bool b)):=fun p hp=>by
 rcases kvSet_mem hp with rfl|hp
 ·exact⟨b,rfl⟩
 ·exact hs p hp
theorem BolM.nil:BolM []:=fun p hp=>by cases hp
theorem m_solve_t (g:Gr) (s:Sta) (us:Kvs) (hnt:NetOk g s) (h12:Few12 g s) (vf:Nat→Fr) (hv:∀p∈partL g s,∃v d,VPart g s us p v d vf):
  MutCall Tryz.prog 51 [net g s, .mpc false [.i .i64] us] [] [] (.tup [.agg [.row 0 0 g.Nodes.toNat, .row 1 0 g.Feeds.length],Bo true]) []
   [some (.els 2 ((vlA g.Nodes.toNat vf).map Fr.cells)),some (.els 2 ((flA g s vf).map Fr.cells)),some (.els 2 [[.row 0 0 g.Nodes.toNat, .row 1 0 g.Feeds.length]]),some (.els 1 [[Bo true]])]:=by
 have hbd:=grB_bd hnt.gr;obtain⟨N,hnn⟩:∃N:Nat,g.Nodes.toNat=N:=⟨g.Nodes.toNat,rfl⟩;have hn0:0≤g.Nodes:=by omega
 rw[hnn];have hit:=c_iter g s hnt h12;have hc:=c_parts (ntC g (bL s.Feeds) (bL s.Wires));have hcov:=fun k=>partL_all (k:=k) hnt;have hlt:=fun p (hp:p∈partL g s) k (hk:k∈p)=>partL_lt hp hk;rw[hnn]at hcov hlt;have h12':∀p∈partL g s,p.length≤12:=h12;generalize partL g s=L at hit hv hcov hlt h12';have f0:Fits N 17:=fits_of (by omega) (by omega);have f1:Fits g.Feeds.length 17:=fits_of (by omega) (by omega);refine MutCall.of_bodyG [] Tryz.func51 rfl (by decide) (by simp[Tryz.ntmps51]) rfl rfl ?_;intro J hJ;simp only[Tryz.ntmps51,Tryz.results51];refine gS fun K hK=>?_;simp -dsimp;apply hK;clear hK K;refine gwp_sd mixed rfl (by decide) rfl rfl fun K hK=>?_;simp -dsimp [hn0,hnn,f0,f1];refine hK _ _ _ (by decide+kernel) ?_;clear hK K;refine gwp_seq_k fun K1 hK1=>?_;refine gS fun K hK=>?_;simp -dsimp;refine callK_intro _ (hc) (by simp) ?_;simp -dsimp;apply hK;clear hK K;refine gwp_block ?_;refine gwp_prune [2,3,4,5,6,32] (Or.inr (by simp)) ?_;simp only[zP,Nat.reduceEqDiff,reduceIte];refine gwp_range_s hJ [2,3,4,5,6,32] (fun t=>[some (.els 1 [[net g s]]),some (.els 1 [[.mpc false [.i .i64] us]]),some (.els 2 [[.v (.slice none 0 0), .v (.slice none 0 0)]]),some (.els 1 [[Bo false]]),some (.els 2 ((vlF N vf (L.take t).flatten).map Fr.cells)),some (.els 2 ((flF g s vf 0).map Fr.cells)),some (.els 2 [[.row 4 0 N, .row 5 0 g.Feeds.length]])]) (fun t=>True) rfl (hit) rfl (by simp) (by decide) (by decide) (by decide) (pAV_len L) ?_ ?_ ?_ ?_
 ·trivial
 ·exact sub_rb [some 0,some 1,some 2,some 3,some 4,some 5,some 6] rfl (by simp) (by simp[vlF_nil,flF_zero])
 ·intro n xv hxn hi l1 J1 hJ1;obtain⟨p,hp,rfl⟩:∃p,L[n]?=some p∧pAV p=xv:=by simpa using hxn
  have hpm:=List.mem_of_getElem? hp;obtain⟨v,d,hV⟩:=hv p hpm;have hpl:=upN_len p;have hcall:=hV.call;have hvl:=hV.len;have hp12:=h12' p hpm;have hd0:=hV.d0;have hd1:=hV.d1;simp only[pAV];simp only[List.zip_cons_cons,List.zip_nil_left,List.zip_nil_right,List.cons_append,List.nil_append];refine gR fun K hK=>?_;simp -dsimp;apply hK;clear hK K;simp only[onlyN];intro J2 hJ2;refine gwp_prune [2,3,4,5,6,7,32] (Or.inr (by simp)) ?_;simp only[zP,Nat.reduceEqDiff,reduceIte];refine gwp_block ?_;refine gS fun K hK=>?_;simp -dsimp;refine callK_intro _ (hcall) (by simp) ?_;simp -dsimp;apply hK;clear hK K;refine gwp_seq_k fun K2 hK2=>?_;refine gS fun K hK=>?_;simp -dsimp;apply hK;clear hK K;refine gwp_cond rfl (fun hc0=>?_) (fun hc0=>?_)
  ·simp at hc0
  ·refine gwp_skip ?_;simp only[zT,reduceIte,Nat.reduceEqDiff];refine hK2 _ _ ?_;refine gwp_prune [2,3,4,5,6,7,8,9,32] (Or.inr (by simp)) ?_;simp only[zP,Nat.reduceEqDiff,reduceIte];refine gS fun K hK=>?_;simp -dsimp;apply hK;clear hK K;refine gwp_block ?_;refine gwp_prune [2,3,4,5,6,8,9,32,45,46,47] (Or.inr (by simp)) ?_;simp only[zP,Nat.reduceEqDiff,reduceIte];refine gwp_loop_l [2,3,4,5,6,8,9,32,45,46] (α:=Nat) (fun i=>[(47,I i)]) (fun i=>[some (.els 1 [[net g s]]),some (.els 1 [[.mpc false [.i .i64] us]]),some (.els 2 [[.v (.slice none 0 0), .v (.slice none 0 0)]]),some (.els 1 [[Bo false]]),some (.els 2 ((vlF N vf ((L.take n).flatten++p.take i)).map Fr.cells)),some (.els 2 ((flF g s vf 0).map Fr.cells)),some (.els 2 [[.row 4 0 N, .row 5 0 g.Feeds.length]])]) (fun i=>i≤p.length) (fun i=>p.length-i) 0 ?_ ?_ ?_
   ·exact Nat.zero_le _
   ·exact gsub (sub_rb [some 0,some 1,some 2,some 3,some 4,some 5,some 6] rfl (by simp) (by simp)) (by simp)
   rintro i i1;simp only[zP,Nat.reduceEqDiff,reduceIte];refine gS fun K hK=>?_;simp -dsimp;apply hK;clear hK K;refine gwp_seq_k fun K3 hK3=>?_;refine gwp_cond rfl (fun hc1=>?_) (fun hc1=>?_)
   ·have hil:i<p.length:=by rw[←hpl];simpa using hc1
    obtain⟨k,hk⟩:∃k,p[i]?=some k:=⟨_,List.getElem?_eq_getElem hil⟩;have gk:=upN_get hk;have gv:=at0_nat (l:=v) (k:=i) (by omega);have hkN:=hlt p hpm k (List.mem_of_getElem? hk);have wi:=zW i (by omega);have hnb:=hV.nb _ (List.mem_of_getElem? gv);have hfr:=c_fraction (at0 v (i:Nat)) d hd0 (by omega) (by omega) (by omega);have hfk:=hV.fr i k hk;rw[←hfk]at hfr;have hvls:=vlF_len N vf ((L.take n).flatten++p.take i);have gvl:=vlF_get (vf:=vf) (done:=(L.take n).flatten++p.take i) hkN;have hst:=vlF_set (n:=N) (vf:=vf) (done:=(L.take n).flatten++p.take i) (k:=k);have hpt:p.take (i+1)=p.take i++[k]:=by rw[List.take_add_one,hk];rfl
    rw[List.append_assoc,←hpt]at hst;generalize vlF N vf ((L.take n).flatten++p.take i)=VL at hvls gvl hst ⊢;refine gwp_skip ?_;simp only[zT,reduceIte,Nat.reduceEqDiff];refine hK3 _ _ ?_;refine gwp_prune [2,3,4,5,6,8,9,32,45,46,47] (Or.inr (by simp)) ?_;simp only[zP,Nat.reduceEqDiff,reduceIte];refine gwp_seq_k fun K4 hK4=>?_;refine gwp_block ?_;refine gS fun K hK=>?_;simp -dsimp [gk];apply hK;clear hK K;refine gwp_draw mixed rfl (by decide) rfl rfl fun K hK=>?_;simp -dsimp [gv,hkN,hvls,gvl];refine callK_intro _ (hfr) (by simp) ?_;simp -dsimp [gv,hkN,hvls,gvl];refine hK _ _ _ (by decide+kernel) ?_;clear hK K;simp only[zT,reduceIte,Nat.reduceEqDiff];refine hK4 _ _ ?_;refine gwp_prune [2,3,4,5,6,8,9,32,45,46,47] (Or.inr (by simp)) ?_;simp only[zP,Nat.reduceEqDiff,reduceIte];refine gR fun K hK=>?_;simp -dsimp [wi];apply hK;clear hK K;simp only[zT,reduceIte,Nat.reduceEqDiff];exact⟨i+1,by omega,by omega,gsub (sub_rb [some 0,some 1,some 2,some 3,some 4,some 5,some 6] rfl (by simp) (by simp[←hst,List.map_set])) (by simp)⟩
   ·have hil:¬i<p.length:=by rw[←hpl];simpa using hc1
    have hpt:p.take i=p:=List.take_of_length_le (by omega);rw[hpt];refine gwp_exit ?_;simp only[thenA,inBlockA,roundQ,reduceIte,Nat.reduceEqDiff,eq_self];have hfl:(L.take (n+1)).flatten=(L.take n).flatten++p:=by rw[List.take_add_one,hp,List.flatten_append];simp
    exact⟨trivial,sub_rb [some 0,some 1,some 2,some 3,some 4,some 5,some 6] rfl (by simp) (by simp[hfl])⟩
 ·intro hdone;simp only[zT,reduceIte,Nat.reduceEqDiff];refine hK1 _ _ ?_;refine gwp_prune [2,4,5,6] (Or.inr (by simp)) ?_;simp only[zP,Nat.reduceEqDiff,reduceIte];refine gwp_seq_k fun K5 hK5=>?_;refine gS fun K hK=>?_;simp -dsimp;apply hK;clear hK K;refine gwp_block ?_;refine gwp_prune [2,4,5,6,67,68,69] (Or.inr (by simp)) ?_;simp only[zP,Nat.reduceEqDiff,reduceIte];refine gwp_loop_l [2,4,5,6,67,68] (α:=Nat) (fun i=>[(69,I i)]) (fun i=>[some (.els 1 [[net g s]]),some (.els 1 [[.mpc false [.i .i64] us]]),some (.els 2 [[.v (.slice none 0 0), .v (.slice none 0 0)]]),some (.els 1 [[Bo false]]),some (.els 2 ((vlA N vf).map Fr.cells)),some (.els 2 ((flF g s vf i).map Fr.cells)),some (.els 2 [[.row 4 0 N, .row 5 0 g.Feeds.length]])]) (fun i=>i≤g.Feeds.length) (fun i=>g.Feeds.length-i) 0 ?_ ?_ ?_
  ·exact Nat.zero_le _
  ·have hva:vlF N vf L.flatten=vlA N vf:=vlF_all fun k hk=>hcov k hk;rw[hva];exact gsub (sub_rb [some 0,some 1,some 2,some 3,some 4,some 5,some 6] rfl (by simp) (by simp)) (by simp)
  rintro i i1;simp only[zP,Nat.reduceEqDiff,reduceIte];refine gS fun K hK=>?_;simp -dsimp;apply hK;clear hK K;refine gwp_seq_k fun K6 hK6=>?_;refine gwp_cond rfl (fun hc2=>?_) (fun hc2=>?_)
  ·have hil:i<g.Feeds.length:=by simpa using hc2
   have hfi:g.Feeds[i]?=some (fdI g i):=by have:=fdI_get (g:=g) (i:=(i:Int)) (by omega) (by omega);rwa [Int.toNat_natCast]at this
   have hfb:=hnt.feeds _ (List.mem_of_getElem? hfi);have wi:=zW i (by omega);have hff:ffF g s vf i=if bAt s.Feeds i=true∧0<(fdI g i).Volts*(vf (fdI g i).At.toNat).Den-(vf (fdI g i).At.toNat).Num then red ((fdI g i).Siem*((fdI g i).Volts*(vf (fdI g i).At.toNat).Den-(vf (fdI g i).At.toNat).Num)) (vf (fdI g i).At.toNat).Den else⟨0,1⟩:=rfl;obtain⟨kA,hkA⟩:∃kA:Nat,kA=(fdI g i).At.toNat:=⟨_,rfl⟩;have hkN:kA<N:=by omega
   have hA0:0≤(fdI g i).At:=hfb.1;have gvv:=vlA_get (vf:=vf) hkN;have hvb:0<(vf kA).Den∧(vf kA).Den≤100000000000000∧(vf kA).Num.natAbs≤300000000000000000:=by
    obtain⟨p,hp,hkp⟩:=List.mem_flatten.1 (hcov kA hkN);obtain⟨v,d,hV⟩:=hv p hp;obtain⟨j,hj⟩:=List.getElem?_of_mem hkp;have hjl:=(List.getElem?_eq_some_iff.1 hj).1;have hd0:=hV.d0;have hd1:=hV.d1;have hr:=red_bd (n:=at0 v (j:Nat)) hd0;have hgv:=at0_nat (l:=v) (k:=j) (by rw[hV.len];exact hjl);have hnb:=hV.nb _ (List.mem_of_getElem? hgv);rw[hV.fr j kA hj];omega
   have gfe:=flF_get (s:=s) (vf:=vf) (k:=i) hil;have hfll:=flF_len g s vf i;have hfst:=flF_set (g:=g) (s:=s) (vf:=vf) (k:=i);have hsf:=hnt.sf;have gsf:=bAt_get (l:=s.Feeds) (k:=i) (by omega);rw[←hkA]at hff;generalize fdI g i=f at hfi hfb hff hkA hA0;generalize vf kA=vk at gvv hvb hff;have hvd:0≤f.Volts*vk.Den∧f.Volts*vk.Den≤100000000000000000:=⟨Int.mul_nonneg (by omega) (by omega),Int.le_trans (Int.mul_le_mul hfb.2.2.2.1 hvb.2.1 (by omega) (by omega)) (by omega)⟩;have w1:IntKind.i64.wrap (f.Volts*vk.Den)=f.Volts*vk.Den:=wrap_in (by omega) (by omega);have w2:IntKind.i64.wrap (f.Volts*vk.Den-vk.Num)=f.Volts*vk.Den-vk.Num:=wrap_in (by omega) (by omega);generalize hD:f.Volts*vk.Den-vk.Num=D at w2 hff;have hsd:f.Siem*D≤4000000000000000000∧-4000000000000000000≤f.Siem*D:=by
    rcases(by omega:f.Siem=1∨f.Siem=2∨f.Siem=3∨f.Siem=4)with h|h|h|h<;>rw[h]<;>omega
   have w3:IntKind.i64.wrap (f.Siem*D)=f.Siem*D:=wrap_in (by omega) (by omega);have hfr:=c_fraction (f.Siem*D) vk.Den hvb.1 (by omega) (by omega) (by omega);refine gwp_skip ?_;simp only[zT,reduceIte,Nat.reduceEqDiff];refine hK6 _ _ ?_;refine gwp_prune [2,4,5,6,67,68,69] (Or.inr (by simp)) ?_;simp only[zP,Nat.reduceEqDiff,reduceIte];refine gwp_seq_k fun K7 hK7=>?_;refine gwp_block ?_;refine gS fun K hK=>?_;simp -dsimp [hfi];apply hK;clear hK K;refine gS fun K hK=>?_;simp -dsimp [hil,hfll,gfe];apply hK;clear hK K;refine gS fun K hK=>?_;simp -dsimp [←hkA,hkN,gvv,hA0];apply hK;clear hK K;refine gS fun K hK=>?_;simp -dsimp [w1,hD,w2];apply hK;clear hK K;refine gS fun K hK=>?_;simp -dsimp [gsf];apply hK;clear hK K;refine gwp_cond rfl (fun hc3=>?_) (fun hc3=>?_)
   ·refine gwp_draw mixed rfl (by decide) rfl rfl fun K hK=>?_;simp -dsimp [hil,hfll,w3];refine callK_intro _ (hfr) (by simp) ?_;simp -dsimp [hil,hfll,w3];refine hK _ _ _ (by decide+kernel) ?_;clear hK K;simp only[zT,reduceIte,Nat.reduceEqDiff];refine hK7 _ _ ?_;refine gwp_prune [2,4,5,6,67,68,69] (Or.inr (by simp)) ?_;simp only[zP,Nat.reduceEqDiff,reduceIte];refine gR fun K hK=>?_;simp -dsimp [wi];apply hK;clear hK K;simp only[zT,reduceIte,Nat.reduceEqDiff];have hcd:bAt s.Feeds i=true∧0<D:=by simpa using hc3
    rw[if_pos hcd]at hff;rw[hff]at hfst;exact⟨i+1,by omega,by omega,gsub (sub_rb [some 0,some 1,some 2,some 3,some 4,some 5,some 6] rfl (by simp) (by simp[←hfst,List.map_set])) (by simp)⟩
   ·refine gwp_skip ?_;simp only[zT,reduceIte,Nat.reduceEqDiff];refine hK7 _ _ ?_;refine gwp_prune [2,4,5,6,67,68,69] (Or.inr (by simp)) ?_;simp only[zP,Nat.reduceEqDiff,reduceIte];refine gR fun K hK=>?_;simp -dsimp [wi];apply hK;clear hK K;simp only[zT,reduceIte,Nat.reduceEqDiff];have hcd:¬(bAt s.Feeds i=true∧0<D):=by intro h;simp[h.1,h.2]at hc3
    rw[if_neg hcd]at hff;rw[hff]at hfst;exact⟨i+1,by omega,by omega,gsub (sub_rb [some 0,some 1,some 2,some 3,some 4,some 5,some 6] rfl (by simp) (by simp[←hfst,List.map_set])) (by simp)⟩
  ·have hil:¬i<g.Feeds.length:=by simpa using hc2
   have hie:i=g.Feeds.length:=by omega
   have hvN:(vlA N vf).length=N:=by simp[vlA]
   have hfN:(flA g s vf).length=g.Feeds.length:=by simp[flA]
   have htv:List.take N ((vlA N vf).map Fr.cells)=(vlA N vf).map Fr.cells:=List.take_of_length_le (by simp;omega);have htf:List.take g.Feeds.length ((flA g s vf).map Fr.cells)=(flA g s vf).map Fr.cells:=List.take_of_length_le (by simp;omega);rw[hie,flF_all];refine gwp_exit ?_;simp only[zT,reduceIte,Nat.reduceEqDiff];refine hK5 _ _ ?_;refine gwp_prune [4,5,6] (Or.inr (by simp)) ?_;simp only[zP,Nat.reduceEqDiff,reduceIte];refine gS fun K hK=>?_;simp -dsimp;apply hK;clear hK K;exact gwp_ret ⟨[some 4,some 5,some 2,some 3],rfl,by simp,by simp,by simp,by simp[resP,tupOf]⟩
end Go.Cur
end
section
namespace Go.AM
theorem MutCall.pure {P:Program} {f:FuncId} {args:List AV} {res res':AV} {Hn:Hp} (h:MutCall P f args [] [] res [] Hn) (e:frz (hget Hn) 6 res=res'):PureCall P f args res':=by
 subst e;obtain⟨h1,_,h3⟩:=h;refine Or.inl ⟨h1,fun S0 w vs hlow hl hrep=>?_⟩;have hh:Held S0 w (fun _=>none) ([]++[]):=⟨⟨(by intro r r' l l' b h;cases h),(by intro r l b h;cases h),(by intro r l h;cases h),hlow,fun _ _=>trivial⟩,fun r row hr=>by cases r<;>simp[hget]at hr,fun r _=>rfl⟩;have hsx:∀b,Sx S0 (fun _=>none) b→S0 b:=by
  rintro b (h|⟨r,l,h1,_⟩)
  ·exact h
  ·cases h1
 refine(h3 S0 w _ vs hh hl fun i c x hc hx=> .pure _ _ ((hrep i c x hc hx).ext (Nat.le_refl _) fun b _ hn=>⟨rfl,fun k=>hn (hsx b k)⟩)).mono ?_;rintro en w' ⟨v,ρ',rfl,hh',hr,_,hfresh,hx⟩;refine⟨v,rfl,frz_repS hh'.wf (S':=S0) (fun b hn k=>hn (Or.inl k)) (fun r l b row _ hl hb k=>(hh'.wf.own r l b hl hb).2.1 k) 6 res v (fun r _ row hr=>hh'.rows r row hr) hr,hx.mono ?_⟩;rintro b _ ⟨r,l,h1,_⟩
 cases h1
end Go.AM
end
section
namespace Go.Cur
open Go.AM Go.Proofs
def mask0 (P:Part) (m:Nat):Nat:=((List.range (2^m)).find? fun a=>decide (1≤a)&&fitB P m a).getD 0
abbrev ptO (g:Gr) (s:Sta) (us:Kvs) (p:List Nat):Part:=Pt g (onW g.Wires s.Wires) us p (feedL g s (upN p)) (feedL g s (upN p)).length
def pvol (g:Gr) (s:Sta) (us:Kvs) (p:List Nat):List Int×Int×Bool:=
 if feedL g s (upN p)=[]then(zerosL p.length,1,noneU us p)
 else if sumU us p<0 then([],0,false)
 else if sumU us p=0 then
  (p.map fun k=>(ptO g s us p).num0 (p.getD 0 0) k+shiftL ((ptO g s us p).V 0*(ptO g s us p).den0 (p.getD 0 0)-(ptO g s us p).num0 (p.getD 0 0) ((ptO g s us p).p 0)) ((List.range (feedL g s (upN p)).length).map fun b=>(ptO g s us p).V b*(ptO g s us p).den0 (p.getD 0 0)-(ptO g s us p).num0 (p.getD 0 0) ((ptO g s us p).p b)),
   (ptO g s us p).den0 (p.getD 0 0),true)
 else(p.map fun k=>(ptO g s us p).num (bitS (mask0 (ptO g s us p) (feedL g s (upN p)).length)) k,(ptO g s us p).den (bitS (mask0 (ptO g s us p) (feedL g s (upN p)).length)),true)
theorem mask_of (S:Nat→Bool):∀m,∃a,a<2^m∧∀b,b<m→a.testBit b=S b
 |0=>⟨0,by simp,fun b hb=>by omega⟩
 | m+1=>by
  obtain⟨a,h1,h2⟩:=mask_of S m
  cases h:S m with
  |false=>
   refine⟨a,by rw[Nat.pow_succ];omega,fun b hb=>?_⟩
   rcases Nat.lt_succ_iff_lt_or_eq.1 hb with hb|rfl
   ·exact h2 b hb
   ·rw[h];exact Nat.testBit_lt_two_pow h1
  |true=>
   refine⟨a|||2^m,Nat.or_lt_two_pow (by rw[Nat.pow_succ];omega) (Nat.pow_lt_pow_right (by omega) (by omega)),fun b hb=>?_⟩;rw[Nat.testBit_or,Nat.testBit_two_pow]
   rcases Nat.lt_succ_iff_lt_or_eq.1 hb with hb|rfl
   ·rw[h2 b hb,decide_eq_false (by omega),Bool.or_false]
   ·rw[h];simp
theorem fit_iff {P:Part} {m a:Nat} (hfs:P.fs=List.range m) (ha:∃b,b<m∧a.testBit b=true):fitB P m a=true↔Fits_ P (bitS a):=by
 unfold fitB Fits_;rw[hfs,List.all_eq_true];constructor
 ·intro h;refine⟨by obtain⟨b,hb,h⟩:=ha;exact⟨b,List.mem_range.2 hb,h⟩,fun b hb=>?_⟩;have:=h b hb;unfold bitS at this ⊢;constructor
  ·intro e;rw[if_pos e]at this;have:=of_decide_eq_true this;omega
  ·intro e;rw[if_neg (by simp[e])]at this;have:=of_decide_eq_true this;omega
 ·rintro⟨_,h⟩ b hb;have:=h b hb;unfold bitS at this ⊢
  cases e:a.testBit b with
  |true=>have:=this.1 e;simp;omega
  |false=>have:=this.2 e;simp;omega
theorem bit_ex {a m:Nat} (h1:1≤a) (h2:a<2^m):∃b,b<m∧a.testBit b=true:=by
 obtain⟨b,hb⟩:=Nat.exists_testBit_of_ne_zero (x:=a) (by omega);refine⟨b,?_,hb⟩
 rcases Nat.lt_or_ge b m with h|h
 ·exact h
 ·rw[Nat.testBit_lt_two_pow (Nat.lt_of_lt_of_le h2 (Nat.pow_le_pow_right (by omega) h))]at hb
  cases hb
theorem mask0_ok {P:Part} (ho:P.Ok) {m:Nat} (hfs:P.fs=List.range m) (hm:m≠0) (hsum:0<sm P.u P.ns):
  1≤mask0 P m∧mask0 P m<2^m∧fitB P m (mask0 P m)=true∧∀a,1≤a→a<mask0 P m→fitB P m a=false:=by
 obtain⟨S,hS⟩:=exists_fit ho hsum (by rw[hfs];intro e;have:=congrArg List.length e;simp at this;exact hm this);obtain⟨a,ha,hb⟩:=mask_of S m;obtain⟨b0,hb0,hSb⟩:=hS.1;rw[hfs,List.mem_range]at hb0;have hbit:∃b,b<m∧a.testBit b=true:=⟨b0,hb0,by rw[hb b0 hb0,hSb]⟩;have ha1:1≤a:=by
  rcases Nat.eq_zero_or_pos a with h|h
  ·subst h;obtain⟨b,_,h⟩:=hbit;simp at h
  ·exact h
 have hnc:=num_congr (P:=P) (S:=S) (S':=bitS a) fun b hb'=>by rw[hfs,List.mem_range]at hb';exact(hb b hb').symm
 have hfit:fitB P m a=true:=by
  rw[fit_iff hfs hbit];refine⟨⟨b0,by rw[hfs];exact List.mem_range.2 hb0,by show a.testBit b0=true;rw[hb b0 hb0,hSb]⟩,fun b hb'=>?_⟩;have h:=hS.2 b hb';rw[hnc.1,hnc.2]at h;rw[hfs,List.mem_range]at hb';rw[show bitS a b=S b from hb b hb'];exact h
 cases hf:(List.range (2^m)).find? (fun a=>decide (1≤a)&&fitB P m a)with
 |none=>
  rw[List.find?_eq_none]at hf;have:=hf a (List.mem_range.2 ha);simp[ha1,hfit]at this
 |some a0=>
  have e:mask0 P m=a0:=by unfold mask0;rw[hf];rfl
  rw[List.find?_range_eq_some]at hf;rw[e];obtain⟨h1,h2,h3⟩:=hf;simp only[Bool.and_eq_true,decide_eq_true_eq]at h1;refine⟨h1.1,List.mem_range.1 h2,h1.2,fun a h4 h5=>?_⟩;have:=h3 a h5;simpa [h4]using this
def Siz (us:Kvs) (p:List Nat):Prop:=p.length≤5∨(p.length≤10∧∀x,igt us x=0)
section
variable {g:Gr} {s:Sta} {us:Kvs} {p:List Nat}
theorem sumU_zero (h:∀x,igt us x=0):∀p:List Nat,sumU us p=0
 |[]=>rfl
 |x::p=>by
  have:=sumU_zero h p;unfold sumU at this ⊢;rw[sm,this,h];rfl
theorem sumU_pt (g:Gr) (s:Sta) (us:Kvs) (p:List Nat):sm (ptO g s us p).u (ptO g s us p).ns=sumU us p:=rfl
theorem c_pvol (hnt:NetOk g s) (hp:p∈partL g s) (hz:Siz us p) (hI:IntM us) (hus:∀x,-40≤igt us x∧igt us x≤40):
  PureCall Tryz.prog 77 [net g s,iL (upN p), .mpc false [.i .i64] us] (.tup [iL (pvol g s us p).1,I (pvol g s us p).2.1,Bo (pvol g s us p).2.2]):=by
 have h10:p.length≤10:=by rcases hz with h|h<;>omega
 refine c_volts g s p us (feedL g s (upN p)) rfl hnt (partL_ok hnt hp h10) hI hus _ _ _ (p.getD 0 0) rfl ?_ ?_ ?_ ?_
 ·intro h;unfold pvol;rw[if_pos h];exact⟨rfl,rfl,rfl⟩
 ·intro h h1;unfold pvol;rw[if_neg h,if_pos h1];exact⟨rfl,rfl,rfl⟩
 ·intro h h1;refine⟨Pt_small0 hnt hp hz rfl hus _ rfl,?_⟩;unfold pvol;rw[if_neg h,if_neg (by omega),if_pos h1];exact⟨rfl,rfl,rfl⟩
 ·intro h h1;have h5:p.length≤5:=by
   rcases hz with h|⟨_,h⟩
   ·exact h
   ·have:=sumU_zero h p;omega
  refine⟨fun a h2 h3=>Pt_small hnt hp h5 rfl hus _ (bit_ex h2 h3),?_⟩;obtain⟨k1,k2,k3,k4⟩:=mask0_ok (P:=ptO g s us p) (Pt_ok hnt hp rfl) (m:=(feedL g s (upN p)).length) rfl (by intro e;exact h (List.length_eq_zero_iff.1 e)) (by rw[sumU_pt];exact h1);unfold pvol;rw[if_neg h,if_neg (by omega),if_neg (by omega)];exact⟨rfl,_,k1,k2,k3,k4,rfl,rfl⟩
def vfS (g:Gr) (s:Sta) (us:Kvs) (k:Nat):Fr:=red (at0 (pvol g s us (partOf g s k)).1 ((partOf g s k).idxOf k:Nat)) (pvol g s us (partOf g s k)).2.1
theorem pvol_bd (hnt:NetOk g s) (hp:p∈partL g s) (hz:Siz us p) (hI:IntM us) (hus:∀x,-40≤igt us x∧igt us x≤40) (hok:(pvol g s us p).2.2=true):
  (pvol g s us p).1.length=p.length∧0<(pvol g s us p).2.1∧(pvol g s us p).2.1≤100000000000000∧∀x∈(pvol g s us p).1,-300000000000000000≤x∧x≤300000000000000000:=by
 unfold pvol at hok ⊢
 by_cases h:feedL g s (upN p)=[]
 ·rw[if_pos h];refine⟨by simp[zerosL],show(0:Int)<1 by decide,show(1:Int)≤100000000000000 by decide,fun x hx=>?_⟩;have:x=0:=(List.mem_replicate.1 hx).2;omega
 ·rw [if_neg h]at hok ⊢
  by_cases h1:sumU us p<0
  ·rw[if_pos h1]at hok;cases hok
  ·rw [if_neg h1]at hok ⊢
   by_cases h2:sumU us p=0
   ·rw[if_pos h2];obtain⟨z1,z2,z3⟩:Sml0 (ptO g s us p) (p.getD 0 0):=Pt_small0 (us:=us) hnt hp hz rfl hus (p.getD 0 0) rfl;refine⟨by simp,z2,z3,fun x hx=>?_⟩;obtain⟨k,_,rfl⟩:=List.mem_map.1 hx;have key:∀b,b<(feedL g s (upN p)).length→ -200000000000000000≤(ptO g s us p).V b*(ptO g s us p).den0 (p.getD 0 0)-(ptO g s us p).num0 (p.getD 0 0) ((ptO g s us p).p b)∧(ptO g s us p).V b*(ptO g s us p).den0 (p.getD 0 0)-(ptO g s us p).num0 (p.getD 0 0) ((ptO g s us p).p b)≤200000000000000000:=by
     intro b hb;have hf:=feed_at hnt rfl hb;have h3:=z1 ((ptO g s us p).p b);have h4:0≤(ptO g s us p).V b∧(ptO g s us p).V b≤1000:=by
      show 0≤(fdI g _).Volts∧(fdI g _).Volts≤1000;omega
     have h5:=Int.mul_nonneg h4.1 (Int.le_of_lt z2);have h6:=Int.mul_le_mul h4.2 z3 (Int.le_of_lt z2) (by omega);omega
    have hpos:0<(feedL g s (upN p)).length:=List.length_pos_iff.2 h;have h3:=shiftL_bd (B:=200000000000000000) ((List.range (feedL g s (upN p)).length).map fun b=>(ptO g s us p).V b*(ptO g s us p).den0 (p.getD 0 0)-(ptO g s us p).num0 (p.getD 0 0) ((ptO g s us p).p b)) _ (key 0 hpos) fun x hx=>by
     obtain⟨b,hb,rfl⟩:=List.mem_map.1 hx;exact key b (List.mem_range.1 hb)
    have h4:=z1 k;omega
   ·rw[if_neg h2];have h5:p.length≤5:=by
     rcases hz with h|⟨_,h⟩
     ·exact h
     ·have:=sumU_zero h p;omega
    obtain⟨k1,k2,k3,k4⟩:=mask0_ok (P:=ptO g s us p) (Pt_ok hnt hp rfl) (m:=(feedL g s (upN p)).length) rfl (by intro e;exact h (List.length_eq_zero_iff.1 e)) (by rw[sumU_pt];omega);obtain⟨z1,z2,z3⟩:Sml (ptO g s us p) (bitS (mask0 (ptO g s us p) (feedL g s (upN p)).length)):=Pt_small (us:=us) hnt hp h5 rfl hus _ (bit_ex k1 k2);refine⟨by simp,z2,z3,fun x hx=>?_⟩;obtain⟨k,_,rfl⟩:=List.mem_map.1 hx;have:=z1 k;omega
theorem vpart (hnt:NetOk g s) (hp:p∈partL g s) (hz:Siz us p) (hI:IntM us) (hus:∀x,-40≤igt us x∧igt us x≤40) (hok:(pvol g s us p).2.2=true):VPart g s us p (pvol g s us p).1 (pvol g s us p).2.1 (vfS g s us):=by
 obtain⟨b1,b2,b3,b4⟩:=pvol_bd hnt hp hz hI hus hok;have hc:=c_pvol hnt hp hz hI hus;rw[hok]at hc;refine⟨hc,b1,b2,b3,b4,fun i k hk=>?_⟩;have hpe:=partOf_eq hp (List.mem_of_getElem? hk);have hnd:p.Nodup:=by obtain⟨_,_,e⟩:=partL_head hp;rw[e];exact cp_nodup
 have hi:p.idxOf k=i:=by
  obtain⟨hil,e⟩:=List.getElem?_eq_some_iff.1 hk;rw[←e];exact List.Nodup.idxOf_getElem hnd i hil
 unfold vfS;rw[←hpe,hi]
end
def okS (g:Gr) (s:Sta) (us:Kvs):Bool:=(partL g s).all fun p=>(pvol g s us p).2.2
theorem c_solve_p (g:Gr) (s:Sta) (us:Kvs) (hnt:NetOk g s) (h12:Few12 g s) (vf:Nat→Fr) (hv:∀p∈partL g s,∃v d,VPart g s us p v d vf):
  PureCall Tryz.prog 51 [net g s, .mpc false [.i .i64] us] (.tup [.agg [fL (vlA g.Nodes.toNat vf),fL (flA g s vf)],Bo true]):=by
 refine MutCall.pure (m_solve_t g s us hnt h12 vf hv) ?_;have htv:List.take g.Nodes.toNat ((vlA g.Nodes.toNat vf).map Fr.cells)=(vlA g.Nodes.toNat vf).map Fr.cells:=List.take_of_length_le (by simp[vlA]);have htf:List.take g.Feeds.length ((flA g s vf).map Fr.cells)=(flA g s vf).map Fr.cells:=List.take_of_length_le (by simp[flA]);have l1:(vlA g.Nodes.toNat vf).length=g.Nodes.toNat:=by simp[vlA]
 have l2:(flA g s vf).length=g.Feeds.length:=by simp[flA]
 simp[htv,htf,l1,l2]
theorem m_SolveV (g:Gr) (s:Sta) (l:List Ld) (hl:l.length≤1000) (hf:fineB g s l=true) (hlo:longB g s=false) (h12:Few12 g s) (vf:Nat→Fr) (hv:∀p∈partL g s,∃v d,VPart g s (tkK l (allS l)) p v d vf):
  MutCall Tryz.prog 25 [g.av,s.av,lL l] [] [] (.tup [.row 0 0 g.Nodes.toNat, .row 1 0 g.Feeds.length,I 0]) [] [some (.els 2 ((vlA g.Nodes.toNat vf).map Fr.cells)),some (.els 2 ((flA g s vf).map Fr.cells))]:=by
 have hb:=c_begin_t g s l hl hf;have hnt:=fine_net hf;have hlg:=c_long g s hnt h12;rw[hlo]at hlg;have htk:=c_taken_n l hl;have hsv:=m_solve_t g s (tkK l (allS l)) hnt h12 vf hv;generalize vlA g.Nodes.toNat vf=vs at hsv ⊢;generalize flA g s vf=fs at hsv ⊢;generalize tkK l (allS l)=us at htk hsv;refine MutCall.of_bodyG [] Tryz.func25 rfl (by decide) (by simp[Tryz.ntmps25]) rfl rfl ?_;intro J hJ;simp only[Tryz.ntmps25,Tryz.results25];refine gS fun K hK=>?_;simp -dsimp;apply hK;clear hK K;refine gS fun K hK=>?_;simp -dsimp;refine callK_intro _ (hb) (by simp) ?_;simp -dsimp;apply hK;clear hK K;refine gwp_seq_k fun K1 hK1=>?_;refine gwp_block ?_;refine gS fun K hK=>?_;simp -dsimp;apply hK;clear hK K;refine gwp_cond rfl (fun hc0=>?_) (fun hc0=>?_)
 ·simp at hc0
 ·refine gS fun K hK=>?_;simp -dsimp;refine callK_intro _ (hlg) (by simp) ?_;simp -dsimp;apply hK;clear hK K;refine gwp_cond rfl (fun hc1=>?_) (fun hc1=>?_)
  ·simp at hc1
  ·refine gwp_skip ?_;simp only[zT,reduceIte,Nat.reduceEqDiff];refine hK1 _ _ ?_;refine gwp_prune [2,9] (Or.inr (by simp)) ?_;simp only[zP,Nat.reduceEqDiff,reduceIte];refine gS fun K hK=>?_;simp -dsimp;refine callK_intro _ (htk) (by simp) ?_;simp -dsimp;refine callK_mut [] [] [none,none,some 0,some 1,some 2,some 3] (hsv) (by decide) rfl (by simp) (by simp) rfl (by simp) ?_;simp -dsimp;apply hK;clear hK K;refine gwp_seq_k fun K2 hK2=>?_;refine gS fun K hK=>?_;simp -dsimp;apply hK;clear hK K;refine gwp_cond rfl (fun hc2=>?_) (fun hc2=>?_)
   ·simp at hc2
   ·refine gwp_skip ?_;simp only[zT,reduceIte,Nat.reduceEqDiff];refine hK2 _ _ ?_;refine gwp_prune [11] (Or.inr (by simp)) ?_;simp only[zP,Nat.reduceEqDiff,reduceIte];refine gwp_sd mixed rfl (by decide) rfl rfl fun K hK=>?_;simp -dsimp;refine hK _ _ _ (by decide+kernel) ?_;clear hK K;exact gwp_ret ⟨[some 2,some 3],rfl,by simp,by simp,by simp,by simp[resP,tupOf]⟩
theorem c_SolveV (g:Gr) (s:Sta) (l:List Ld) (hl:l.length≤1000) (hf:fineB g s l=true) (hlo:longB g s=false) (h12:Few12 g s) (vf:Nat→Fr) (hv:∀p∈partL g s,∃v d,VPart g s (tkK l (allS l)) p v d vf):
  PureCall Tryz.prog 25 [g.av,s.av,lL l] (.tup [fL (vlA g.Nodes.toNat vf),fL (flA g s vf),I 0]):=by
 refine MutCall.pure (m_SolveV g s l hl hf hlo h12 vf hv) ?_;have htv:List.take g.Nodes.toNat ((vlA g.Nodes.toNat vf).map Fr.cells)=(vlA g.Nodes.toNat vf).map Fr.cells:=List.take_of_length_le (by simp[vlA]);have htf:List.take g.Feeds.length ((flA g s vf).map Fr.cells)=(flA g s vf).map Fr.cells:=List.take_of_length_le (by simp[flA]);have l1:(vlA g.Nodes.toNat vf).length=g.Nodes.toNat:=by simp[vlA]
 have l2:(flA g s vf).length=g.Feeds.length:=by simp[flA]
 simp[htv,htf,l1,l2]
theorem c_solve (g:Gr) (s:Sta) (us:Kvs) (hnt:NetOk g s) (h12:Few12 g s) (hz:∀p∈partL g s,Siz us p) (hI:IntM us) (hus:∀x,-40≤igt us x∧igt us x≤40):
  PureCall Tryz.prog 51 [net g s, .mpc false [.i .i64] us] (if okS g s us=true then .tup [.agg [fL (vlA g.Nodes.toNat (vfS g s us)),fL (flA g s (vfS g s us))],Bo true]else .tup [.agg [.v (.slice none 0 0), .v (.slice none 0 0)],Bo false]):=by
 by_cases h:okS g s us=true
 ·rw[if_pos h];unfold okS at h;rw[List.all_eq_true]at h;exact c_solve_p g s us hnt h12 _ fun p hp=>⟨_,_,vpart hnt hp (hz p hp) hI hus (h p hp)⟩
 ·rw[if_neg h];unfold okS at h;have hlt:(partL g s).findIdx (fun p=> !(pvol g s us p).2.2)<(partL g s).length:=by
   rw[List.findIdx_lt_length];simpa using h
  have hno:=List.findIdx_getElem (w:=hlt);have hg:=List.getElem?_eq_getElem hlt;have hpm:=List.mem_of_getElem? hg;have hc:=c_pvol hnt hpm (hz _ hpm) hI hus;simp only[Bool.not_eq_true']at hno;rw[hno]at hc;exact c_solve_f g s us hnt h12 (vfS g s us) _ _ hg _ _ hc fun t p ht hpt=>⟨_,_,vpart hnt (List.mem_of_getElem? hpt) (hz _ (List.mem_of_getElem? hpt)) hI hus (by
   have:=List.not_of_lt_findIdx ht;have e:=(List.getElem?_eq_some_iff.1 hpt).2;rw[e]at this;simpa using this)⟩
theorem cur_mem (x:Int):∀(l:List (Ld×Bool)) (c:Int),l.foldl (curS x) c=c∨∃p∈l,p.2=true∧p.1.At=x∧l.foldl (curS x) c=p.1.Units
 |[],c=>Or.inl rfl
 | p::l,c=>by
  rw[List.foldl_cons]
  rcases cur_mem x l (curS x c p)with h|⟨q,hq,h1,h2,h3⟩
  ·rw[h];unfold curS
   by_cases hc:p.2=true∧p.1.At=x
   ·rw[if_pos hc];exact Or.inr ⟨p,by simp,hc.1,hc.2,rfl⟩
   ·rw[if_neg hc];exact Or.inl rfl
  ·exact Or.inr ⟨q,by simp[hq],h1,h2,h3⟩
theorem igt_tk (l:List Ld) (sv:List Bool) (x:Int):igt (tkK l sv) x=0∨∃(i:Nat) (y:Ld),l[i]?=some y∧sv[i]?=some true∧y.At=x∧igt (tkK l sv) x=y.Units:=by
 rw[tkK_get];unfold cur
 rcases cur_mem x (l.zip sv) 0 with h|⟨q,hq,h1,h2,h3⟩
 ·exact Or.inl h
 ·obtain⟨i,hi⟩:=List.getElem?_of_mem hq;rw[List.getElem?_zip_eq_some]at hi;exact Or.inr ⟨i,q.1,hi.1,by rw[hi.2,h1],h2,h3⟩
theorem ldTo_bd {g:Gr} {l:List Ld}:∀{k:Nat},ldTo g l k=true→∀(i:Nat) y,i<k→l[i]?=some y→0≤y.At∧y.At<g.Nodes∧-40≤y.Units∧y.Units≤40∧0≤y.Rank∧y.Rank≤100∧∀(j:Nat) z,j<i→l[j]?=some z→z.At≠y.At
 |0,_,i,y,hi,_=>by omega
 |k+1,h,i,y,hi,hy=>by
  simp only[ldTo,Bool.and_eq_true]at h
  rcases Nat.lt_succ_iff_lt_or_eq.1 hi with h1|h1
  ·exact ldTo_bd h.1 i y h1 hy
  ·subst h1;have h2:=h.2;rw[hy]at h2;simp only[ldB,Bool.and_eq_true,inr_iff,Bool.not_eq_true',List.any_eq_false,decide_eq_true_eq]at h2;obtain⟨⟨⟨a,b⟩,c⟩,d⟩:=h2;refine⟨a.1,by omega,b.1,b.2,c.1,c.2,fun j z hj hz=>?_⟩;exact d z (List.mem_of_getElem? (i:=j) (by rw[List.getElem?_take,if_pos hj];exact hz))
structure LdOk (g:Gr) (l:List Ld):Prop where
 at_:∀y∈l,0≤y.At∧y.At<g.Nodes
 un:∀y∈l,-40≤y.Units∧y.Units≤40
 rk:∀y∈l,0≤y.Rank∧y.Rank≤100
 one:∀(i j:Nat) y z,l[i]?=some y→l[j]?=some z→y.At=z.At→i=j
theorem fine_ld {g:Gr} {s:Sta} {l:List Ld} (h:fineB g s l=true):LdOk g l:=by
 simp only[fineB,Bool.and_eq_true]at h;have key:∀y∈l,∃i:Nat,i<l.length∧l[i]?=some y:=fun y hy=>by
  obtain⟨i,hi⟩:=List.getElem?_of_mem hy;exact⟨i,(List.getElem?_eq_some_iff.1 hi).1,hi⟩
 refine⟨fun y hy=>?_,fun y hy=>?_,fun y hy=>?_,fun i j y z hi hj e=>?_⟩
 ·obtain⟨i,h1,h2⟩:=key y hy;have:=ldTo_bd h.2 i y h1 h2;omega
 ·obtain⟨i,h1,h2⟩:=key y hy;have:=ldTo_bd h.2 i y h1 h2;omega
 ·obtain⟨i,h1,h2⟩:=key y hy;have:=ldTo_bd h.2 i y h1 h2;omega
 ·have h1:=(ldTo_bd h.2 i y (List.getElem?_eq_some_iff.1 hi).1 hi).2.2.2.2.2.2;have h2:=(ldTo_bd h.2 j z (List.getElem?_eq_some_iff.1 hj).1 hj).2.2.2.2.2.2
  rcases Nat.lt_trichotomy i j with h3|h3|h3
  ·exact absurd e (h2 i y h3 hi)
  ·exact h3
  ·exact absurd e.symm (h1 j z h3 hj)
theorem tk_bd {g:Gr} {l:List Ld} (h:LdOk g l) (sv:List Bool) (x:Int):-40≤igt (tkK l sv) x∧igt (tkK l sv) x≤40:=by
 rcases igt_tk l sv x with e|⟨i,y,h1,_,_,e⟩
 ·omega
 ·have:=h.un y (List.mem_of_getElem? h1);omega
def solveA (g:Gr) (s:Sta) (l:List Ld):AV:=
 if fineB g s l=true then(if longB g s=true then .tup [.v (.slice none 0 0), .v (.slice none 0 0),I 3]else
  if okS g s (tkK l (allS l))=true then .tup [fL (vlA g.Nodes.toNat (vfS g s (tkK l (allS l)))),fL (flA g s (vfS g s (tkK l (allS l)))),I 0]else .tup [.v (.slice none 0 0), .v (.slice none 0 0),I 4])
 else .tup [.v (.slice none 0 0), .v (.slice none 0 0),I 2]
theorem c_Solve (g:Gr) (s:Sta) (l:List Ld) (hl:l.length≤1000) (h12:fineB g s l=true→Few12 g s) (hz:fineB g s l=true→longB g s=false→∀p∈partL g s,Siz (tkK l (allS l)) p):
  PureCall Tryz.prog 25 [g.av,s.av,lL l] (solveA g s l):=by
 unfold solveA
 cases hf:fineB g s l with
 |false=>exact c_Solve_a g s l hl hf
 | true=>
  rw[if_pos rfl]
  cases hlo:longB g s with
  |true=>exact c_Solve_l g s l hl hf (h12 hf) hlo
  | false=>
   have hc:=c_solve g s (tkK l (allS l)) (fine_net hf) (h12 hf) (hz hf hlo) (tkK_int _ _) (tk_bd (fine_ld hf) _);rw[if_neg (by simp)]
   cases ho:okS g s (tkK l (allS l))with
   |true=>
    unfold okS at ho;rw[List.all_eq_true]at ho;exact c_SolveV g s l hl hf hlo (h12 hf) _ fun p hp=>⟨_,_,vpart (fine_net hf) hp (hz hf hlo p hp) (tkK_int _ _) (tk_bd (fine_ld hf) _) (ho p hp)⟩
   |false=>rw[ho]at hc;exact c_Solve_n g s l hl hf (h12 hf) hlo hc
end Go.Cur
end
section
namespace Go.Mo
open Go.AM Go.Cur Go.Proofs
theorem c_dwithin (x lo hi:Int):PureCall Tryz.prog 69 [I x,I lo,I hi] (Bo (inr x lo hi)):=by
 refine PureCall.of_body Tryz.func69 rfl (by decide) (by simp[Tryz.ntmps69]) ?_;simp only[Tryz.ntmps69,Tryz.results69];refine aS fun K hK=>?_;simp -dsimp;apply hK;clear hK K;refine aS fun K hK=>?_;simp -dsimp;apply hK;clear hK K;exact awp_ret (by simp[inr])
theorem c_dead (l:List Int) (i j:Nat) (x y:Int) (hx:l[i]?=some x) (hy:l[j]?=some y):PureCall Tryz.prog 71 [iL l,I i,I j] (Bo (decide (x<y))):=by
 refine PureCall.of_body Tryz.func71 rfl (by decide) (by simp[Tryz.ntmps71]) ?_;simp only[Tryz.ntmps71,Tryz.results71];refine aS fun K hK=>?_;simp -dsimp;apply hK;clear hK K;refine awp_sd mixed rfl fun K hK=>?_;simp -dsimp [hx,hy];refine hK _ _ _ (by decide+kernel) ?_;clear hK K;exact awp_ret (by simp)
theorem c_way (l:List Int):PureCall Tryz.prog 46 [iL l,Bo false] (.bnd 71 [iL l]):=by
 refine PureCall.of_body Tryz.func46 rfl (by decide) (by simp[Tryz.ntmps46]) ?_;simp only[Tryz.ntmps46,Tryz.results46];refine aS fun K hK=>?_;simp -dsimp;apply hK;clear hK K;refine awp_seq_k fun K1 hK1=>?_;refine aS fun K hK=>?_;simp -dsimp;apply hK;clear hK K;refine awp_cond rfl (fun hc0=>?_) (fun hc0=>?_)
 ·simp at hc0
 ·refine awp_skip ?_;simp only[zT,reduceIte,Nat.reduceEqDiff];refine hK1 _ _ ?_;refine awp_prune [0] ?_;simp only[zP,Nat.reduceEqDiff,reduceIte];refine aS fun K hK=>?_;simp -dsimp;apply hK;clear hK K;exact awp_ret (by simp)
theorem c_perm:PureCall Tryz.prog 45 [iL [2,0,1]] (Bo true):=by
 have w1:IntKind.i64.wrap 1=1:=rfl;have w2:IntKind.i64.wrap 2=2:=rfl;have w3:IntKind.i64.wrap 3=3:=rfl;have f3:Fits 3 2:=fits_of (by omega) (by omega);have h0:=c_dwithin 2 0 2;have h1:=c_dwithin 0 0 2;have h2:=c_dwithin 1 0 2;refine PureCall.of_body Tryz.func45 rfl (by decide) (by simp[Tryz.ntmps45]) ?_;simp only[Tryz.ntmps45,Tryz.results45];refine aS fun K hK=>?_;simp -dsimp;apply hK;clear hK K;refine aS fun K hK=>?_;simp -dsimp [f3];apply hK;clear hK K;refine awp_seq_k fun K1 hK1=>?_;refine aS fun K hK=>?_;simp -dsimp;apply hK;clear hK K;refine awp_block ?_;refine awp_prune [0,3,9,10,11] ?_;simp only[zP,Nat.reduceEqDiff,reduceIte];refine awp_loop_l [0,3,9,10] (α:=Nat) (fun k=>[(11,I k)]) (fun k=>[some (.els 1 [[Bo (decide (1<k))],[Bo (decide (2<k))],[Bo (decide (0<k))]])]) (fun k=>k≤3) (fun k=>3-k) 0 ?_ ?_ ?_
 ·exact Nat.zero_le _
 ·exact sub_rb [some 0] rfl (by simp) (by simp)
 rintro k k1
 rcases(by omega:k=0∨k=1∨k=2∨k=3)with rfl|rfl|rfl|rfl
 ·simp only[zP,Nat.reduceEqDiff,reduceIte];refine aS fun K hK=>?_;simp -dsimp;apply hK;clear hK K;refine awp_seq_k fun K2 hK2=>?_;refine awp_cond rfl (fun hc0=>?_) (fun hc0=>?_)
  ·refine awp_skip ?_;simp only[zT,reduceIte,Nat.reduceEqDiff];refine hK2 _ _ ?_;refine awp_prune [0,3,9,10,11] ?_;simp only[zP,Nat.reduceEqDiff,reduceIte];refine awp_seq_k fun K3 hK3=>?_;refine awp_block ?_;refine aS fun K hK=>?_;simp -dsimp;apply hK;clear hK K;refine awp_seq_k fun K4 hK4=>?_;refine aS fun K hK=>?_;simp -dsimp [w2];refine callK_intro _ (h0) (by simp) ?_;simp -dsimp [w2];apply hK;clear hK K;refine awp_cond rfl (fun hc1=>?_) (fun hc1=>?_)
   ·simp[inr]at hc1
   ·refine awp_skip ?_;simp only[zT,reduceIte,Nat.reduceEqDiff];refine hK4 _ _ ?_;refine awp_prune [0,3,5,9,10,11] ?_;simp only[zP,Nat.reduceEqDiff,reduceIte];refine aR fun K hK=>?_;simp -dsimp;apply hK;clear hK K;simp only[zT,reduceIte,Nat.reduceEqDiff];refine hK3 _ _ ?_;refine awp_prune [0,3,9,10,11] ?_;simp only[zP,Nat.reduceEqDiff,reduceIte];refine aR fun K hK=>?_;simp -dsimp [w1,w2,w3];apply hK;clear hK K;simp only[zT,reduceIte,Nat.reduceEqDiff];exact⟨1,by omega,by omega,sub_rb [some 0] rfl (by simp[w1,w2,w3]) (by simp)⟩
  ·simp at hc0
 ·simp only[zP,Nat.reduceEqDiff,reduceIte];refine aS fun K hK=>?_;simp -dsimp;apply hK;clear hK K;refine awp_seq_k fun K5 hK5=>?_;refine awp_cond rfl (fun hc0=>?_) (fun hc0=>?_)
  ·refine awp_skip ?_;simp only[zT,reduceIte,Nat.reduceEqDiff];refine hK5 _ _ ?_;refine awp_prune [0,3,9,10,11] ?_;simp only[zP,Nat.reduceEqDiff,reduceIte];refine awp_seq_k fun K6 hK6=>?_;refine awp_block ?_;refine aS fun K hK=>?_;simp -dsimp;apply hK;clear hK K;refine awp_seq_k fun K7 hK7=>?_;refine aS fun K hK=>?_;simp -dsimp [w2];refine callK_intro _ (h1) (by simp) ?_;simp -dsimp [w2];apply hK;clear hK K;refine awp_cond rfl (fun hc1=>?_) (fun hc1=>?_)
   ·simp[inr]at hc1
   ·refine awp_skip ?_;simp only[zT,reduceIte,Nat.reduceEqDiff];refine hK7 _ _ ?_;refine awp_prune [0,3,5,9,10,11] ?_;simp only[zP,Nat.reduceEqDiff,reduceIte];refine aR fun K hK=>?_;simp -dsimp;apply hK;clear hK K;simp only[zT,reduceIte,Nat.reduceEqDiff];refine hK6 _ _ ?_;refine awp_prune [0,3,9,10,11] ?_;simp only[zP,Nat.reduceEqDiff,reduceIte];refine aR fun K hK=>?_;simp -dsimp [w1,w2,w3];apply hK;clear hK K;simp only[zT,reduceIte,Nat.reduceEqDiff];exact⟨2,by omega,by omega,sub_rb [some 0] rfl (by simp[w1,w2,w3]) (by simp)⟩
  ·simp at hc0
 ·simp only[zP,Nat.reduceEqDiff,reduceIte];refine aS fun K hK=>?_;simp -dsimp;apply hK;clear hK K;refine awp_seq_k fun K8 hK8=>?_;refine awp_cond rfl (fun hc0=>?_) (fun hc0=>?_)
  ·refine awp_skip ?_;simp only[zT,reduceIte,Nat.reduceEqDiff];refine hK8 _ _ ?_;refine awp_prune [0,3,9,10,11] ?_;simp only[zP,Nat.reduceEqDiff,reduceIte];refine awp_seq_k fun K9 hK9=>?_;refine awp_block ?_;refine aS fun K hK=>?_;simp -dsimp;apply hK;clear hK K;refine awp_seq_k fun K10 hK10=>?_;refine aS fun K hK=>?_;simp -dsimp [w2];refine callK_intro _ (h2) (by simp) ?_;simp -dsimp [w2];apply hK;clear hK K;refine awp_cond rfl (fun hc1=>?_) (fun hc1=>?_)
   ·simp[inr]at hc1
   ·refine awp_skip ?_;simp only[zT,reduceIte,Nat.reduceEqDiff];refine hK10 _ _ ?_;refine awp_prune [0,3,5,9,10,11] ?_;simp only[zP,Nat.reduceEqDiff,reduceIte];refine aR fun K hK=>?_;simp -dsimp;apply hK;clear hK K;simp only[zT,reduceIte,Nat.reduceEqDiff];refine hK9 _ _ ?_;refine awp_prune [0,3,9,10,11] ?_;simp only[zP,Nat.reduceEqDiff,reduceIte];refine aR fun K hK=>?_;simp -dsimp [w1,w2,w3];apply hK;clear hK K;simp only[zT,reduceIte,Nat.reduceEqDiff];exact⟨3,by omega,by omega,sub_rb [some 0] rfl (by simp[w1,w2,w3]) (by simp)⟩
  ·simp at hc0
 ·simp only[zP,Nat.reduceEqDiff,reduceIte];refine aS fun K hK=>?_;simp -dsimp;apply hK;clear hK K;refine awp_seq_k fun K11 hK11=>?_;refine awp_cond rfl (fun hc0=>?_) (fun hc0=>?_)
  ·simp at hc0
  ·refine awp_exit ?_;simp only[zT,reduceIte,Nat.reduceEqDiff];refine hK1 _ _ ?_;refine awp_prune [] ?_;simp only[zP,Nat.reduceEqDiff,reduceIte];refine aS fun K hK=>?_;simp -dsimp;apply hK;clear hK K;exact awp_ret (by simp)
abbrev wayR:Option ARow:=some (.els 1 [[.bnd 71 [iL [2,0,1]]]])
def onR:Nat→Hp
 |0=>[wayR,some (.els 1 []),some (.els 1 [])]
 |1=>[wayR,some (.els 1 [[.full 1 [[I 0]]]]),some (.els 1 [[I 0]])]
 |2=>[wayR,some (.els 1 [[.row 3 0 2]]),some (.els 1 [[I 0],[I 0]]),some (.els 1 [[I 0],[I 1]])]
 |_=>[wayR,some (.els 1 [[.row 3 0 2],[.full 1 [[I 2]]]]),some (.els 1 [[I 0],[I 0],[I 1]]),some (.els 1 [[I 0],[I 1]])]
def onN:Nat→Nat
 |0=>0
 |1=>1
 |2=>1
 |_=>2
@[simp] theorem onR0:onR 0=[wayR,some (.els 1 []),some (.els 1 [])]:=rfl
@[simp] theorem onR1:onR 1=[wayR,some (.els 1 [[.full 1 [[I 0]]]]),some (.els 1 [[I 0]])]:=rfl
@[simp] theorem onR2:onR 2=[wayR,some (.els 1 [[.row 3 0 2]]),some (.els 1 [[I 0],[I 0]]),some (.els 1 [[I 0],[I 1]])]:=rfl
@[simp] theorem onR3:onR 3=[wayR,some (.els 1 [[.row 3 0 2],[.full 1 [[I 2]]]]),some (.els 1 [[I 0],[I 0],[I 1]]),some (.els 1 [[I 0],[I 1]])]:=rfl
@[simp] theorem onN0:onN 0=0:=rfl
@[simp] theorem onN1:onN 1=1:=rfl
@[simp] theorem onN2:onN 2=1:=rfl
@[simp] theorem onN3:onN 3=2:=rfl
@[simp] def lgR (a b c:Int):Hp:=[wayR,some (.els 1 [[.row 3 0 2],[.full 1 [[I 2]]]]),some (.els 1 [[I 0],[I 0],[I 1]]),some (.els 1 [[I 0],[I 1]]),some (.els 1 [[I a],[I b],[I c]])]
def lgK:Nat→Hp
 |0=>lgR 0 0 0
 |1=>lgR 0 0 1
 |2=>lgR 0 2 1
 |_=>lgR 1 2 1
@[simp] theorem lgK0:lgK 0=lgR 0 0 0:=rfl
@[simp] theorem lgK1:lgK 1=lgR 0 0 1:=rfl
@[simp] theorem lgK2:lgK 2=lgR 0 2 1:=rfl
@[simp] theorem lgK3:lgK 3=lgR 1 2 1:=rfl
def lgJ:Nat→Hp
 |3=>lgR 0 1 1
 |_=>lgR 0 0 1
@[simp] theorem lgJ2:lgJ 2=lgR 0 0 1:=rfl
@[simp] theorem lgJ3:lgJ 3=lgR 0 1 1:=rfl
def prR:Nat→Hp
 |0=>lgR 1 2 1++[some (.els 1 [])]
 |1=>lgR 1 2 1++[some (.els 1 [])]
 |2=>lgR 1 2 1++[some (.els 1 [[I 1]])]
 |_=>lgR 1 2 1++[some (.els 1 [[I 1],[I 2]])]
@[simp] theorem prR0:prR 0=lgR 1 2 1++[some (.els 1 [])]:=rfl
@[simp] theorem prR1:prR 1=lgR 1 2 1++[some (.els 1 [])]:=rfl
@[simp] theorem prR2:prR 2=lgR 1 2 1++[some (.els 1 [[I 1]])]:=rfl
@[simp] theorem prR3:prR 3=lgR 1 2 1++[some (.els 1 [[I 1],[I 2]])]:=rfl
theorem c_Assign1 (l:List Int) (i j:Nat) (x y:Int) (hx:l[i]?=some x) (hy:l[j]?=some y):PureCall Tryz.prog 48 [I i, .iptr [.bnd 71 [iL l]], .iptr [I j]] (Bo (decide (x<y))):=by
 have h:=c_dead l i j x y hx hy;refine PureCall.of_body Tryz.func48 rfl (by decide) (by simp[Tryz.ntmps48]) ?_;simp only[Tryz.ntmps48,Tryz.results48];refine aS fun K hK=>?_;simp -dsimp;apply hK;clear hK K;refine aS fun K hK=>?_;simp -dsimp;refine callK_intro _ (h) (by simp) ?_;simp -dsimp;apply hK;clear hK K;exact awp_ret (by simp)
theorem c_held (ks:List Nat) (j:Nat) (b:Bool) (h:∀k∈ks,∃x y:Int,([2,0,1]:List Int)[k]?=some x∧([2,0,1]:List Int)[j]?=some y) (hb:(ks.any fun k=>decide (([2,0,1]:List Int).getD k 0<([2,0,1]:List Int).getD j 0))=b) (hn:ks.length≤100000):
  PureCall Tryz.prog 47 [.lst 1 (ks.map fun(k:Nat)=>[I k]), .clo 48 [.iptr [.bnd 71 [iL [2,0,1]]], .iptr [I j]]] (Bo b):=by
 have hc:=c_Cont_i (ks.map fun(k:Nat)=>(k:Int)) 48 [[.bnd 71 [iL [2,0,1]]],[I j]] (fun x=>decide (([2,0,1]:List Int).getD x.toNat 0<([2,0,1]:List Int).getD j 0)) (fun x hx=>by
  obtain⟨k,hk,rfl⟩:=List.mem_map.1 hx;obtain⟨x,y,h1,h2⟩:=h k hk;have:=c_Assign1 [2,0,1] k j x y h1 h2;simp only[List.getD_eq_getElem?_getD,Int.toNat_natCast,h1,h2,Option.getD_some];exact this) (by simpa using hn)
 have e:((ks.map fun(k:Nat)=>(k:Int)).any fun x=>decide (([2,0,1]:List Int).getD x.toNat 0<([2,0,1]:List Int).getD j 0))=b:=by
  rw[←hb,List.any_map];simp only[Function.comp_def,Int.toNat_natCast]
 rw[e]at hc;simp only[iL,List.map_map,ipts]at hc;exact hc
theorem c_Assign:PureCall Tryz.prog 24 [iL [2,0,1],Bo false] (.tup [iL [0,0,1],iL [1,2],I 0]):=by
 have w0:IntKind.i64.wrap 0=0:=rfl;have w1:IntKind.i64.wrap 1=1:=rfl;have w2:IntKind.i64.wrap 2=2:=rfl;have w3:IntKind.i64.wrap 3=3:=rfl;have f1:Fits 1 24:=fits_of (by omega) (by omega);have f2:Fits 2 24:=fits_of (by omega) (by omega);have f3:Fits 3 24:=fits_of (by omega) (by omega);have g1:Fits 1 25:=fits_of (by omega) (by omega);have g2:Fits 2 25:=fits_of (by omega) (by omega);have f4:Fits 1 9:=fits_of (by omega) (by omega);have f5:Fits 2 9:=fits_of (by omega) (by omega);have f6:Fits 3 9:=fits_of (by omega) (by omega);have hp:=c_perm;have hw:=c_way [2,0,1];have hh1:=c_held [0] 1 false (by simp) (by decide) (by simp);have hh1:=hh1.wk (args:=[.full 1 [[I 0]], .clo 48 [.iptr [.bnd 71 [iL [2,0,1]]], .iptr [I 1]]]) (by rfl);have hh2:=c_held [0,1] 2 true (by simp) (by decide) (by simp);have d01:PureCall Tryz.prog 71 [iL [2,0,1],I 0,I 1] (Bo false):=c_dead [2,0,1] 0 1 2 0 rfl rfl;have d02:PureCall Tryz.prog 71 [iL [2,0,1],I 0,I 2] (Bo false):=c_dead [2,0,1] 0 2 2 1 rfl rfl;have d12:PureCall Tryz.prog 71 [iL [2,0,1],I 1,I 2] (Bo true):=c_dead [2,0,1] 1 2 0 1 rfl rfl;have wm:IntKind.i64.wrap (-1)=-1:=rfl;refine PureCall.of_body Tryz.func24 rfl (by decide) (by simp[Tryz.ntmps24]) ?_;simp only[Tryz.ntmps24,Tryz.results24];refine aS fun K hK=>?_;simp -dsimp;apply hK;clear hK K;refine awp_scope ?_;refine awp_seq_k fun K1 hK1=>?_;refine aS fun K hK=>?_;simp -dsimp;refine callK_may _ (fun hm=>hp) (by simp) ?_;simp -dsimp;apply hK;clear hK K;refine awp_cond rfl (fun hc0=>?_) (fun hc0=>?_)
 ·simp at hc0
 ·refine awp_skip ?_;simp only[zT,reduceIte,Nat.reduceEqDiff];refine hK1 _ _ ?_;refine awp_prune [0,1] ?_;simp only[zP,Nat.reduceEqDiff,reduceIte];refine aS fun K hK=>?_;simp -dsimp;refine callK_intro _ (hw) (by simp) ?_;simp -dsimp;apply hK;clear hK K;refine aS fun K hK=>?_;simp -dsimp;apply hK;clear hK K;refine aS fun K hK=>?_;simp -dsimp;apply hK;clear hK K;refine awp_sl ?_;refine awp_seq_k fun K2 hK2=>?_;refine aS fun K hK=>?_;simp -dsimp;apply hK;clear hK K;refine awp_block ?_;refine awp_prune [0,7,8,9,31,32] ?_;simp only[zP,Nat.reduceEqDiff,reduceIte];refine awp_loop_l [0,7,31] (α:=Nat) (fun k=>[(8, .row 1 0 (onN k)),(9, .row 2 0 k),(32,I k)]) onR (fun k=>k≤3) (fun k=>3-k) 0 ?_ ?_ ?_
  ·exact Nat.zero_le _
  ·exact((sub_nil 8 1 (by simp)).trans (sub_nil 9 1 (by simp))).trans (sub_same (by simp))
  rintro k k1
  rcases(by omega:k=0∨k=1∨k=2∨k=3)with rfl|rfl|rfl|rfl
  ·simp only[zP,Nat.reduceEqDiff,reduceIte];refine aS fun K hK=>?_;simp -dsimp;apply hK;clear hK K;refine awp_seq_k fun K3 hK3=>?_;refine awp_cond rfl (fun hc1=>?_) (fun hc1=>?_)
   ·refine awp_skip ?_;simp only[zT,reduceIte,Nat.reduceEqDiff];refine hK3 _ _ ?_;refine awp_prune [0,7,8,9,31,32] ?_;simp only[zP,Nat.reduceEqDiff,reduceIte];refine awp_seq_k fun K4 hK4=>?_;refine awp_block ?_;refine aS fun K hK=>?_;simp -dsimp;apply hK;clear hK K;refine awp_seq_k fun K5 hK5=>?_;refine aS fun K hK=>?_;simp -dsimp;apply hK;clear hK K;refine awp_block ?_;refine awp_prune [0,7,8,9,10,31,32,35,36,37] ?_;simp only[zP,Nat.reduceEqDiff,reduceIte];refine awp_loop_l [0,7,8,10,31,32,35,36] (α:=Nat) (fun t=>[(37,I t),(9, .row 2 0 0)]) (fun _=>[wayR,some (.els 1 []),some (.els 1 []),some (.els 1 [[I 0]])]) (fun t=>t≤0) (fun t=>0-t) 0 ?_ ?_ ?_
    ·exact Nat.zero_le _
    ·exact sub_same (by simp)
    rintro t t1;obtain rfl:t=0:=by omega
    simp only[zP,Nat.reduceEqDiff,reduceIte];refine aS fun K hK=>?_;simp -dsimp;apply hK;clear hK K;refine awp_seq_k fun K6 hK6=>?_;refine awp_cond rfl (fun hc2=>?_) (fun hc2=>?_)
    ·simp at hc2
    ·refine awp_exit ?_;simp only[zT,reduceIte,Nat.reduceEqDiff];refine hK5 _ _ ?_;refine awp_prune [0,7,8,9,10,31,32] ?_;simp only[zP,Nat.reduceEqDiff,reduceIte];refine aS fun K hK=>?_;simp -dsimp [f1,f2,f3,f4,f5,f6];apply hK;clear hK K;refine aR fun K hK=>?_;simp -dsimp [g1,g2];apply hK;clear hK K;simp only[zT,reduceIte,Nat.reduceEqDiff];refine hK4 _ _ ?_;refine awp_prune [0,7,8,9,31,32] ?_;simp only[zP,Nat.reduceEqDiff,reduceIte];refine aR fun K hK=>?_;simp -dsimp [w1,w2,w3];apply hK;clear hK K;simp only[zT,reduceIte,Nat.reduceEqDiff];exact⟨1,by omega,by omega,sub_rb [some 0,some 5,some 4] rfl (by simp[w1]) (by simp)⟩
   ·simp at hc1
  ·simp only[zP,Nat.reduceEqDiff,reduceIte];refine aS fun K hK=>?_;simp -dsimp;apply hK;clear hK K;refine awp_seq_k fun K7 hK7=>?_;refine awp_cond rfl (fun hc1=>?_) (fun hc1=>?_)
   ·refine awp_skip ?_;simp only[zT,reduceIte,Nat.reduceEqDiff];refine hK7 _ _ ?_;refine awp_prune [0,7,8,9,31,32] ?_;simp only[zP,Nat.reduceEqDiff,reduceIte];refine awp_seq_k fun K8 hK8=>?_;refine awp_block ?_;refine aS fun K hK=>?_;simp -dsimp;apply hK;clear hK K;refine awp_seq_k fun K9 hK9=>?_;refine aS fun K hK=>?_;simp -dsimp;apply hK;clear hK K;refine awp_block ?_;refine awp_prune [0,7,8,9,10,31,32,35,36,37] ?_;simp only[zP,Nat.reduceEqDiff,reduceIte];refine awp_loop_l [0,7,8,10,31,32,35,36] (α:=Nat) (fun t=>[(37,I t),(9, .row 2 0 1)]) (fun _=>[wayR,some (.els 1 [[.full 1 [[I 0]]]]),some (.els 1 [[I 0]]),some (.els 1 [[I 1]])]) (fun t=>t≤0) (fun t=>0-t) 0 ?_ ?_ ?_
    ·exact Nat.zero_le _
    ·exact sub_same (by simp)
    rintro t t1;obtain rfl:t=0:=by omega
    simp only[zP,Nat.reduceEqDiff,reduceIte];refine aS fun K hK=>?_;simp -dsimp;apply hK;clear hK K;refine awp_seq_k fun K10 hK10=>?_;refine awp_cond rfl (fun hc2=>?_) (fun hc2=>?_)
    ·refine awp_skip ?_;simp only[zT,reduceIte,Nat.reduceEqDiff];refine hK10 _ _ ?_;refine awp_prune [0,7,8,9,10,31,32,35,36,37] ?_;simp only[zP,Nat.reduceEqDiff,reduceIte];refine awp_seq_k fun K11 hK11=>?_;refine awp_block ?_;refine aS fun K hK=>?_;simp -dsimp;apply hK;clear hK K;refine aS fun K hK=>?_;simp -dsimp;refine callK_intro _ (hh1) (by simp) ?_;simp -dsimp;apply hK;clear hK K;refine awp_cond rfl (fun hc3=>?_) (fun hc3=>?_)
     ·refine aS fun K hK=>?_;simp -dsimp [f1,f2,f5];apply hK;clear hK K;refine aS fun K hK=>?_;simp -dsimp [f1,f2,f3,f4,f5,f6];apply hK;clear hK K;refine awp_exit ?_;simp only[zT,reduceIte,Nat.reduceEqDiff];refine hK8 _ _ ?_;refine awp_prune [0,7,8,9,31,32] ?_;simp only[zP,Nat.reduceEqDiff,reduceIte];refine aR fun K hK=>?_;simp -dsimp [w1,w2,w3];apply hK;clear hK K;simp only[zT,reduceIte,Nat.reduceEqDiff];exact⟨2,by omega,by omega,sub_rb [some 0,some 1,some 5,some 4] rfl (by simp[w1]) (by simp)⟩
     ·simp at hc3
    ·simp at hc2
   ·simp at hc1
  ·simp only[zP,Nat.reduceEqDiff,reduceIte];refine aS fun K hK=>?_;simp -dsimp;apply hK;clear hK K;refine awp_seq_k fun K12 hK12=>?_;refine awp_cond rfl (fun hc1=>?_) (fun hc1=>?_)
   ·refine awp_skip ?_;simp only[zT,reduceIte,Nat.reduceEqDiff];refine hK12 _ _ ?_;refine awp_prune [0,7,8,9,31,32] ?_;simp only[zP,Nat.reduceEqDiff,reduceIte];refine awp_seq_k fun K13 hK13=>?_;refine awp_block ?_;refine aS fun K hK=>?_;simp -dsimp;apply hK;clear hK K;refine awp_seq_k fun K14 hK14=>?_;refine aS fun K hK=>?_;simp -dsimp;apply hK;clear hK K;refine awp_block ?_;refine awp_prune [0,7,8,9,10,31,32,35,36,37] ?_;simp only[zP,Nat.reduceEqDiff,reduceIte];refine awp_loop_l [0,7,8,10,31,32,35,36] (α:=Nat) (fun t=>[(37,I t),(9, .row 2 0 2)]) (fun _=>[wayR,some (.els 1 [[.row 3 0 2]]),some (.els 1 [[I 0],[I 0]]),some (.els 1 [[I 0],[I 1]]),some (.els 1 [[I 2]])]) (fun t=>t≤1) (fun t=>1-t) 0 ?_ ?_ ?_
    ·exact Nat.zero_le _
    ·exact sub_same (by simp)
    rintro t t1
    rcases(by omega:t=0∨t=1)with rfl|rfl
    ·simp only[zP,Nat.reduceEqDiff,reduceIte];refine aS fun K hK=>?_;simp -dsimp;apply hK;clear hK K;refine awp_seq_k fun K15 hK15=>?_;refine awp_cond rfl (fun hc2=>?_) (fun hc2=>?_)
     ·refine awp_skip ?_;simp only[zT,reduceIte,Nat.reduceEqDiff];refine hK15 _ _ ?_;refine awp_prune [0,7,8,9,10,31,32,35,36,37] ?_;simp only[zP,Nat.reduceEqDiff,reduceIte];refine awp_seq_k fun K16 hK16=>?_;refine awp_block ?_;refine aS fun K hK=>?_;simp -dsimp;apply hK;clear hK K;refine aS fun K hK=>?_;simp -dsimp;refine callK_intro _ (hh2) (by simp) ?_;simp -dsimp;apply hK;clear hK K;refine awp_cond rfl (fun hc3=>?_) (fun hc3=>?_)
      ·simp at hc3
      ·refine awp_skip ?_;simp only[zT,reduceIte,Nat.reduceEqDiff];refine hK16 _ _ ?_;refine awp_prune [0,7,8,9,10,31,32,35,36,37] ?_;simp only[zP,Nat.reduceEqDiff,reduceIte];refine aR fun K hK=>?_;simp -dsimp [w1];apply hK;clear hK K;simp only[zT,reduceIte,Nat.reduceEqDiff];exact⟨1,by omega,by omega,sub_same (by simp)⟩
     ·simp at hc2
    ·simp only[zP,Nat.reduceEqDiff,reduceIte];refine aS fun K hK=>?_;simp -dsimp;apply hK;clear hK K;refine awp_seq_k fun K17 hK17=>?_;refine awp_cond rfl (fun hc2=>?_) (fun hc2=>?_)
     ·simp at hc2
     ·refine awp_exit ?_;simp only[zT,reduceIte,Nat.reduceEqDiff];refine hK14 _ _ ?_;refine awp_prune [0,7,8,9,10,31,32] ?_;simp only[zP,Nat.reduceEqDiff,reduceIte];refine aS fun K hK=>?_;simp -dsimp [f1,f2,f3,f4,f5,f6];apply hK;clear hK K;refine aR fun K hK=>?_;simp -dsimp [g1,g2];apply hK;clear hK K;simp only[zT,reduceIte,Nat.reduceEqDiff];refine hK13 _ _ ?_;refine awp_prune [0,7,8,9,31,32] ?_;simp only[zP,Nat.reduceEqDiff,reduceIte];refine aR fun K hK=>?_;simp -dsimp [w1,w2,w3];apply hK;clear hK K;simp only[zT,reduceIte,Nat.reduceEqDiff];exact⟨3,by omega,by omega,sub_rb [some 0,some 6,some 5,some 3] rfl (by simp[w1]) (by simp)⟩
   ·simp at hc1
  ·simp only[zP,Nat.reduceEqDiff,reduceIte];refine aS fun K hK=>?_;simp -dsimp;apply hK;clear hK K;refine awp_seq_k fun K18 hK18=>?_;refine awp_cond rfl (fun hc1=>?_) (fun hc1=>?_)
   ·simp at hc1
   ·refine awp_exit ?_;simp only[zT,reduceIte,Nat.reduceEqDiff];refine hK2 _ _ ?_;refine awp_prune [0,7,8,9] ?_;simp only[zP,Nat.reduceEqDiff,reduceIte];refine aS fun K hK=>?_;simp -dsimp [f6];apply hK;clear hK K;refine awp_seq_k fun K19 hK19=>?_;refine aS fun K hK=>?_;simp -dsimp;apply hK;clear hK K;refine awp_block ?_;refine awp_prune [0,7,8,9,13,14] ?_;simp only[zP,Nat.reduceEqDiff,reduceIte];refine awp_loop_l [0,7,8,9,13] (α:=Nat) (fun k=>[(14,I (2-(k:Int)))]) lgK (fun k=>k≤3) (fun k=>3-k) 0 ?_ ?_ ?_
    ·exact Nat.zero_le _
    ·exact sub_same (by simp[w2,lgR])
    rintro k k1
    rcases(by omega:k=0∨k=1∨k=2∨k=3)with rfl|rfl|rfl|rfl
    all_goals simp only[lgK0,lgK1,lgK2,lgK3,lgR]
    ·simp only[zP,Nat.reduceEqDiff,reduceIte];refine awp_seq_k fun K20 hK20=>?_;refine aS fun K hK=>?_;simp -dsimp;apply hK;clear hK K;refine awp_cond rfl (fun hc4=>?_) (fun hc4=>?_)
     ·refine awp_skip ?_;simp only[zT,reduceIte,Nat.reduceEqDiff];refine hK20 _ _ ?_;refine awp_prune [0,7,8,9,13,14] ?_;simp only[zP,Nat.reduceEqDiff,reduceIte];refine awp_seq_k fun K21 hK21=>?_;refine awp_block ?_;refine awp_seq_k fun K22 hK22=>?_;refine aS fun K hK=>?_;simp -dsimp [w1,w2,w3];apply hK;clear hK K;refine awp_block ?_;refine awp_prune [0,7,8,9,13,14,15] ?_;simp only[zP,Nat.reduceEqDiff,reduceIte];refine awp_loop_l [0,7,8,9,13,14] (α:=Nat) (fun t=>[(15,I t)]) (fun _=>lgR 0 0 0) (fun t=>t=3) (fun t=>3-t) 3 ?_ ?_ ?_
      ·simp
      ·exact sub_same (by simp[w1,w2,w3,lgR])
      rintro t rfl;simp only[zP,Nat.reduceEqDiff,reduceIte];refine awp_seq_k fun K23 hK23=>?_;refine aS fun K hK=>?_;simp -dsimp;apply hK;clear hK K;refine awp_cond rfl (fun hc5=>?_) (fun hc5=>?_)
      ·simp at hc5
      ·refine awp_exit ?_;simp only[zT,reduceIte,Nat.reduceEqDiff];refine hK22 _ _ ?_;refine awp_prune [0,7,8,9,13,14] ?_;simp only[zP,Nat.reduceEqDiff,reduceIte];refine aR fun K hK=>?_;simp -dsimp [w1,w2];apply hK;clear hK K;simp only[zT,reduceIte,Nat.reduceEqDiff];refine hK21 _ _ ?_;refine awp_prune [0,7,8,9,13,14] ?_;simp only[zP,Nat.reduceEqDiff,reduceIte];refine aR fun K hK=>?_;simp -dsimp [w1,w2,w0,wm];apply hK;clear hK K;simp only[zT,reduceIte,Nat.reduceEqDiff];exact⟨1,by omega,by omega,sub_same (by simp[lgR])⟩
     ·simp at hc4
    ·simp only[zP,Nat.reduceEqDiff,reduceIte];refine awp_seq_k fun K24 hK24=>?_;refine aS fun K hK=>?_;simp -dsimp;apply hK;clear hK K;refine awp_cond rfl (fun hc4=>?_) (fun hc4=>?_)
     ·refine awp_skip ?_;simp only[zT,reduceIte,Nat.reduceEqDiff];refine hK24 _ _ ?_;refine awp_prune [0,7,8,9,13,14] ?_;simp only[zP,Nat.reduceEqDiff,reduceIte];refine awp_seq_k fun K25 hK25=>?_;refine awp_block ?_;refine awp_seq_k fun K26 hK26=>?_;refine aS fun K hK=>?_;simp -dsimp [w1,w2,w3];apply hK;clear hK K;refine awp_block ?_;refine awp_prune [0,7,8,9,13,14,15] ?_;simp only[zP,Nat.reduceEqDiff,reduceIte];refine awp_loop_l [0,7,8,9,13,14] (α:=Nat) (fun t=>[(15,I t)]) lgJ (fun t=>t=2∨t=3) (fun t=>3-t) 2 ?_ ?_ ?_
      ·simp
      ·exact sub_same (by simp[w1,w2,w3,lgR])
      rintro t (rfl|rfl)
      ·simp only[zP,Nat.reduceEqDiff,reduceIte];refine awp_seq_k fun K27 hK27=>?_;refine aS fun K hK=>?_;simp -dsimp;apply hK;clear hK K;refine awp_cond rfl (fun hc5=>?_) (fun hc5=>?_)
       ·refine awp_skip ?_;simp only[zT,reduceIte,Nat.reduceEqDiff];refine hK27 _ _ ?_;refine awp_prune [0,7,8,9,13,14,15] ?_;simp only[zP,Nat.reduceEqDiff,reduceIte];refine awp_seq_k fun K28 hK28=>?_;refine awp_block ?_;refine aS fun K hK=>?_;simp -dsimp;refine callK_intro _ (d12) (by simp) ?_;simp -dsimp;apply hK;clear hK K;refine awp_cond rfl (fun hc6=>?_) (fun hc6=>?_)
        ·refine awp_draw mixed rfl fun K hK=>?_;simp -dsimp;refine hK _ _ _ (by decide+kernel) ?_;clear hK K;simp only[zT,reduceIte,Nat.reduceEqDiff];refine hK28 _ _ ?_;refine awp_prune [0,7,8,9,13,14,15] ?_;simp only[zP,Nat.reduceEqDiff,reduceIte];refine aR fun K hK=>?_;simp -dsimp [w2,w3];apply hK;clear hK K;simp only[zT,reduceIte,Nat.reduceEqDiff];exact⟨3,by simp,by omega,sub_same (by simp[lgR])⟩
        ·simp at hc6
       ·simp at hc5
      ·simp only[zP,Nat.reduceEqDiff,reduceIte];refine awp_seq_k fun K29 hK29=>?_;refine aS fun K hK=>?_;simp -dsimp;apply hK;clear hK K;refine awp_cond rfl (fun hc5=>?_) (fun hc5=>?_)
       ·simp at hc5
       ·refine awp_exit ?_;simp only[zT,reduceIte,Nat.reduceEqDiff];refine hK26 _ _ ?_;refine awp_prune [0,7,8,9,13,14] ?_;simp only[zP,Nat.reduceEqDiff,reduceIte];refine aR fun K hK=>?_;simp -dsimp [w1,w2];apply hK;clear hK K;simp only[zT,reduceIte,Nat.reduceEqDiff];refine hK25 _ _ ?_;refine awp_prune [0,7,8,9,13,14] ?_;simp only[zP,Nat.reduceEqDiff,reduceIte];refine aR fun K hK=>?_;simp -dsimp [w1,w2,w0,wm];apply hK;clear hK K;simp only[zT,reduceIte,Nat.reduceEqDiff];exact⟨2,by omega,by omega,sub_same (by simp[lgR])⟩
     ·simp at hc4
    ·simp only[zP,Nat.reduceEqDiff,reduceIte];refine awp_seq_k fun K30 hK30=>?_;refine aS fun K hK=>?_;simp -dsimp;apply hK;clear hK K;refine awp_cond rfl (fun hc4=>?_) (fun hc4=>?_)
     ·refine awp_skip ?_;simp only[zT,reduceIte,Nat.reduceEqDiff];refine hK30 _ _ ?_;refine awp_prune [0,7,8,9,13,14] ?_;simp only[zP,Nat.reduceEqDiff,reduceIte];refine awp_seq_k fun K31 hK31=>?_;refine awp_block ?_;refine awp_seq_k fun K32 hK32=>?_;refine aS fun K hK=>?_;simp -dsimp [w1,w2,w3];apply hK;clear hK K;refine awp_block ?_;refine awp_prune [0,7,8,9,13,14,15] ?_;simp only[zP,Nat.reduceEqDiff,reduceIte];refine awp_loop_l [0,7,8,9,13,14] (α:=Nat) (fun t=>[(15,I t)]) (fun _=>lgR 0 2 1) (fun t=>t=1∨t=2∨t=3) (fun t=>3-t) 1 ?_ ?_ ?_
      ·simp
      ·exact sub_same (by simp[w1,w2,w3,lgR])
      rintro t (rfl|rfl|rfl)
      ·simp only[zP,Nat.reduceEqDiff,reduceIte];refine awp_seq_k fun K33 hK33=>?_;refine aS fun K hK=>?_;simp -dsimp;apply hK;clear hK K;refine awp_cond rfl (fun hc5=>?_) (fun hc5=>?_)
       ·refine awp_skip ?_;simp only[zT,reduceIte,Nat.reduceEqDiff];refine hK33 _ _ ?_;refine awp_prune [0,7,8,9,13,14,15] ?_;simp only[zP,Nat.reduceEqDiff,reduceIte];refine awp_seq_k fun K34 hK34=>?_;refine awp_block ?_;refine aS fun K hK=>?_;simp -dsimp;refine callK_intro _ (d01) (by simp) ?_;simp -dsimp;apply hK;clear hK K;refine awp_cond rfl (fun hc6=>?_) (fun hc6=>?_)
        ·simp at hc6
        ·refine awp_skip ?_;simp only[zT,reduceIte,Nat.reduceEqDiff];refine hK34 _ _ ?_;refine awp_prune [0,7,8,9,13,14,15] ?_;simp only[zP,Nat.reduceEqDiff,reduceIte];refine aR fun K hK=>?_;simp -dsimp [w2,w3];apply hK;clear hK K;simp only[zT,reduceIte,Nat.reduceEqDiff];exact⟨2,by simp,by omega,sub_same (by simp[lgR])⟩
       ·simp at hc5
      ·simp only[zP,Nat.reduceEqDiff,reduceIte];refine awp_seq_k fun K35 hK35=>?_;refine aS fun K hK=>?_;simp -dsimp;apply hK;clear hK K;refine awp_cond rfl (fun hc5=>?_) (fun hc5=>?_)
       ·refine awp_skip ?_;simp only[zT,reduceIte,Nat.reduceEqDiff];refine hK35 _ _ ?_;refine awp_prune [0,7,8,9,13,14,15] ?_;simp only[zP,Nat.reduceEqDiff,reduceIte];refine awp_seq_k fun K36 hK36=>?_;refine awp_block ?_;refine aS fun K hK=>?_;simp -dsimp;refine callK_intro _ (d02) (by simp) ?_;simp -dsimp;apply hK;clear hK K;refine awp_cond rfl (fun hc6=>?_) (fun hc6=>?_)
        ·simp at hc6
        ·refine awp_skip ?_;simp only[zT,reduceIte,Nat.reduceEqDiff];refine hK36 _ _ ?_;refine awp_prune [0,7,8,9,13,14,15] ?_;simp only[zP,Nat.reduceEqDiff,reduceIte];refine aR fun K hK=>?_;simp -dsimp [w2,w3];apply hK;clear hK K;simp only[zT,reduceIte,Nat.reduceEqDiff];exact⟨3,by simp,by omega,sub_same (by simp[lgR])⟩
       ·simp at hc5
      ·simp only[zP,Nat.reduceEqDiff,reduceIte];refine awp_seq_k fun K37 hK37=>?_;refine aS fun K hK=>?_;simp -dsimp;apply hK;clear hK K;refine awp_cond rfl (fun hc5=>?_) (fun hc5=>?_)
       ·simp at hc5
       ·refine awp_exit ?_;simp only[zT,reduceIte,Nat.reduceEqDiff];refine hK32 _ _ ?_;refine awp_prune [0,7,8,9,13,14] ?_;simp only[zP,Nat.reduceEqDiff,reduceIte];refine aR fun K hK=>?_;simp -dsimp [w1,w2];apply hK;clear hK K;simp only[zT,reduceIte,Nat.reduceEqDiff];refine hK31 _ _ ?_;refine awp_prune [0,7,8,9,13,14] ?_;simp only[zP,Nat.reduceEqDiff,reduceIte];refine aR fun K hK=>?_;simp -dsimp [w1,w2,w0,wm];apply hK;clear hK K;simp only[zT,reduceIte,Nat.reduceEqDiff];exact⟨3,by omega,by omega,sub_same (by simp[lgR])⟩
     ·simp at hc4
    ·simp only[zP,Nat.reduceEqDiff,reduceIte];refine awp_seq_k fun K38 hK38=>?_;refine aS fun K hK=>?_;simp -dsimp;apply hK;clear hK K;refine awp_cond rfl (fun hc4=>?_) (fun hc4=>?_)
     ·simp at hc4
     ·refine awp_exit ?_;simp only[zT,reduceIte,Nat.reduceEqDiff];refine hK19 _ _ ?_;refine awp_prune [0,7,8,9,13] ?_;simp only[zP,Nat.reduceEqDiff,reduceIte];refine aS fun K hK=>?_;simp -dsimp;apply hK;clear hK K;refine aS fun K hK=>?_;simp -dsimp;apply hK;clear hK K;refine awp_seq_k fun K39 hK39=>?_;refine aS fun K hK=>?_;simp -dsimp;apply hK;clear hK K;refine awp_block ?_;refine awp_prune [7,9,13,16,17,112,113] ?_;simp only[zP,Nat.reduceEqDiff,reduceIte];refine awp_loop_l [7,9,13,112] (α:=Nat) (fun k=>[(16, .row 5 0 (k-1)),(17,I (if k<2 then 2 else if k=2 then 1 else 0)),(113,I k)]) prR (fun k=>k≤3) (fun k=>3-k) 0 ?_ ?_ ?_
      ·exact Nat.zero_le _
      ·exact(sub_nil 16 1 (by simp)).trans (sub_same (by simp[lgR]))
      rintro k k1
      rcases(by omega:k=0∨k=1∨k=2∨k=3)with rfl|rfl|rfl|rfl
      all_goals simp only[prR0,prR1,prR2,prR3,lgR]
      ·simp only[zP,Nat.reduceEqDiff,reduceIte];refine aS fun K hK=>?_;simp -dsimp;apply hK;clear hK K;refine awp_seq_k fun K40 hK40=>?_;refine awp_cond rfl (fun hc7=>?_) (fun hc7=>?_)
       ·refine awp_skip ?_;simp only[zT,reduceIte,Nat.reduceEqDiff];refine hK40 _ _ ?_;refine awp_prune [7,9,13,16,17,112,113] ?_;simp only[zP,Nat.reduceEqDiff,reduceIte];refine awp_seq_k fun K41 hK41=>?_;refine awp_block ?_;refine aS fun K hK=>?_;simp -dsimp;apply hK;clear hK K;refine awp_sd mixed rfl fun K hK=>?_;simp -dsimp [w0,w1,wm];refine callK_may (Bo false) (fun hm=>by simp at hm) (by simp) ?_;simp -dsimp [w0,w1,wm];refine hK _ _ _ (by decide+kernel) ?_;clear hK K;refine awp_cond rfl (fun hc8=>?_) (fun hc8=>?_)
        ·simp at hc8
        ·refine awp_skip ?_;simp only[zT,reduceIte,Nat.reduceEqDiff];refine hK41 _ _ ?_;refine awp_prune [7,9,13,16,17,112,113] ?_;simp only[zP,Nat.reduceEqDiff,reduceIte];refine aR fun K hK=>?_;simp -dsimp [w1,w2,w3];apply hK;clear hK K;simp only[zT,reduceIte,Nat.reduceEqDiff];exact⟨1,by omega,by omega,sub_rb [some 0,some 1,some 2,some 3,some 4,some 5] rfl (by simp) (by simp[lgR])⟩
       ·simp at hc7
      ·simp only[zP,Nat.reduceEqDiff,reduceIte];refine aS fun K hK=>?_;simp -dsimp;apply hK;clear hK K;refine awp_seq_k fun K42 hK42=>?_;refine awp_cond rfl (fun hc7=>?_) (fun hc7=>?_)
       ·refine awp_skip ?_;simp only[zT,reduceIte,Nat.reduceEqDiff];refine hK42 _ _ ?_;refine awp_prune [7,9,13,16,17,112,113] ?_;simp only[zP,Nat.reduceEqDiff,reduceIte];refine awp_seq_k fun K43 hK43=>?_;refine awp_block ?_;refine aS fun K hK=>?_;simp -dsimp;apply hK;clear hK K;refine awp_sd mixed rfl fun K hK=>?_;simp -dsimp [w0,w1,wm];refine callK_may (Bo false) (fun hm=>by simp at hm) (by simp) ?_;simp -dsimp [w0,w1,wm];refine hK _ _ _ (by decide+kernel) ?_;clear hK K;refine awp_cond rfl (fun hc8=>?_) (fun hc8=>?_)
        ·refine aS fun K hK=>?_;simp -dsimp [f4,f5];apply hK;clear hK K;refine aR fun K hK=>?_;simp -dsimp [w1,w0];apply hK;clear hK K;simp only[zT,reduceIte,Nat.reduceEqDiff];refine hK43 _ _ ?_;refine awp_prune [7,9,13,16,17,112,113] ?_;simp only[zP,Nat.reduceEqDiff,reduceIte];refine aR fun K hK=>?_;simp -dsimp [w1,w2,w3];apply hK;clear hK K;simp only[zT,reduceIte,Nat.reduceEqDiff];exact⟨2,by omega,by omega,sub_rb [some 0,some 1,some 2,some 3,some 4,some 6] rfl (by simp) (by simp[lgR])⟩
        ·simp at hc8
       ·simp at hc7
      ·simp only[zP,Nat.reduceEqDiff,reduceIte];refine aS fun K hK=>?_;simp -dsimp;apply hK;clear hK K;refine awp_seq_k fun K44 hK44=>?_;refine awp_cond rfl (fun hc7=>?_) (fun hc7=>?_)
       ·refine awp_skip ?_;simp only[zT,reduceIte,Nat.reduceEqDiff];refine hK44 _ _ ?_;refine awp_prune [7,9,13,16,17,112,113] ?_;simp only[zP,Nat.reduceEqDiff,reduceIte];refine awp_seq_k fun K45 hK45=>?_;refine awp_block ?_;refine aS fun K hK=>?_;simp -dsimp;apply hK;clear hK K;refine awp_sd mixed rfl fun K hK=>?_;simp -dsimp [w0,w1,wm];refine callK_may _ (fun hm=>d12) (by simp) ?_;simp -dsimp [w0,w1,wm];refine hK _ _ _ (by decide+kernel) ?_;clear hK K;refine awp_cond rfl (fun hc8=>?_) (fun hc8=>?_)
        ·refine aS fun K hK=>?_;simp -dsimp [f4,f5];apply hK;clear hK K;refine aR fun K hK=>?_;simp -dsimp [w1,w0];apply hK;clear hK K;simp only[zT,reduceIte,Nat.reduceEqDiff];refine hK45 _ _ ?_;refine awp_prune [7,9,13,16,17,112,113] ?_;simp only[zP,Nat.reduceEqDiff,reduceIte];refine aR fun K hK=>?_;simp -dsimp [w1,w2,w3];apply hK;clear hK K;simp only[zT,reduceIte,Nat.reduceEqDiff];exact⟨3,by omega,by omega,sub_rb [some 0,some 1,some 2,some 3,some 4,some 6] rfl (by simp) (by simp[lgR])⟩
        ·simp at hc8
       ·simp at hc7
      ·simp only[zP,Nat.reduceEqDiff,reduceIte];refine aS fun K hK=>?_;simp -dsimp;apply hK;clear hK K;refine awp_seq_k fun K46 hK46=>?_;refine awp_cond rfl (fun hc7=>?_) (fun hc7=>?_)
       ·simp at hc7
       ·refine awp_exit ?_;simp only[zT,reduceIte,Nat.reduceEqDiff];refine hK39 _ _ ?_;refine awp_prune [9,16] ?_;simp only[zP,Nat.reduceEqDiff,reduceIte];refine aS fun K hK=>?_;simp -dsimp;apply hK;clear hK K;exact awp_ret (by simp)
end Go.Mo
end
section
namespace Go.Mo
open Go.AM Go.Cur Go.Proofs
def brkR (t:Tn) (st:Int) (x:Ms) (sl:Int):AV:=if (lastX t st (fun _=>sl) x).P=0 then .tup [I (brkF t st x sl),I 0]else .tup [I 0,I 4]
theorem c_Braking (t:Tn) (st:Int) (x:Ms) (sl:Int) (h:okT t=true) (h0:0≤st) (h1:st<t.Grip.length) (ha:askB t x 0 sl=true):PureCall Tryz.prog 12 [t.av,x.av,I sl,I st] (brkR t st x sl):=by
 have hk:=askB_ask h h0 h1 ha;have hxw:x.W≤100000000000000000:=by simp only[askB,Bool.and_eq_true,inr_iff]at ha;omega
 have hm:=c_asked_m t st x 0 sl h h0 h1;rw[ha]at hm;have hb:=c_braking t st x sl hk.b hk.x hxw hk.s;unfold brkR
 by_cases hp:(lastX t st (fun _=>sl) x).P=0
 ·rw[decide_eq_true hp]at hb;rw[if_pos hp];refine PureCall.of_body Tryz.func12 rfl (by decide) (by simp[Tryz.ntmps12]) ?_;simp only[Tryz.ntmps12,Tryz.results12];refine aS fun K hK=>?_;simp -dsimp;apply hK;clear hK K;refine aS fun K hK=>?_;simp -dsimp;refine callK_intro _ (hm) (by simp) ?_;simp -dsimp;apply hK;clear hK K;refine awp_seq_k fun K1 hK1=>?_;refine aS fun K hK=>?_;simp -dsimp;apply hK;clear hK K;refine awp_cond rfl (fun hc0=>?_) (fun hc0=>?_)
  ·simp at hc0
  ·refine awp_skip ?_;simp only[zT,reduceIte,Nat.reduceEqDiff];refine hK1 _ _ ?_;refine awp_prune [2,5,10] ?_;simp only[zP,Nat.reduceEqDiff,reduceIte];refine aS fun K hK=>?_;simp -dsimp;refine callK_intro _ (hb) (by simp) ?_;simp -dsimp;apply hK;clear hK K;refine awp_seq_k fun K2 hK2=>?_;refine aS fun K hK=>?_;simp -dsimp;apply hK;clear hK K;refine awp_cond rfl (fun hc1=>?_) (fun hc1=>?_)
   ·simp at hc1
   ·refine awp_skip ?_;simp only[zT,reduceIte,Nat.reduceEqDiff];refine hK2 _ _ ?_;refine awp_prune [12] ?_;simp only[zP,Nat.reduceEqDiff,reduceIte];refine aS fun K hK=>?_;simp -dsimp;apply hK;clear hK K;exact awp_ret (by simp)
 ·rw[decide_eq_false hp]at hb;rw[if_neg hp];refine PureCall.of_body Tryz.func12 rfl (by decide) (by simp[Tryz.ntmps12]) ?_;simp only[Tryz.ntmps12,Tryz.results12];refine aS fun K hK=>?_;simp -dsimp;apply hK;clear hK K;refine aS fun K hK=>?_;simp -dsimp;refine callK_intro _ (hm) (by simp) ?_;simp -dsimp;apply hK;clear hK K;refine awp_seq_k fun K1 hK1=>?_;refine aS fun K hK=>?_;simp -dsimp;apply hK;clear hK K;refine awp_cond rfl (fun hc0=>?_) (fun hc0=>?_)
  ·simp at hc0
  ·refine awp_skip ?_;simp only[zT,reduceIte,Nat.reduceEqDiff];refine hK1 _ _ ?_;refine awp_prune [2,5,10] ?_;simp only[zP,Nat.reduceEqDiff,reduceIte];refine aS fun K hK=>?_;simp -dsimp;refine callK_intro _ (hb) (by simp) ?_;simp -dsimp;apply hK;clear hK K;refine awp_seq_k fun K2 hK2=>?_;refine aS fun K hK=>?_;simp -dsimp;apply hK;clear hK K;refine awp_cond rfl (fun hc1=>?_) (fun hc1=>?_)
   ·refine aS fun K hK=>?_;simp -dsimp;apply hK;clear hK K;exact awp_ret (by simp)
   ·simp at hc1
abbrev ex9T:Tn:=⟨1000,5000,10000,2000,1000,1000000,0,0,50,[1000,10]⟩
theorem ex9_brk:brkR ex9T 0 ⟨1000000,0⟩ 0= .tup [I 450,I 0]:=by
 have e1:(lastX ex9T 0 (fun _=>0) ⟨1000000,0⟩).P=0:=by decide+kernel
 have e2:brkF ex9T 0 ⟨1000000,0⟩ 0=450:=by decide+kernel
 unfold brkR;rw[if_pos e1,e2]
abbrev ex9G:Gr:=⟨1,[],[⟨0,600,2,0⟩],0⟩
abbrev ex9S:Sta:=⟨[true],[]⟩
abbrev ex9L:List Ld:=[⟨0,4,0⟩]
theorem c_ex9S:PureCall Tryz.prog 25 [.agg [I 1, .v (.slice none 0 0), .full 4 [[I 0,I 600,I 2,I 0]],I 0], .agg [.full 1 [[Bo true]], .v (.slice none 0 0)], .full 3 [[I 0,I 4,I 0]]] (.tup [fL [⟨598,1⟩],fL [⟨4,1⟩],I 0]):=by
 have hl:∀p∈partL ex9G ex9S,p.length≤5:=by decide+kernel
 have h:=c_Solve ex9G ex9S ex9L (by decide) (fun _ p hp=>by have:=hl p hp;omega) (fun _ _ p hp=>Or.inl (hl p hp));unfold solveA at h;rw[if_pos (by decide+kernel),if_neg (by decide+kernel),if_pos (by decide+kernel)]at h;rw[show vlA ex9G.Nodes.toNat (vfS ex9G ex9S (tkK ex9L (allS ex9L)))=[⟨598,1⟩]by decide+kernel,show flA ex9G ex9S (vfS ex9G ex9S (tkK ex9L (allS ex9L)))=[⟨4,1⟩]by decide+kernel]at h;refine PureCall.argR h rfl fun i c c' h1 h2 w S y hy=>?_
 match i with
 |0=>simp only[List.getElem?_cons_zero,Option.some.injEq]at h1 h2;subst h1 h2;exact wkN_rep 4 4 _ _ hy
 |1=>simp only[List.getElem?_cons_zero,List.getElem?_cons_succ,Option.some.injEq]at h1 h2;subst h1 h2;exact wkN_rep 1 4 _ _ hy
 |2=>simp only[List.getElem?_cons_zero,List.getElem?_cons_succ,Option.some.injEq]at h1 h2;subst h1 h2;exact wkN_rep 3 4 _ _ hy
 |i+3=>simp at h1
theorem c_known9:PureCall Tryz.prog 9 [] (Bo true):=by
 have h1:=c_Braking ex9T 0 ⟨1000000,0⟩ 0 (by decide) (by decide) (by decide) (by decide);rw[ex9_brk]at h1;have h1:=h1.wk (args:=[.agg [I 1000,I 5000,I 10000,I 2000,I 1000,I 1000000,I 0,I 0,I 50, .full 1 [[I 1000],[I 10]]], .agg [I 1000000,I 0],I 0,I 0]) (by rfl);have h2:=c_Assign.wk (args:=[.full 1 [[I 2],[I 0],[I 1]],Bo false]) (by rfl);have h3:=c_ex9S;have g1:=(c_same8 [0,0,1] (by decide)).wk (args:=[iL [0,0,1], .full 1 [[I 0],[I 0],[I 1]]]) (by rfl);have g2:=(c_same4 [⟨598,1⟩] (by decide)).wk (args:=[fL [⟨598,1⟩], .full 2 [[I 598,I 1]]]) (by rfl);refine PureCall.of_body Tryz.func9 rfl (by decide) (by simp[Tryz.ntmps9]) ?_;simp only[Tryz.ntmps9,Tryz.results9];refine aS fun K hK=>?_;simp -dsimp;apply hK;clear hK K;refine aS fun K hK=>?_;simp -dsimp;apply hK;clear hK K;refine aS fun K hK=>?_;simp -dsimp;refine callK_intro _ (h1) (by simp) ?_;simp -dsimp;apply hK;clear hK K;refine aS fun K hK=>?_;simp -dsimp;refine callK_intro _ (h2) (by simp) ?_;simp -dsimp;apply hK;clear hK K;refine aS fun K hK=>?_;simp -dsimp;refine callK_intro _ (h3) (by simp) ?_;simp -dsimp;apply hK;clear hK K;refine aS fun K hK=>?_;simp -dsimp;refine callK_may _ (fun hm=>g1) (by simp) ?_;simp -dsimp;refine callK_may _ (fun hm=>g2) (by simp) ?_;simp -dsimp;apply hK;clear hK K;exact awp_ret (by simp)
end Go.Mo
end
section
namespace Go.Mo
open Go.AM Go.Cur Go.Proofs
open Go.Tram (Plan Cover validB wayB begTo mvAt movB mLst begTo_bd way_mov way_len len_bd movB_iff c_Valid c_rWay valid_parts cvTo cvStep cvF cvT cvTo_len c_tCovers_f c_tCovers_t)
def Once (l:List Mv):Prop:=∀i j:Nat,i<l.length→j<i→(mvAt l j).Rail≠(mvAt l i).Rail
theorem cvTo_mem {p:Plan} {l:List Mv} {f L:Int} {n:Nat} {a:Cover} (h:a∈cvTo p l f L n):∃i,i<n∧a∈cvStep p f L (begTo p l i) (mvAt l i):=by
 unfold cvTo at h;rw[List.mem_flatMap]at h;obtain⟨i,hi,ha⟩:=h;exact⟨i,List.mem_range.1 hi,ha⟩
theorem cv_apart {p:Plan} {l:List Mv} (hd:Once l) {f1 L1 f2 L2:Int} (h:f1≤f2-L2) {a b:Cover} (ha:a∈cvTo p l f1 L1 l.length) (hb:b∈cvTo p l f2 L2 l.length):¬(a.Rail=b.Rail∧a.From<b.To∧b.From<a.To):=by
 obtain⟨i,hi,ha⟩:=cvTo_mem ha;obtain⟨j,hj,hb⟩:=cvTo_mem hb;rintro⟨hr,h1,h2⟩;have ra:a.Rail=(mvAt l i).Rail:=by
  unfold cvStep at ha;split at ha
  ·cases ha
  ·split at ha<;>(simp only[List.mem_singleton]at ha;subst ha;rfl)
 have rb:b.Rail=(mvAt l j).Rail:=by
  unfold cvStep at hb;split at hb
  ·cases hb
  ·split at hb<;>(simp only[List.mem_singleton]at hb;subst hb;rfl)
 have hij:i=j:=by
  rcases Nat.lt_trichotomy i j with h3|h3|h3
  ·exact absurd (by rw[←ra,←rb,hr]) (hd j i hj h3)
  ·exact h3
  ·exact absurd (by rw[←ra,←rb,hr]) (hd i j hi h3)
 subst hij;generalize begTo p l i=bg at*
 generalize mvAt l i=m at*
 unfold cvStep at ha hb
 split at ha
 ·cases ha
 ·split at hb
  ·cases hb
  ·rename_i n1 n2;unfold cvF cvT at*
   split at ha<;>rename_i hbk
   ·rw[if_pos hbk]at hb;simp only[List.mem_singleton]at ha hb;subst ha hb;simp only at h1 h2
    repeat' split at n1
    all_goals repeat' split at n2
    all_goals repeat' split at h1
    all_goals repeat' split at h2
    all_goals omega
   ·rw[if_neg hbk]at hb;simp only[List.mem_singleton]at ha hb;subst ha hb;simp only at h1 h2
    repeat' split at n1
    all_goals repeat' split at n2
    all_goals repeat' split at h1
    all_goals repeat' split at h2
    all_goals omega
theorem c_TopSight (p:Plan) (l:List Mv) (t o:Tn) (st front dist slow:Int) (hl:l.length≤maxLen) (hg:t.Grip.length≤maxLen) (hgo:o.Grip.length≤maxLen) (hf:-9223372036854775808≤front∧front≤9223372036854775807) (hs:-9223372036854775808≤slow∧slow≤9223372036854775807):
  PureCall Tryz.prog 3 [p.av,mLst l,t.av,o.av,I st,I front,I dist,I slow] (Bo true):=by
 have hk:=c_known9;have hb:=c_brief9 p;have ht:=c_rTrain t;have hot:=c_rTrain o;refine PureCall.of_body Tryz.func3 rfl (by decide) (by simp[Tryz.ntmps3]) ?_;simp only[Tryz.ntmps3,Tryz.results3];refine aS fun K hK=>?_;simp -dsimp;apply hK;clear hK K;refine awp_seq_k fun K1 hK1=>?_;refine aS fun K hK=>?_;simp -dsimp;refine callK_intro _ (hb) (by simp) ?_;simp -dsimp;refine callK_may _ (fun hm=>(c_rWay p l (by simp at hm;exact(brfB_ok hm.1).1) (by simp at hm;omega))) (by simp) ?_;simp -dsimp;refine callK_may _ (fun hm=>ht) (by simp) ?_;simp -dsimp;refine callK_may _ (fun hm=>hot) (by simp) ?_;simp -dsimp;apply hK;clear hK K;refine awp_cond rfl (fun hc0=>?_) (fun hc0=>?_)
 ·refine aS fun K hK=>?_;simp -dsimp;refine callK_intro _ (hk) (by simp) ?_;simp -dsimp;apply hK;clear hK K;exact awp_ret (by simp)
 ·simp at hc0;obtain⟨⟨⟨⟨⟨⟨⟨⟨⟨⟨⟨⟨⟨hbr,hl10⟩,hwy⟩,_⟩,_⟩,hot1⟩,hoo1⟩,hsp⟩,hs0⟩,hs1⟩,hd0⟩,hd1⟩,hsl⟩,hfr⟩:=hc0;have hv:=(brfB_ok hbr).1;have htl:1≤t.Length∧t.Length≤60000:=by simp only[okT,Bool.and_eq_true,inr_iff]at hot1;omega
  have hol:1≤o.Length∧o.Length≤60000:=by simp only[okT,Bool.and_eq_true,inr_iff]at hoo1;omega
  have hts:1≤t.Speed∧t.Speed≤25000:=by simp only[okT,Bool.and_eq_true,inr_iff]at hot1;omega
  have hll:l.length≤10:=by omega
  refine awp_skip ?_;simp only[zT,reduceIte,Nat.reduceEqDiff];refine hK1 _ _ ?_;refine awp_prune [1,4,5,6,7,8,10,11] ?_;simp only[zP,Nat.reduceEqDiff,reduceIte];refine awp_seq_k fun K2 hK2=>?_;refine aS fun K hK=>?_;simp -dsimp;apply hK;clear hK K;refine awp_block ?_;refine awp_prune [1,4,5,6,7,8,10,11,17] ?_;simp only[zP,Nat.reduceEqDiff,reduceIte];refine awp_loop_l [1,4,5,6,7,8,10,11] (α:=Nat) (fun i=>[(17,I i)]) (fun _=>[some (.els 2 [p.cells]),some (.els 10 [t.cells]),some (.els 10 [o.cells])]) (fun i=>i≤l.length∧∀a b:Nat,a<i→b<a→(mvAt l b).Rail≠(mvAt l a).Rail) (fun i=>l.length-i) 0 ?_ ?_ ?_
  ·exact⟨Nat.zero_le _,fun a b h=>absurd h (by omega)⟩
  ·exact sub_rb [some 0,some 1,some 2] rfl (by simp) (by simp)
  rintro i ⟨i1,i2⟩;simp only[zP,Nat.reduceEqDiff,reduceIte];refine awp_seq_k fun K3 hK3=>?_;refine aS fun K hK=>?_;simp -dsimp;apply hK;clear hK K;refine awp_cond rfl (fun hc1=>?_) (fun hc1=>?_)
  ·have hil:i<l.length:=by simpa using hc1
   have wi:=zW i (by omega);have gi:l[i]?=some (mvAt l i):=by unfold mvAt;rw[List.getElem?_eq_getElem hil];rfl
   refine awp_skip ?_;simp only[zT,reduceIte,Nat.reduceEqDiff];refine hK3 _ _ ?_;refine awp_prune [1,4,5,6,7,8,10,11,17] ?_;simp only[zP,Nat.reduceEqDiff,reduceIte];refine awp_seq_k fun K4 hK4=>?_;refine awp_block ?_;refine aS fun K hK=>?_;simp -dsimp;apply hK;clear hK K;refine awp_block ?_;refine awp_prune [1,4,5,6,7,8,10,11,17,18] ?_;simp only[zP,Nat.reduceEqDiff,reduceIte];refine awp_loop_l [1,4,5,6,7,8,10,11,17] (α:=Nat) (fun k=>[(18,I k)]) (fun _=>[some (.els 2 [p.cells]),some (.els 10 [t.cells]),some (.els 10 [o.cells])]) (fun k=>k≤i∧∀b:Nat,b<k→(mvAt l b).Rail≠(mvAt l i).Rail) (fun k=>i-k) 0 ?_ ?_ ?_
   ·exact⟨Nat.zero_le _,fun b h=>absurd h (by omega)⟩
   ·exact sub_rb [some 0,some 1,some 2] rfl (by simp) (by simp)
   rintro k ⟨k1,k2⟩;simp only[zP,Nat.reduceEqDiff,reduceIte];refine awp_seq_k fun K5 hK5=>?_;refine aS fun K hK=>?_;simp -dsimp;apply hK;clear hK K;refine awp_cond rfl (fun hc2=>?_) (fun hc2=>?_)
   ·have hki:k<i:=by simpa using hc2
    have wk:=zW k (by omega);have gk:l[k]?=some (mvAt l k):=by unfold mvAt;rw[List.getElem?_eq_getElem (by omega)];rfl
    refine awp_skip ?_;simp only[zT,reduceIte,Nat.reduceEqDiff];refine hK5 _ _ ?_;refine awp_prune [1,4,5,6,7,8,10,11,17,18] ?_;simp only[zP,Nat.reduceEqDiff,reduceIte];refine awp_seq_k fun K6 hK6=>?_;refine awp_block ?_;refine awp_sd mixed rfl fun K hK=>?_;simp -dsimp [gi,gk];refine hK _ _ _ (by decide+kernel) ?_;clear hK K;refine awp_cond rfl (fun hc3=>?_) (fun hc3=>?_)
    ·refine aS fun K hK=>?_;simp -dsimp;refine callK_intro _ (hk) (by simp) ?_;simp -dsimp;apply hK;clear hK K;exact awp_ret (by simp)
    ·have hne:(mvAt l k).Rail≠(mvAt l i).Rail:=by simpa using hc3
     refine awp_skip ?_;simp only[zT,reduceIte,Nat.reduceEqDiff];refine hK6 _ _ ?_;refine awp_prune [1,4,5,6,7,8,10,11,17,18] ?_;simp only[zP,Nat.reduceEqDiff,reduceIte];refine aR fun K hK=>?_;simp -dsimp [wk];apply hK;clear hK K;simp only[zT,reduceIte,Nat.reduceEqDiff];exact⟨k+1,⟨by omega,fun b hb=>by
      rcases Nat.lt_or_ge b k with h1|h1
      ·exact k2 b h1
      ·obtain rfl:b=k:=by omega
       exact hne⟩,by omega,sub_rb [some 0,some 1,some 2] rfl (by simp) (by simp)⟩
   ·have hki:k=i:=by have:¬k<i:=(by simpa using hc2);omega
    subst hki;refine awp_exit ?_;simp only[zT,reduceIte,Nat.reduceEqDiff];refine hK4 _ _ ?_;refine awp_prune [1,4,5,6,7,8,10,11,17] ?_;simp only[zP,Nat.reduceEqDiff,reduceIte];refine aR fun K hK=>?_;simp -dsimp [wi];apply hK;clear hK K;simp only[zT,reduceIte,Nat.reduceEqDiff];exact⟨k+1,⟨by omega,fun a b ha hb=>by
     rcases Nat.lt_or_ge a k with h1|h1
     ·exact i2 a b h1 hb
     ·obtain rfl:a=k:=by omega
      exact k2 b hb⟩,by omega,sub_rb [some 0,some 1,some 2] rfl (by simp) (by simp)⟩
  ·have hil :i=l.length:=by have:¬i<l.length:=(by simpa using hc1);omega
   subst hil;have honce:Once l:=fun a b ha hb=>i2 a b ha hb;obtain⟨F1,hF1⟩:∃F1,F1=IntKind.i64.wrap (front+dist):=⟨_,rfl⟩;obtain⟨F,hF⟩:∃F,F=IntKind.i64.wrap (F1+o.Length):=⟨_,rfl⟩;refine awp_exit ?_;simp only[zT,reduceIte,Nat.reduceEqDiff];refine hK2 _ _ ?_;refine awp_prune [1,4,5,6,7,8,10,11] ?_;simp only[zP,Nat.reduceEqDiff,reduceIte];refine aS fun K hK=>?_;simp -dsimp [←hF1];apply hK;clear hK K
   rcases Bool.eq_false_or_eq_true (wayB p l&&(decide (1≤o.Length)&&(decide (o.Length≤F)&&decide (F≤begTo p l l.length))))with hcv|hcv
   ·refine aS fun K hK=>?_;simp -dsimp [←hF];refine callK_intro _ (c_tCovers_t p l F o.Length hv hwy hol.1 (by simp at hcv;omega) (by simp at hcv;omega)) (by simp) ?_;simp -dsimp [←hF];apply hK;clear hK K;refine awp_seq_k fun K7 hK7=>?_;refine aS fun K hK=>?_;simp -dsimp;apply hK;clear hK K;refine awp_cond rfl (fun hc4=>?_) (fun hc4=>?_)
    ·simp at hc4
    ·have hFb:o.Length≤F∧F≤begTo p l l.length:=by simp at hcv;omega
     have hbt:=(begTo_bd hv hwy l.length (Nat.le_refl _)).2;have hF2:F=front+dist+o.Length:=by rw[hF1,IntKind.wrap_i64]at hF;rw[IntKind.wrap_i64]at hF;omega
     have hsg:=c_Sight t st dist hot1 hs0 hs1 ⟨hd0,by omega⟩;obtain⟨v,hv0⟩:∃v,v=sgtF t st dist t.Speed.toNat:=⟨_,rfl⟩;rw[←hv0]at hsg;have hvb:=(sgt_ok t st dist t.Speed.toNat).1;rw[←hv0]at hvb;refine awp_skip ?_;simp only[zT,reduceIte,Nat.reduceEqDiff];refine hK7 _ _ ?_;refine awp_prune [1,4,5,6,7,8,10,20] ?_;simp only[zP,Nat.reduceEqDiff,reduceIte];refine aS fun K hK=>?_;simp -dsimp;refine callK_intro _ (hsg) (by simp) ?_;simp -dsimp;apply hK;clear hK K;refine awp_seq_k fun K8 hK8=>?_;refine aS fun K hK=>?_;simp -dsimp;apply hK;clear hK K;refine awp_cond rfl (fun hc5=>?_) (fun hc5=>?_)
     ·simp at hc5
     ·obtain⟨q,hq⟩:∃q,q=if (v:Int)-slow<0 then 0 else(v:Int)-slow:=⟨_,rfl⟩;have hq0:0≤q∧q≤25000:=by rw[hq];split<;>omega
      have hmm:=(okT_b hot1 hs0 hs1).ma;have hmq:=msb_v (okT_b hot1 hs0 hs1) hq0.1 hq0.2;have hmqp:=hmq.p;simp only at hmqp;have wv:IntKind.i64.wrap ((v:Int)-slow)=(v:Int)-slow:=wrap_in (by omega) (by omega);have wq:IntKind.i64.wrap (q*t.Mass)=q*t.Mass:=wrap_in (by omega) (by omega);have hak:askB t ⟨q*t.Mass,0⟩ 0 0=true:=by simp only[askB,Bool.and_eq_true,inr_iff];omega
      have hbr:=c_Braking t st ⟨q*t.Mass,0⟩ 0 hot1 hs0 hs1 hak;have hmx:(if slow<(v:Int)then(v:Int)-slow else 0)=q:=by rw[hq];split<;>split<;>omega
      have hsb:=fun h=>sight_brk hot1 hs0 hs1 hd0 hsl h (n:=t.Speed.toNat) (by omega) hv0 hq;obtain⟨d,hd⟩:∃d,d=brkF t st ⟨q*t.Mass,0⟩ 0:=⟨_,rfl⟩;have hB:(lastX t st z0 ⟨q*t.Mass,0⟩).P=0→PureCall Tryz.prog 12 [t.av,(⟨q*t.Mass,0⟩:Ms).av,I 0,I st] (.tup [I d,I 0]):=fun h=>by unfold brkR at hbr;rw[if_pos h,←hd]at hbr;exact hbr
      have hC:¬(lastX t st z0 ⟨q*t.Mass,0⟩).P=0→PureCall Tryz.prog 12 [t.av,(⟨q*t.Mass,0⟩:Ms).av,I 0,I st] (.tup [I 0,I 4]):=fun h=>by unfold brkR at hbr;rw[if_neg h]at hbr;exact hbr
      rw[←hd]at hsb;have hri:0≤t.Rise:=(okT_b hot1 hs0 hs1).ri.1;have h3:(slow=0∨t.Rise=0)∨(¬(slow=0∨t.Rise=0)∧(lastX t st z0 ⟨q*t.Mass,0⟩).P=0)∨(¬(slow=0∨t.Rise=0)∧¬(lastX t st z0 ⟨q*t.Mass,0⟩).P=0):=by
       rcases Classical.em (slow=0∨t.Rise=0)with h|h
       ·exact Or.inl h
       ·rcases Classical.em ((lastX t st z0 ⟨q*t.Mass,0⟩).P=0)with h'|h'
        ·exact Or.inr (Or.inl ⟨h,h'⟩)
        ·exact Or.inr (Or.inr ⟨h,h'⟩)
      clear hbr;refine awp_skip ?_;simp only[zT,reduceIte,Nat.reduceEqDiff];refine hK8 _ _ ?_;refine awp_prune [1,4,5,6,7,8,10,20,22] ?_;simp only[zP,Nat.reduceEqDiff,reduceIte]
      rcases h3 with hrs|⟨hrs,hp⟩|⟨hrs,hp⟩
      ·refine aS fun K hK=>?_;simp -dsimp [wv,hmx,wq];refine callK_intro _ (hB (hsb hrs).2.1) (by simp) ?_;simp -dsimp [wv,hmx,wq];apply hK;clear hK K;refine awp_seq_k fun K9 hK9=>?_;refine aS fun K hK=>?_;simp -dsimp;apply hK;clear hK K;refine awp_cond rfl (fun hc6=>?_) (fun hc6=>?_)
       ·exfalso;simp at hc6;omega
       ·obtain⟨_,_,hb0,hb1⟩:=hsb hrs;have n1:¬d<0:=by omega
        have n2:¬dist<d:=by omega
        have wfd:IntKind.i64.wrap (front+d)=front+d:=wrap_in (by omega) (by omega);have hcv2:=c_tCovers_t p l (front+d) t.Length hv hwy htl.1 (by omega) (by omega);have hap:=fun a b ha hb=>cv_apart (p:=p) honce (f1:=front+d) (L1:=t.Length) (f2:=F) (L2:=o.Length) (by omega) (a:=a) (b:=b) ha hb;have hA10:=cvTo_len p l (front+d) t.Length l.length;have hB10:=cvTo_len p l F o.Length l.length;generalize cvTo p l (front+d) t.Length l.length=A at*
        generalize cvTo p l F o.Length l.length=B at*
        refine awp_skip ?_;simp only[zT,reduceIte,Nat.reduceEqDiff];refine hK9 _ _ ?_;refine awp_prune [1,5,6,8,10,20,24,25] ?_;simp only[zP,Nat.reduceEqDiff,reduceIte];refine awp_seq_k fun K10 hK10=>?_;refine aS fun K hK=>?_;simp -dsimp [n1,n2];apply hK;clear hK K;refine awp_cond rfl (fun hc7=>?_) (fun hc7=>?_)
        ·simp[n1,n2]at hc7
        ·refine awp_skip ?_;simp only[zT,reduceIte,Nat.reduceEqDiff];refine hK10 _ _ ?_;refine awp_prune [1,5,8,10,20,24] ?_;simp only[zP,Nat.reduceEqDiff,reduceIte];refine aS fun K hK=>?_;simp -dsimp [wfd];refine callK_intro _ (hcv2) (by simp) ?_;simp -dsimp [wfd];apply hK;clear hK K;refine awp_seq_k fun K11 hK11=>?_;refine aS fun K hK=>?_;simp -dsimp;apply hK;clear hK K;refine awp_cond rfl (fun hc8=>?_) (fun hc8=>?_)
         ·simp at hc8
         ·refine awp_skip ?_;simp only[zT,reduceIte,Nat.reduceEqDiff];refine hK11 _ _ ?_;refine awp_prune [20,26] ?_;simp only[zP,Nat.reduceEqDiff,reduceIte];refine awp_seq_k fun K12 hK12=>?_;refine aS fun K hK=>?_;simp -dsimp;apply hK;clear hK K;refine awp_block ?_;refine awp_prune [20,26,28] ?_;simp only[zP,Nat.reduceEqDiff,reduceIte];refine awp_loop_l [20,26] (α:=Nat) (fun i=>[(28,I i)]) (fun _=>[some (.els 2 [p.cells]),some (.els 10 [t.cells]),some (.els 10 [o.cells])]) (fun i=>i≤A.length) (fun i=>A.length-i) 0 ?_ ?_ ?_
          ·exact Nat.zero_le _
          ·exact sub_rb [some 0,some 1,some 2] rfl (by simp) (by simp)
          rintro i i1;simp only[zP,Nat.reduceEqDiff,reduceIte];refine awp_seq_k fun K13 hK13=>?_;refine aS fun K hK=>?_;simp -dsimp;apply hK;clear hK K;refine awp_cond rfl (fun hc9=>?_) (fun hc9=>?_)
          ·have hiA:i<A.length:=by simpa using hc9
           have wi2:=zW i (by omega);obtain⟨a,ga⟩:∃a,A[i]?=some a:=⟨_,List.getElem?_eq_getElem hiA⟩;refine awp_skip ?_;simp only[zT,reduceIte,Nat.reduceEqDiff];refine hK13 _ _ ?_;refine awp_prune [20,26,28] ?_;simp only[zP,Nat.reduceEqDiff,reduceIte];refine awp_seq_k fun K14 hK14=>?_;refine awp_block ?_;refine aS fun K hK=>?_;simp -dsimp;apply hK;clear hK K;refine awp_block ?_;refine awp_prune [20,26,28,29] ?_;simp only[zP,Nat.reduceEqDiff,reduceIte];refine awp_loop_l [20,26,28] (α:=Nat) (fun k=>[(29,I k)]) (fun _=>[some (.els 2 [p.cells]),some (.els 10 [t.cells]),some (.els 10 [o.cells])]) (fun k=>k≤B.length) (fun k=>B.length-k) 0 ?_ ?_ ?_
           ·exact Nat.zero_le _
           ·exact sub_rb [some 0,some 1,some 2] rfl (by simp) (by simp)
           rintro k k1;simp only[zP,Nat.reduceEqDiff,reduceIte];refine awp_seq_k fun K15 hK15=>?_;refine aS fun K hK=>?_;simp -dsimp;apply hK;clear hK K;refine awp_cond rfl (fun hc10=>?_) (fun hc10=>?_)
           ·have hkB:k<B.length:=by simpa using hc10
            have wk2:=zW k (by omega);obtain⟨b,gb⟩:∃b,B[k]?=some b:=⟨_,List.getElem?_eq_getElem hkB⟩;have hno:=hap a b (List.mem_of_getElem? ga) (List.mem_of_getElem? gb);refine awp_skip ?_;simp only[zT,reduceIte,Nat.reduceEqDiff];refine hK15 _ _ ?_;refine awp_prune [20,26,28,29] ?_;simp only[zP,Nat.reduceEqDiff,reduceIte];refine awp_seq_k fun K16 hK16=>?_;refine awp_block ?_;refine awp_sd mixed rfl fun K hK=>?_;simp -dsimp [ga,gb];refine idxK_intro a.cells (fun _=>by simp[ga]) ?_;simp -dsimp [ga,gb];refine idxK_intro b.cells (fun _=>by simp[gb]) ?_;simp -dsimp [ga,gb];refine idxK_intro b.cells (fun _=>by simp[gb]) ?_;simp -dsimp [ga,gb];refine idxK_intro a.cells (fun _=>by simp[ga]) ?_;simp -dsimp [ga,gb];refine hK _ _ _ (by decide+kernel) ?_;clear hK K;refine awp_cond rfl (fun hc11=>?_) (fun hc11=>?_)
            ·exfalso;simp at hc11;exact hno ⟨hc11.1.1,hc11.1.2,hc11.2⟩
            ·refine awp_skip ?_;simp only[zT,reduceIte,Nat.reduceEqDiff];refine hK16 _ _ ?_;refine awp_prune [20,26,28,29] ?_;simp only[zP,Nat.reduceEqDiff,reduceIte];refine aR fun K hK=>?_;simp -dsimp [wk2];apply hK;clear hK K;simp only[zT,reduceIte,Nat.reduceEqDiff];exact⟨k+1,by omega,by omega,sub_rb [some 0,some 1,some 2] rfl (by simp) (by simp)⟩
           ·refine awp_exit ?_;simp only[zT,reduceIte,Nat.reduceEqDiff];refine hK14 _ _ ?_;refine awp_prune [20,26,28] ?_;simp only[zP,Nat.reduceEqDiff,reduceIte];refine aR fun K hK=>?_;simp -dsimp [wi2];apply hK;clear hK K;simp only[zT,reduceIte,Nat.reduceEqDiff];exact⟨i+1,by omega,by omega,sub_rb [some 0,some 1,some 2] rfl (by simp) (by simp)⟩
          ·refine awp_exit ?_;simp only[zT,reduceIte,Nat.reduceEqDiff];refine hK12 _ _ ?_;refine awp_prune [] ?_;simp only[zP,Nat.reduceEqDiff,reduceIte];refine aS fun K hK=>?_;simp -dsimp;refine callK_intro _ (hk) (by simp) ?_;simp -dsimp;apply hK;clear hK K;exact awp_ret (by simp)
      ·refine aS fun K hK=>?_;simp -dsimp [wv,hmx,wq];refine callK_intro _ (hB hp) (by simp) ?_;simp -dsimp [wv,hmx,wq];apply hK;clear hK K;refine awp_seq_k fun K17 hK17=>?_;refine aS fun K hK=>?_;simp -dsimp;apply hK;clear hK K;refine awp_cond rfl (fun hc6=>?_) (fun hc6=>?_)
       ·refine aS fun K hK=>?_;simp -dsimp;refine callK_intro _ (hk) (by simp) ?_;simp -dsimp;apply hK;clear hK K;exact awp_ret (by simp)
       ·exfalso;simp at hc6;omega
      ·refine aS fun K hK=>?_;simp -dsimp [wv,hmx,wq];refine callK_intro _ (hC hp) (by simp) ?_;simp -dsimp [wv,hmx,wq];apply hK;clear hK K;refine awp_seq_k fun K18 hK18=>?_;refine aS fun K hK=>?_;simp -dsimp;apply hK;clear hK K;refine awp_cond rfl (fun hc6=>?_) (fun hc6=>?_)
       ·refine aS fun K hK=>?_;simp -dsimp;refine callK_intro _ (hk) (by simp) ?_;simp -dsimp;apply hK;clear hK K;exact awp_ret (by simp)
       ·exfalso;simp at hc6;omega
   ·refine aS fun K hK=>?_;simp -dsimp [←hF];refine callK_intro _ (c_tCovers_f p l F o.Length hv (by omega) hcv) (by simp) ?_;simp -dsimp [←hF];apply hK;clear hK K;refine awp_seq_k fun K19 hK19=>?_;refine aS fun K hK=>?_;simp -dsimp;apply hK;clear hK K;refine awp_cond rfl (fun hc4=>?_) (fun hc4=>?_)
    ·refine aS fun K hK=>?_;simp -dsimp;refine callK_intro _ (hk) (by simp) ?_;simp -dsimp;apply hK;clear hK K;exact awp_ret (by simp)
    ·simp at hc4
end Go.Mo
end
