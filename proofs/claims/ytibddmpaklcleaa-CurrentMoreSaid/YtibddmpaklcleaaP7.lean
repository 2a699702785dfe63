import Derived.Test.YtibddmpaklcleaaP6
set_option maxRecDepth 100000
set_option maxHeartbeats 8000000
set_option linter.unusedVariables false
set_option linter.unusedSimpArgs false
section
namespace Go.Cur
open Go.AM Go.Proofs
theorem a7b {A:Nat→Nat→Int} {b b':Nat→Int} {ns:List Nat} {k:Nat} (h:∀i∈ns,b i=b' i):num A b ns k=num A b' ns k:=
 Z0 (A:=fun i j=>if j=k then b i else A i j) (B:=fun i j=>if j=k then b' i else A i j) fun i hi j _=>by
  by_cases e:j=k
  ·simp only[if_pos e];exact h i hi
  ·simp only[if_neg e]
section
variable {g:Gr} {s:Sta} {us us':Kvs} {p:List Nat}
theorem a3u (h:∀x∈p,igt us x=igt us' x):v6 g s us p=v6 g s us' p:=by
 have e1:A5 us p=A5 us' p:=by unfold A5;exact i8 fun x hx=>h x hx
 have e2:O8 us p=O8 us' p:=by
  unfold O8;have gen:∀q:List Nat,(∀x∈q,igt us x=igt us' x)→(q.all fun(x:Nat)=>igt us x==0)=q.all fun(x:Nat)=>igt us' x==0:=by
   intro q
   induction q with
   |nil=>intro _;rfl
   |cons x q ih=>intro hq;rw[List.all_cons,List.all_cons,hq x (by simp),ih fun y hy=>hq y (by simp[hy])]
  exact gen p h
 have e3:∀S k,(ptO g s us p).num S k=(ptO g s us' p).num S k:=fun S k=>by
  unfold o5.num;exact a7b (A:=(ptO g s us p).A S) (ns:=p) fun i hi=>by
   show-igt us i+_=-igt us' i+_;rw[h i hi];rfl
 have e4:∀S,(ptO g s us p).den S=(ptO g s us' p).den S:=fun S=>rfl;have e5:∀i0 k,(ptO g s us p).num0 i0 k=(ptO g s us' p).num0 i0 k:=fun i0 k=>by
  unfold o5.num0;exact a7b (A:=(ptO g s us p).A0 i0) (ns:=p) fun i hi=>by
   show(if i=i0 then(0:Int)else-igt us i)=if i=i0 then(0:Int)else-igt us' i;rw[h i hi]
 have e6:I6 (ptO g s us p) (k8 g s (upN p)).length=I6 (ptO g s us' p) (k8 g s (upN p)).length:=by
  unfold I6;have:(fun a=>decide (1≤a)&&b0X (ptO g s us p) (k8 g s (upN p)).length a)=fun a=>decide (1≤a)&&b0X (ptO g s us' p) (k8 g s (upN p)).length a:=by
   funext a
   unfold b0X;simp only[e3,e4]
   rfl
  rw[this]
 have e7:∀i0,(ptO g s us p).den0 i0=(ptO g s us' p).den0 i0:=fun _=>rfl;unfold v6;simp only[e1,e2,e3,e4,e5,e6,e7]
 rfl
end
theorem c1i {f:Nat→Int} {B:Int}:∀{l:List Nat},(∀x∈l,B≤f x)→B*(l.length:Int)≤sm f l
 |[],_=>by simp[sm]
 |x::l,e=>by
  have ih:=c1i (l:=l) fun y hy=>e y (by simp[hy]);have hx:=e x (by simp);rw[sm,List.length_cons,Int.natCast_add,Int.mul_add];omega
theorem a9W {p q:Nat→Bool} {j:Nat}:∀{l:List Nat},(∀x∈l,q x=true→p x=true)→j∈l→p j=true→q j=false→(l.filter q).length<(l.filter p).length
 |[],_,hj,_,_=>by cases hj
 | x::l,h,hj,h1,h2=>by
  have mono:∀{m:List Nat},(∀x∈m,q x=true→p x=true)→(m.filter q).length≤(m.filter p).length:=by
   intro m hm;rw[←List.countP_eq_length_filter,←List.countP_eq_length_filter];exact List.countP_mono_left hm
  have hl:∀x∈l,q x=true→p x=true:=fun y hy=>h y (by simp[hy]);rw[List.filter_cons,List.filter_cons]
  rcases List.mem_cons.1 hj with rfl|hj
  ·rw[if_neg (by simp[h2]),if_pos h1,List.length_cons];have:=mono hl;omega
  ·have ih:=a9W hl hj h1 h2
   cases hq:q x with
   |true=>rw[if_pos rfl,if_pos (h x (by simp) hq),List.length_cons,List.length_cons];omega
   |false=>
    rw[if_neg (by simp)]
    split
    ·rw[List.length_cons];omega
    ·exact ih
def b7N (p U:List Nat) (x:Nat→Int):List Wn→Int
 |[]=>0
 |w::W=>(if w.a∈p then w.s*(((if w.a∈U then 1 else 0)-(if w.b∈U then 1 else 0))*(x w.a-x w.b))else 0)+b7N p U x W
theorem a9t {p U:List Nat} {x:Nat→Int} (hU:U.Nodup):∀{W:List Wn},sm (fun i=>wf p x W i) U=b7N p U x W
 |[]=>y3 fun _ _=>rfl
 | w::W=>by
  rw[b7N,←a9t hU (W:=W)]
  by_cases ha:w.a∈p
  ·have e:sm (fun i=>wf p x (w::W) i) U=w.s*(x w.a-x w.b)*sm (ew w) U+sm (fun i=>wf p x W i) U:=by
    rw[←n8,←G1];refine i8 fun i _=>?_;rw[wf,if_pos ha,Int.mul_assoc,Int.mul_comm (x w.a-x w.b)]
   rw[e,b2N hU,if_pos ha,Int.mul_assoc,Int.mul_comm (x w.a-x w.b)]
  ·rw[if_neg ha,Int.zero_add];refine i8 fun i _=>?_;rw[wf,if_neg ha,Int.zero_add]
theorem b6V {p U:List Nat} {x:Nat→Int} {t B:Int} (hB:0≤B) (hl:∀k∈U,x k<t-B) (hh:∀k∈p,k∉U→t≤x k):∀{W:List Wn},(∀w∈W,0<w.s∧(w.a∈p↔w.b∈p))→b7N p U x W≤0∧((∃w∈W,w.a∈p∧((w.a∈U∧w.b∉U)∨(w.b∈U∧w.a∉U)))→b7N p U x W< -B)
 |[],_=>⟨Int.le_refl _,fun⟨w,hw,_⟩=>by cases hw⟩
 | w ::W,h=>by
  obtain⟨h1,h2⟩:=b6V hB hl hh (W:=W) fun w hw=>h w (by simp[hw]);have hw:=h w (by simp);have key:(if w.a∈p then w.s*(((if w.a∈U then 1 else 0)-(if w.b∈U then 1 else 0))*(x w.a-x w.b))else 0)≤0∧((w.a∈p∧((w.a∈U∧w.b∉U)∨(w.b∈U∧w.a∉U)))→(if w.a∈p then w.s*(((if w.a∈U then 1 else 0)-(if w.b∈U then 1 else 0))*(x w.a-x w.b))else 0)< -B):=by
   by_cases ha:w.a∈p
   ·have hb:=hw.2.1 ha;have big:∀D:Int,D< -B→w.s*D< -B:=fun D hD=>by
     have h3:=Int.mul_le_mul_of_nonneg_right (show(1:Int)≤w.s by omega) (show(0:Int)≤-D by omega);rw[Int.mul_neg,Int.mul_neg]at h3;omega
    rw[if_pos ha]
    by_cases ua:w.a∈U
    ·by_cases ub:w.b∈U
     ·rw[if_pos ua,if_pos ub];exact⟨by simp,fun h=>by rcases h.2 with h|h;exact absurd ub h.2;exact absurd ua h.2⟩
     ·rw[if_pos ua,if_neg ub];have e1:=hl _ ua;have e2:=hh _ hb ub;have:=big (x w.a-x w.b) (by omega);have e3:((1:Int)-0)*(x w.a-x w.b)=x w.a-x w.b:=by omega
      rw[e3];exact⟨by omega,fun _=>this⟩
    ·by_cases ub:w.b∈U
     ·rw[if_neg ua,if_pos ub];have e1:=hl _ ub;have e2:=hh _ ha ua;have:=big (x w.b-x w.a) (by omega);have e3:((0:Int)-1)*(x w.a-x w.b)=x w.b-x w.a:=by omega
      rw[e3];exact⟨by omega,fun _=>this⟩
     ·rw[if_neg ua,if_neg ub];exact⟨by simp,fun h=>by rcases h.2 with h|h;exact absurd h.1 ua;exact absurd h.1 ub⟩
   ·rw[if_neg ha];exact⟨Int.le_refl _,fun h=>absurd h.1 ha⟩
  rw[b7N];refine⟨by omega,fun⟨v,hv,hv2⟩=>?_⟩
  rcases List.mem_cons.1 hv with rfl|hv
  ·have:=key.2 hv2;omega
  ·have:=h2 ⟨v,hv,hv2⟩;omega
section
variable {g:Gr} {s:Sta} {us:Kvs} {p:List Nat} {vf:Nat→Fr} {d:Int} {n:Nat→Int}
theorem gap (hnt:o7 g s) (hp:p∈j7 g s) (h5:p.length≤5) (hus:∀x,-40≤igt us x∧igt us x≤40) (C:CmP g s us vf p d n) {t:Int} (h1:∃k∈p,t≤n k) (h2:∃k∈p,n k<t):∃k∈p,n k<t∧t-200*d≤n k:=by
 refine Classical.byContradiction fun hno=>?_;have hno':∀k∈p,n k<t→n k<t-200*d:=fun k hk h=>Int.not_le.1 fun h'=>hno ⟨k,hk,h,h'⟩;have hpt:=P0 hnt hp (by omega);have hcl:=hpt.cl;have hUp:∀k,k∈p.filter (fun k=>decide (n k<t))↔k∈p∧n k<t:=fun k=>by rw[List.mem_filter,decide_eq_true_eq]
 have hUn:(p.filter fun k=>decide (n k<t)).Nodup:=List.Pairwise.sublist List.filter_sublist (a0z hp);have hUl:(p.filter fun k=>decide (n k<t)).length≤5:=Nat.le_trans (List.length_filter_le _ _) h5;generalize p.filter (fun k=>decide (n k<t))=U at hUp hUn hUl;have hWs:∀w∈onW g.Wires s.Wires,0<w.s:=fun w hw=>by
  obtain⟨v,hv,rfl⟩:=V6 hw;have h1:=hnt.wires v hv;simp only[wrB,Bool.and_eq_true,t4]at h1;simp only;omega
 have hc:=b6V (p:=p) (U:=U) (x:=n) (t:=t) (B:=200*d) (by have:=C.d0;omega) (fun k hk=>hno' k ((hUp k).1 hk).1 ((hUp k).1 hk).2) (fun k hk hn=>Int.not_lt.1 fun h=>hn ((hUp k).2 ⟨hk,h⟩)) (W:=onW g.Wires s.Wires) fun w hw=>⟨hWs w hw,hcl w hw⟩;have hfb:∀f∈k8 g s (upN p),1≤(fdI g f).Siem:=fun f hf=>by
  obtain⟨b,hb⟩:=List.getElem?_of_mem hf;have h1:=C9 hnt (p:=p) rfl (List.getElem?_eq_some_iff.1 hb).1;rw[J4 hb]at h1;exact h1.2.2.2.2.2.2.2.2.1
 have hfg:∀i,0≤fgi g n d (k8 g s (upN p)) i:=fun i=>by
  unfold fgi;rw[a1S];refine a5j fun b hb=>?_;have hbl:=List.mem_range.1 hb;have hs:=hfb _ (List.mem_of_getElem? (C3 hbl))
  split
  ·unfold fgv;exact Int.mul_nonneg (by omega) (by unfold mx0;split<;>omega)
  ·exact Int.le_refl _
 have hlow:-40*d*(U.length:Int)≤sm (fun i=>wf p n (onW g.Wires s.Wires) i) U:=c1i fun i hi=>by
  have e:=C.eq i ((hUp i).1 hi).1;have e2:=hfg i;have e3:=Int.mul_le_mul_of_nonneg_right (hus i).2 (Int.le_of_lt C.d0);rw[Int.neg_mul];omega
 rw[a9t hUn]at hlow;obtain⟨k1,hk1,hk1'⟩:=h1;obtain⟨k2,hk2,hk2'⟩:=h2;obtain⟨i,hi,hpe⟩:=E5 hp;obtain⟨e,he,hx⟩:=b7z (a2a hnt) (U:=U) (i:=i) (k:=k2) (j:=k1) (fun x hx=>by rw[←hpe];exact((hUp x).1 hx).1) ((hUp k2).2 ⟨hk2,hk2'⟩) (by rw[←hpe];exact hk1) (fun h=>by have:=((hUp k1).1 h).2;omega);obtain⟨w,hw,rfl⟩:=List.mem_map.1 he;have hcr:∃w∈onW g.Wires s.Wires,w.a∈p∧((w.a∈U∧w.b∉U)∨(w.b∈U∧w.a∉U)):=by
  refine⟨w,hw,?_,?_⟩
  ·rcases hx with h|h
   ·exact((hUp _).1 h.1).1
   ·exact(hcl w hw).2 ((hUp _).1 h.1).1
  ·rcases hx with h|h
   ·exact Or.inl ⟨h.1,h.2.1⟩
   ·exact Or.inr ⟨h.1,h.2.1⟩
 have hlt:=hc.2 hcr;have h3:=Int.mul_le_mul_of_nonneg_left (show(U.length:Int)≤5 by omega) (show(0:Int)≤40*d by have:=C.d0;omega);rw[Int.neg_mul,Int.neg_mul]at hlow;omega
theorem b2p (hnt:o7 g s) (hp:p∈j7 g s) (h5:p.length≤5) (hus:∀x,-40≤igt us x∧igt us x≤40) (C:CmP g s us vf p d n):∀(m:Nat) (t:Int),(p.filter fun k=>decide (n k<t)).length≤m→(∃k∈p,t≤n k)→∀j∈p,t-(m:Int)*(200*d)≤n j
 |0,t,hm,h1,j,hj=>by
  have:(p.filter fun k=>decide (n k<t))=[]:=List.length_eq_zero_iff.1 (by omega);rw[List.filter_eq_nil_iff]at this;have:=this j hj;simp at this ⊢;omega
 |m+1,t,hm,h1,j,hj=>by
  have hd:=C.d0;have hmd:=Int.mul_nonneg (show(0:Int)≤(m:Int)by omega) (show 0≤200*d by omega)
  by_cases h2:∃k∈p,n k<t
  ·obtain⟨k,hk,hk1,hk2⟩:=gap hnt hp h5 hus C h1 h2;have hlen:=a9W (l:=p) (p:=fun k=>decide (n k<t)) (q:=fun k=>decide (n k<t-200*d)) (fun x _ h=>by simp at h ⊢;omega) hk (by simpa using hk1) (by simp;omega);have:=b2p hnt hp h5 hus C m (t-200*d) (by omega) ⟨k,hk,hk2⟩ j hj;rw[Int.natCast_add,Int.add_mul];omega
  ·have:t≤n j:=Int.not_lt.1 fun h=>h2 ⟨j,hj,h⟩;rw[Int.natCast_add,Int.add_mul];omega
end
theorem b7c {p:List Nat} {x:Nat→Int} (hp:p.Nodup):∀{W:List Wn},(∀w∈W,w.a∈p↔w.b∈p)→sm (fun i=>wf p x W i) p=0
 |[],_=>y3 fun _ _=>rfl
 |w::W,h=>by
  rw[a9t hp,b7N,←a9t hp,b7c hp fun w hw=>h w (by simp[hw])];have hw:=h w (by simp)
  by_cases ha:w.a∈p
  ·rw[if_pos ha,if_pos ha,if_pos (hw.1 ha)];simp
  ·rw[if_neg ha];rfl
section
variable {g:Gr} {s:Sta} {us us':Kvs} {p:List Nat} {vf:Nat→Fr} {d:Int} {n:Nat→Int}
theorem b5S (hnd:p.Nodup) {F:List Int} (hF:∀f∈F,(fdI g f).At.toNat∈p):sm (fun i=>fgi g n d F i) p=sF (fgv g n d) F:=by
 have gen:∀l:List Int,(∀f∈l,(fdI g f).At.toNat∈p)→sm (fun i=>fgi g n d l i) p=sF (fgv g n d) l:=by
  intro l
  induction l with
  |nil=>intro _;exact y3 fun _ _=>rfl
  | cons f l ih=>
   intro h;have e:sm (fun i=>fgi g n d (f::l) i) p=sm (fun i=>if (fdI g f).At.toNat=i then(fun _=>fgv g n d f) i else 0) p+sm (fun i=>fgi g n d l i) p:=by
    rw[←G1];exact i8 fun i _=>by unfold fgi;rw[O9]
   rw[e,ih fun f hf=>h f (by simp[hf]),a0w hnd (h f (by simp)),O9]
 exact gen F hF
theorem b6D {h:Int→Int}:∀{l:List Int} {x:Int},(∀y∈l,0≤h y)→x∈l→h x≤sF h l
 |[],_,_,hx=>by cases hx
 | y::l,x,e,hx=>by
  have nn:∀m:List Int,(∀y∈m,0≤h y)→0≤sF h m:=by
   intro m
   induction m with
   |nil=>intro _;simp[sF]
   |cons z m ih=>intro hm;rw[O9];have:=ih fun y hy=>hm y (by simp[hy]);have:=hm z (by simp);omega
  rw[O9]
  rcases List.mem_cons.1 hx with rfl|hx
  ·have:=nn l fun y hy=>e y (by simp[hy]);omega
  ·have:=b6D (fun y hy=>e y (by simp[hy])) hx;have:=e y (by simp);omega
theorem c0t (hnt:o7 g s) (hp:p∈j7 g s) (h5:p.length≤5) (hus:∀x,-40≤igt us x∧igt us x≤40) (C:CmP g s us vf p d n) (hF:k8 g s (upN p)≠[]):∀k∈p,-1200*d≤n k:=by
 have hd:=C.d0;have hnd:=a0z hp;have hcl:=(P0 hnt hp (by omega)).cl;obtain⟨f,hf⟩:=List.exists_mem_of_ne_nil _ hF;have hfb:∀f∈k8 g s (upN p),1≤(fdI g f).Volts∧1≤(fdI g f).Siem:=fun f hf=>by
  obtain⟨b,hb⟩:=List.getElem?_of_mem hf;have h1:=C9 hnt (p:=p) rfl (List.getElem?_eq_some_iff.1 hb).1;rw[J4 hb]at h1;exact⟨h1.2.2.2.2.2.2.1,h1.2.2.2.2.2.2.2.2.1⟩
 have hfv:∀f∈k8 g s (upN p),0≤fgv g n d f:=fun f hf=>by
  unfold fgv;exact Int.mul_nonneg (by have:=hfb f hf;omega) (by unfold mx0;split<;>omega)
 have hsum:A5 us p*d-sF (fgv g n d) (k8 g s (upN p))=0:=by
  have h1:sm (fun i=>igt us i*d-fgi g n d (k8 g s (upN p)) i+wf p n (onW g.Wires s.Wires) i) p=0:=y3 fun i hi=>C.eq i hi;rw[G1,S7,b7c hnd hcl,b5S hnd fun f hf=>(H6 hf).2.2.1]at h1;have h2:sm (fun i=>igt us i*d) p=A5 us p*d:=by
   unfold A5;rw[Int.mul_comm,←n8];exact i8 fun i _=>Int.mul_comm _ _
  rw[h2]at h1;omega
 have hsb:=(a2O hus p).2;have h200:A5 us p*d≤200*d:=Int.mul_le_mul_of_nonneg_right (by omega) (Int.le_of_lt hd);have hone:=b6D hfv hf;have hAt:-200*d≤n (fdI g f).At.toNat:=by
  have h1:=hfb f hf;have h2:fgv g n d f≤200*d:=by omega
  have h3:0≤mx0 ((fdI g f).Volts*d-n (fdI g f).At.toNat):=by unfold mx0;split<;>omega
  have h4:mx0 ((fdI g f).Volts*d-n (fdI g f).At.toNat)≤fgv g n d f:=by
   unfold fgv;have:=Int.mul_le_mul_of_nonneg_right h1.2 h3;omega
  have h5:(fdI g f).Volts*d-n (fdI g f).At.toNat≤mx0 ((fdI g f).Volts*d-n (fdI g f).At.toNat):=by unfold mx0;split<;>omega
  have h6:=Int.mul_nonneg (show 0≤(fdI g f).Volts by omega) (Int.le_of_lt hd);omega
 intro k hk;have:=b2p hnt hp h5 hus C 5 (-200*d) (Nat.le_trans (List.length_filter_le _ _) h5) ⟨_,(H6 hf).2.2.1,hAt⟩ k hk;omega
theorem c0Z (C:CmP g s us vf p d (cmN vf d)) {k:Nat} (hk:k∈p) (h:-1200*d≤cmN vf d k):-1200*(vf k).Den≤(vf k).Num:=by
 obtain⟨e0,e1,e,he⟩:=C.den k hk;have hd:=C.d0;have he0:0<e:=by
  refine Int.not_le.1 fun hn=>?_;have:=Int.mul_nonpos_of_nonneg_of_nonpos (Int.le_of_lt e0) hn;omega
 unfold cmN at h;rw[he,Int.mul_ediv_cancel_left _ (by omega),←Int.mul_assoc]at h;exact Int.le_of_mul_le_mul_right h he0
theorem b8Q (hnt:o7 g s) (hp:p∈j7 g s) (h5:p.length≤5) (hus:∀x,-40≤igt us x∧igt us x≤40) (hus':∀x,-40≤igt us' x∧igt us' x≤40) (hok:(v6 g s us p).2.2=true) (hok':(v6 g s us' p).2.2=true) (hle:∀x∈p,igt us x≤igt us' x) {k:Nat} (hk:k∈p):
  (vfS g s us' k).Num*(vfS g s us k).Den≤(vfS g s us k).Num*(vfS g s us' k).Den:=by
 have same:(∀x∈p,igt us x=igt us' x)→(vfS g s us' k).Num*(vfS g s us k).Den≤(vfS g s us k).Num*(vfS g s us' k).Den:=fun h=>by
  rw[b5z hp hk,b5z hp hk,a3u h];exact Int.le_refl _
 by_cases hF:k8 g s (upN p)=[]
 ·have hz:∀us:Kvs,(v6 g s us p).2.2=true→∀x∈p,igt us x=0:=fun us h x hx=>by
   unfold v6 at h;rw[if_pos hF]at h;have h:O8 us p=true:=h;unfold O8 at h;rw[List.all_eq_true]at h;simpa using h x hx
  exact same fun x hx=>by rw[hz us hok x hx,hz us' hok' x hx]
 ·obtain⟨hv,hs0,-⟩:=a2t hnt hp h5 hus hok hF;obtain⟨-,hs0',-⟩:=a2t hnt hp h5 hus' hok' hF;obtain⟨t1,-,-⟩:=L0 hnt hp h5 hus hok;obtain⟨t1',-,-⟩:=L0 hnt hp h5 hus' hok'
  by_cases hs:A5 us' p=0
  ·refine same fun x hx=>?_;have h1:sm (fun x=>igt us' x-igt us x) p=0:=by
    have hle2:A5 us p≤A5 us' p:=by unfold A5;exact b0z fun x hx=>hle x hx
    have:sm (fun x:Nat=>igt us' x-igt us x) p=A5 us' p-A5 us p:=S7;rw[this];omega
   refine Classical.byContradiction fun hne=>?_;have h2:=b0e (f:=fun x:Nat=>igt us' x-igt us x) (u:=p) (fun i hi=>by have:=hle i hi;omega) ⟨x,hx,by have:=hle x hx;omega⟩;omega
  ·have ho:=a2f (us:=us) hnt hp rfl;have hm:(k8 g s (upN p)).length≠0:=fun e=>hF (List.length_eq_zero_iff.1 e);obtain⟨k1,k2,k3,k4⟩:=Z1 (P:=ptO g s us' p) (a2f hnt hp rfl) (m:=(k8 g s (upN p)).length) rfl hm (by rw[a0O];omega);have hne:∃b∈(ptO g s us' p).fs,D7 (I6 (ptO g s us' p) (k8 g s (upN p)).length) b=true:=by
    obtain⟨b,hb,h⟩:=a6W k1 k2;exact⟨b,List.mem_range.2 hb,h⟩
   have hsol:=b1s (P:=ptO g s us' p) (a2f hnt hp rfl) hne;have hge:=b9e (P:=ptO g s us p) ho (u':=fun x=>igt us' x) (fun i hi=>hle i hi) (S:=D7 (I6 (ptO g s us' p) (k8 g s (upN p)).length)) hne hv (y:=(ptO g s us' p).num (D7 (I6 (ptO g s us' p) (k8 g s (upN p)).length))) (e:=(ptO g s us' p).den (D7 (I6 (ptO g s us' p) (k8 g s (upN p)).length))) hsol k hk;have e':v6 g s us' p=(p.map fun k=>(ptO g s us' p).num (D7 (I6 (ptO g s us' p) (k8 g s (upN p)).length)) k,(ptO g s us' p).den (D7 (I6 (ptO g s us' p) (k8 g s (upN p)).length)),true):=by
    unfold v6;rw[if_neg hF,if_neg (by omega),if_neg hs]
   have ex:xOf (v6 g s us' p).1 p k=(ptO g s us' p).num (D7 (I6 (ptO g s us' p) (k8 g s (upN p)).length)) k:=by
    rw[e'];exact a2B (p:=p) (f:=fun k=>(ptO g s us' p).num (D7 (I6 (ptO g s us' p) (k8 g s (upN p)).length)) k) hk
   have ed:(v6 g s us' p).2.1=(ptO g s us' p).den (D7 (I6 (ptO g s us' p) (k8 g s (upN p)).length)):=by rw[e']
   rw[←ex,←ed]at hge;rw[b5z hp hk,b5z hp hk];obtain⟨G,hG,g1,g2,g3⟩:=b3x (n:=xOf (v6 g s us p).1 p k) t1;obtain⟨G',hG',h1,h2,h3⟩:=b3x (n:=xOf (v6 g s us' p).1 p k) t1';generalize red (xOf (v6 g s us p).1 p k) (v6 g s us p).2.1=a at g1 g2 g3 ⊢;generalize red (xOf (v6 g s us' p).1 p k) (v6 g s us' p).2.1=b at h1 h2 h3 ⊢;rw[g1,g2,h1,h2]at hge;have hGG:=Int.mul_pos hG hG';have l1:b.Num*a.Den*(G*G')=a.Den*G*(b.Num*G'):=by
    rw[Int.mul_comm b.Num,Int.mul_assoc,Int.mul_assoc,Int.mul_left_comm b.Num]
   have l2:a.Num*b.Den*(G*G')=b.Den*G'*(a.Num*G):=by
    rw[Int.mul_comm a.Num,Int.mul_assoc,Int.mul_assoc,Int.mul_comm G G',Int.mul_left_comm a.Num]
   have key:b.Num*a.Den*(G*G')≤a.Num*b.Den*(G*G'):=by rw[l1,l2];exact hge
   exact Int.le_of_mul_le_mul_right key hGG
end
theorem a9J {x:Int}:∀{l:List (Ld×Bool)} {c:Int},(∀q∈l,q.1.At≠x)→l.foldl (a5D x) c=c
 |[],_,_=>rfl
 |q::l,c,h=>by
  have:a5D x c q=c:=if_neg fun e=>h q (by simp) e.2;rw[List.foldl_cons,this];exact a9J fun q hq=>h q (by simp[hq])
theorem a5h (l:List Ld):l.zip (A4 l)=l.map fun y=>(y,true):=by
 refine List.ext_getElem? fun i=>?_
 by_cases hi:i<l.length
 ·have h1:(l.zip (A4 l))[i]?=some (l[i],true):=List.getElem?_zip_eq_some.2 ⟨List.getElem?_eq_getElem hi,by rw[List.getElem?_replicate,if_pos hi]⟩;rw[List.getElem?_map,List.getElem?_eq_getElem hi,h1];rfl
 ·rw[List.getElem?_eq_none (by simp;omega),List.getElem?_eq_none (by simp;omega)]
theorem b7n {g:Gr} {l:List Ld} (h:b6x g l) {i:Nat} {y:Ld} (hy:l[i]?=some y):igt (tkK l (A4 l)) y.At=y.Units:=by
 have hi:=(List.getElem?_eq_some_iff.1 hy).1;have e:l=l.take i++y::l.drop (i+1):=by
  have h1:=(List.take_append_drop i l).symm;rw[List.drop_eq_getElem_cons hi]at h1;have h2:l[i]=y:=Option.some.inj (by rw[←List.getElem?_eq_getElem hi];exact hy)
  rwa [h2]at h1
 rw[X0];unfold cur;rw[a5h]
 conv=>lhs;rw[e]
 rw[List.map_append,List.foldl_append,List.map_cons,List.foldl_cons,a9J]
 ·exact if_pos ⟨rfl,rfl⟩
 ·intro q hq;obtain⟨z,hz,rfl⟩:=List.mem_map.1 hq;obtain⟨j,hj⟩:=List.getElem?_of_mem hz;rw[List.getElem?_drop]at hj;intro hat;have:=h.one _ _ _ _ hj hy hat;omega
theorem b6c {l:List Ld} {i:Nat} {y z:Ld} (hy:l[i]?=some y) (hat:z.At=y.At) {x:Int} (hx:x≠y.At):igt (tkK (l.set i z) (A4 (l.set i z))) x=igt (tkK l (A4 l)) x:=by
 rw [X0,X0];unfold cur;rw[a5h,a5h];have gen:∀(l:List Ld) (i:Nat) (c:Int),l[i]?=some y→((l.set i z).map fun y=>(y,true)).foldl (a5D x) c=(l.map fun y=>(y,true)).foldl (a5D x) c:=by
  intro l
  induction l with
  |nil=>intro i c h;simp at h
  | cons w l ih=>
   intro i c h
   cases i with
   |zero=>
    have hw:w=y:=by simpa using h
    rw[List.set_cons_zero,List.map_cons,List.map_cons,List.foldl_cons,List.foldl_cons];have e1:a5D x c (z,true)=c:=if_neg fun e=>hx (e.2.symm.trans hat);have e2:a5D x c (w,true)=c:=if_neg fun e=>hx (e.2.symm.trans (by rw[hw]));rw[e1,e2]
   |succ i=>
    rw[List.set_cons_succ,List.map_cons,List.map_cons,List.foldl_cons,List.foldl_cons];exact ih i _ (by simpa using h)
 exact gen l i 0 hy
theorem c0B {g:Gr} {l:List Ld} (h:b6x g l) {i:Nat} {y z:Ld} (hy:l[i]?=some y) (hat:z.At=y.At) (hr:z.Rank=y.Rank) (hu:-40≤z.Units∧z.Units≤40):b6x g (l.set i z):=by
 have hi:=(List.getElem?_eq_some_iff.1 hy).1;have hm:=List.mem_of_getElem? hy;have hmem:∀w∈l.set i z,w=z∨w∈l:=fun w hw=>by
  rcases List.mem_or_eq_of_mem_set hw with h|h
  ·exact Or.inr h
  ·exact Or.inl h
 refine⟨fun w hw=>?_,fun w hw=>?_,fun w hw=>?_,fun a b v w ha hb e=>?_⟩
 ·rcases hmem w hw with rfl|h1
  ·rw[hat];exact h.at_ y hm
  ·exact h.at_ w h1
 ·rcases hmem w hw with rfl|h1
  ·exact hu
  ·exact h.un w h1
 ·rcases hmem w hw with rfl|h1
  ·rw[hr];exact h.rk y hm
  ·exact h.rk w h1
 ·have back:∀(a:Nat) v,(l.set i z)[a]?=some v→∃v',l[a]?=some v'∧v'.At=v.At:=fun a v ha=>by
   by_cases e:i=a
   ·subst e;rw[List.getElem?_set_self hi]at ha;have:z=v:=Option.some.inj ha;exact⟨y,hy,by rw[←this,hat]⟩
   ·rw[List.getElem?_set_ne e]at ha;exact⟨v,ha,rfl⟩
  obtain⟨v',hv',ev⟩:=back a v ha;obtain⟨w',hw',ew'⟩:=back b w hb;exact h.one a b v' w' hv' hw' (by rw[ev,ew',e])
end Go.Cur
end
section
namespace Go.Cur
open Go.AM Go.Proofs
theorem b7l (a b:Fr) (ha:0<a.Den∧a.Den≤2000000000∧a.Num.natAbs≤7000000000000) (hb:0<b.Den∧b.Den≤2000000000∧b.Num.natAbs≤7000000000000) (h1:-1200*a.Den≤a.Num) (h2:-1200*b.Den≤b.Num) (h:b.Num*a.Den≤a.Num*b.Den):d6 Try.prog 38 [a.av,b.av] (Bo false):=by
 have w1:IntKind.i64.wrap (-1048576*a.Den)=-1048576*a.Den:=f7 (by omega) (by omega);have w2:IntKind.i64.wrap (-1048576*b.Den)=-1048576*b.Den:=f7 (by omega) (by omega);have w3:IntKind.i64.wrap (1048576*a.Den)=1048576*a.Den:=f7 (by omega) (by omega);have w4:IntKind.i64.wrap (1048576*b.Den)=1048576*b.Den:=f7 (by omega) (by omega);have w5:IntKind.i64.wrap (a.Num+1048576*a.Den)=a.Num+1048576*a.Den:=f7 (by omega) (by omega);have w6:IntKind.i64.wrap (b.Num+1048576*b.Den)=b.Num+1048576*b.Den:=f7 (by omega) (by omega);have n1:¬a.Num≤-1048576*a.Den:=by omega
 have n2:¬b.Num≤-1048576*b.Den:=by omega
 have hm:=b9s ⟨b.Num+1048576*b.Den,b.Den⟩ ⟨a.Num+1048576*a.Den,a.Den⟩ ⟨by simp only;omega,by simp only;omega,by simp only;omega,by simp only;omega,by simp only;omega,by simp only;omega,by simp only;omega,by simp only;omega⟩;have hmf:a6P ⟨b.Num+1048576*b.Den,b.Den⟩ ⟨a.Num+1048576*a.Den,a.Den⟩=false:=by
  unfold a6P;rw[decide_eq_false_iff_not];simp only;rw[Int.add_mul,Int.add_mul,Int.mul_assoc,Int.mul_assoc,Int.mul_comm b.Den a.Den];omega
 rw[hmf]at hm;refine d6.of_body Try.func38 rfl (by decide) (by simp[Try.ntmps38]) ?_;simp only[Try.ntmps38,Try.results38];refine aS fun K hK=>?_;simp -dsimp;apply hK;clear hK K;refine b8 fun K1 hK1=>?_;refine aS fun K hK=>?_;simp -dsimp [w1,w2,n1,n2];apply hK;clear hK K;refine d8 rfl (fun hc0=>?_) (fun hc0=>?_)
 ·simp at hc0
 ·refine f5 ?_;simp only[zT,reduceIte,Nat.reduceEqDiff];refine hK1 _ _ ?_;refine b7 [2,3] ?_;simp only[zP,Nat.reduceEqDiff,reduceIte];refine aS fun K hK=>?_;simp -dsimp [w3,w4,w5,w6];refine d5 _ (hm) (by simp) ?_;simp -dsimp [w3,w4,w5,w6];apply hK;clear hK K;exact g7 (by simp)
theorem b3d {g:Gr} {s:Sta} {us:Kvs} {p:List Nat} (hnt:o7 g s) (hp:p∈j7 g s) (h5:p.length≤5) (hus:∀x,-40≤igt us x∧igt us x≤40) (hok:(v6 g s us p).2.2=true) {k:Nat} (hk:k∈p):-1200*(vfS g s us k).Den≤(vfS g s us k).Num:=by
 by_cases hF:k8 g s (upN p)=[]
 ·have e0:xOf (v6 g s us p).1 p k=0:=by
   unfold v6;rw[if_pos hF];exact J4 (by unfold a3V;rw[List.getElem?_replicate,if_pos (List.idxOf_lt_length_of_mem hk)])
  have e1:(v6 g s us p).2.1=1:=by unfold v6;rw[if_pos hF]
  rw[b5z hp hk,e0,e1,b6r (by decide)]
  decide
 ·have C:=a7v hnt hp h5 hus hok;exact c0Z C hk (c0t hnt hp h5 hus C hF k hk)
theorem a4H (g:Gr) (s:Sta) (l:List Ld) (at_ more:Int) (hmr:-9223372036854775808≤more∧more≤9223372036854775807):d6 Try.prog 8 [g.av,s.av,lL l,I at_,I more] (Bo true):=by
 have hk:=a7M;have hfw:=c2I g s l;have hrf:b9R g s l.length=true→d6 Try.prog 16 [g.av,s.av,lL l] (I (a4N g s l)):=fun h=>by have:=a9l h;exact a2x g s l (by omega) (by omega) (by omega)
 have hre:a4N g s l=0→t7 g s l=true∧C5 g s=false:=fun h=>by
  rcases a3c g s l with h1|h1|h1
  ·omega
  ·omega
  ·exact⟨h1.1,h1.2.1⟩
 have hlt:a4N g s l=0→d6 Try.prog 17 [g.av,s.av] (Bo (b4J g s)):=fun h=>a4B g s (u6 (hre h).1);have hwu:a4N g s l=0→0≤at_→at_<l.length→IntKind.i64.wrap (40-(ldA l at_.toNat).Units)=40-(ldA l at_.toNat).Units:=fun h h0 h1=>by
  have:=(O4 (hre h).1).un _ (List.mem_of_getElem? (z8 (l:=l) (k:=at_.toNat) (by omega)));exact f7 (by omega) (by omega)
 generalize hRE:a4N g s l=re at hrf hre hlt hwu;refine d6.of_body Try.func8 rfl (by decide) (by simp[Try.ntmps8]) ?_;simp only[Try.ntmps8,Try.results8];refine aS fun K hK=>?_;simp -dsimp;apply hK;clear hK K;refine b8 fun K1 hK1=>?_;refine aS fun K hK=>?_;simp -dsimp;refine d5 _ (hfw) (by simp) ?_;simp -dsimp;refine g8 _ (fun hm=>hrf (by simpa using hm)) (by simp) ?_;simp -dsimp;refine g8 _ (fun hm=>hlt (by simp at hm;omega)) (by simp) ?_;simp -dsimp;refine⟨fun _ _ _ h _ _=>h,?_⟩;refine l3 ((ldA l at_.toNat).cells) (fun hm=>by simp at hm;rw[List.getElem?_map,z8 (show at_.toNat<l.length by omega)];rfl) ?_;simp -dsimp;apply hK;clear hK K;refine d8 rfl (fun hc0=>?_) (fun hc0=>?_)
 ·refine aS fun K hK=>?_;simp -dsimp;refine d5 _ (hk) (by simp) ?_;simp -dsimp;apply hK;clear hK K;exact g7 (by simp)
 ·have hcc:b9R g s l.length=true∧re=0∧b4J g s=true∧0≤at_∧at_<l.length∧0≤more∧more≤IntKind.i64.wrap (40-(ldA l at_.toNat).Units):=by simp at hc0;obtain⟨⟨⟨⟨⟨⟨a1,a2⟩,a3⟩,a4⟩,a5⟩,a6⟩,a7⟩:=hc0;exact⟨a1,a2,a3,a4,by omega,a6,a7⟩
  obtain⟨hfew,hr0,hli,ha0,ha1,hm0,hm1⟩:=hcc;rw[hwu hr0 ha0 ha1]at hm1;obtain⟨hfi,hlo⟩:=hre hr0;have hsp:=a9l hfew;have hnt:=u6 hfi;have hbd:=t9 hnt.gr;have h5:=b2W hli hlo;have hld:=O4 hfi;obtain⟨q,hq⟩:∃q:Nat,at_=q:=⟨at_.toNat,by omega⟩;subst hq;have hqt:(q:Int).toNat=q:=by omega
  have hql:q<l.length:=by omega
  rw[hqt]at hm1;obtain⟨y,hy'⟩:∃y,y=ldA l q:=⟨_,rfl⟩;have hy:l[q]?=some y:=by rw[hy'];exact z8 hql
  rw[←hy']at hm1;have hyu:=hld.un y (List.mem_of_getElem? hy);have hya:=hld.at_ y (List.mem_of_getElem? hy);obtain⟨l2,hl2⟩:∃l2,l2=l.set q ⟨y.At,y.Units+more,y.Rank⟩:=⟨_,rfl⟩;have hld2:b6x g l2:=by rw[hl2];exact c0B hld hy rfl rfl ⟨by simp only;omega,by simp only;omega⟩
  have hfi2:t7 g s l2=true:=by
   have h1:=hfi;simp only[t7,Bool.and_eq_true]at h1 ⊢;exact⟨h1.1,c1D hld2 _ (Nat.le_refl _)⟩
  have hl2l:l2.length=l.length:=by rw[hl2];simp
  have hus:=a2d hld (A4 l);have hus2:=a2d hld2 (A4 l2);have hsv:=a4X g s l (by omega) (fun _=>L5 hlo) (fun _ _ p hp=>Or.inl (h5 p hp));have hsv2:=a4X g s l2 (by omega) (fun _=>L5 hlo) (fun _ _ p hp=>Or.inl (h5 p hp));unfold a6K at hsv hsv2;rw[if_pos hfi,if_neg (by rw[hlo];decide)]at hsv;rw[if_pos hfi2,if_neg (by rw[hlo];decide)]at hsv2;have hige:∀x,x≠y.At→igt (tkK l2 (A4 l2)) x=igt (tkK l (A4 l)) x:=fun x hx=>by rw[hl2];exact b6c (z:=⟨y.At,y.Units+more,y.Rank⟩) hy rfl hx
  have higa:igt (tkK l (A4 l)) y.At=y.Units:=b7n hld hy;have higa2:igt (tkK l2 (A4 l2)) y.At=y.Units+more:=by
   have h1:l2[q]?=some ⟨y.At,y.Units+more,y.Rank⟩:=by rw[hl2,List.getElem?_set_self hql]
   exact b7n hld2 h1
  have fl1:I9 l.length 25:=m8 (by omega) (by omega);have wu:IntKind.i64.wrap (y.Units+more)=y.Units+more:=f7 (by omega) (by omega);have hyq:l[q]=y:=Option.some.inj (by rw[←List.getElem?_eq_getElem hql];exact hy);have D9:(l.map Ld.cells).set q [I y.At,I (y.Units+more),I y.Rank]=l2.map Ld.cells:=by rw[hl2,List.map_set];rfl
  have htk2:List.take l.length (l2.map Ld.cells)=l2.map Ld.cells:=List.take_of_length_le (by simp[hl2l]);have hle2:l.length≤l2.length:=by omega
  refine f5 ?_;simp only[zT,reduceIte,Nat.reduceEqDiff];refine hK1 _ _ ?_;refine b7 [2,3,4,5,6] ?_;simp only[zP,Nat.reduceEqDiff,reduceIte]
  cases hok:okS g s (tkK l (A4 l))
  simp only[hok,if_true,Bool.false_eq_true,if_false]at hsv
  cases hok2:okS g s (tkK l2 (A4 l2))
  simp only[hok2,if_true,Bool.false_eq_true,if_false]at hsv2
  rotate_left
  simp only[hok2,if_true,Bool.false_eq_true,if_false]at hsv2
  rotate_left
  simp only[hok,if_true,Bool.false_eq_true,if_false]at hsv
  cases hok2:okS g s (tkK l2 (A4 l2))
  simp only[hok2,if_true,Bool.false_eq_true,if_false]at hsv2
  rotate_left
  simp only[hok2,if_true,Bool.false_eq_true,if_false]at hsv2
  rotate_left
  rotate_left
  rotate_left
  ·refine aS fun K hK=>?_;simp -dsimp;refine d5 _ (hsv) (by simp) ?_;simp -dsimp;apply hK;clear hK K;refine aS fun K hK=>?_;simp -dsimp [fl1];apply hK;clear hK K;refine aS fun K hK=>?_;simp -dsimp [hql,hy,wu,hy'];apply hK;clear hK K;refine N7 (D5 (T':=[(2,lL l),(3,I q),(5, .ptr 0 0 0),(6, .ptr 1 0 0),(11,fL (vlA g.Nodes.toNat (vfS g s (tkK l (A4 l))))),(13,I 0),(14,lL l2)]) (H':=[some (.els 4 [g.cells]),some (.els 2 [s.cells])]) [some 0,some 1] rfl ⟨.inr (by simp), .inr (by simp), .inr (by simp), .inr (by simp), .inr (by simp), .inr (by simp), .inr (by simp[hyq,wu,D9,htk2,hle2]),trivial⟩ (by simp)) ?_
   ·refine aS fun K hK=>?_;simp -dsimp;refine d5 _ (hsv2) (by simp) ?_;simp -dsimp;apply hK;clear hK K;refine b8 fun K2 hK2=>?_;refine aS fun K hK=>?_;simp -dsimp;apply hK;clear hK K;refine d8 rfl (fun hc1=>?_) (fun hc1=>?_)
    ·refine aS fun K hK=>?_;simp -dsimp;refine g8 _ (fun hm=>hk) (by simp) ?_;simp -dsimp;apply hK;clear hK K;exact g7 (by simp)
    ·simp at hc1
  ·refine aS fun K hK=>?_;simp -dsimp;refine d5 _ (hsv) (by simp) ?_;simp -dsimp;apply hK;clear hK K;refine aS fun K hK=>?_;simp -dsimp [fl1];apply hK;clear hK K;refine aS fun K hK=>?_;simp -dsimp [hql,hy,wu,hy'];apply hK;clear hK K;refine N7 (D5 (T':=[(2,lL l),(3,I q),(5, .ptr 0 0 0),(6, .ptr 1 0 0),(11,fL (vlA g.Nodes.toNat (vfS g s (tkK l (A4 l))))),(13,I 0),(14,lL l2)]) (H':=[some (.els 4 [g.cells]),some (.els 2 [s.cells])]) [some 0,some 1] rfl ⟨.inr (by simp), .inr (by simp), .inr (by simp), .inr (by simp), .inr (by simp), .inr (by simp), .inr (by simp[hyq,wu,D9,htk2,hle2]),trivial⟩ (by simp)) ?_
   ·refine aS fun K hK=>?_;simp -dsimp;refine d5 _ (hsv2) (by simp) ?_;simp -dsimp;apply hK;clear hK K;refine b8 fun K3 hK3=>?_;refine aS fun K hK=>?_;simp -dsimp;apply hK;clear hK K;refine d8 rfl (fun hc1=>?_) (fun hc1=>?_)
    ·simp at hc1
    ·obtain⟨N,hnn⟩:∃N:Nat,g.Nodes.toNat=N:=⟨g.Nodes.toNat,rfl⟩;have hnN:g.Nodes=(N:Int):=by omega
     have hVl:((vlA g.Nodes.toNat (vfS g s (tkK l (A4 l)))).length:Int)=g.Nodes:=by simp[vlA];omega
     have hVl2:((vlA g.Nodes.toNat (vfS g s (tkK l2 (A4 l2)))).length:Int)=g.Nodes:=by simp[vlA];omega
     refine f5 ?_;simp only[zT,reduceIte,Nat.reduceEqDiff];refine hK3 _ _ ?_;refine b7 [2,3,5,6,11,15] ?_;simp only[zP,Nat.reduceEqDiff,reduceIte];refine b8 fun K4 hK4=>?_;refine aS fun K hK=>?_;simp -dsimp [hVl,hVl2];apply hK;clear hK K;refine d8 rfl (fun hc2=>?_) (fun hc2=>?_)
     ·simp at hc2
     ·have hrp:=Y6 g s hnt;have hokp:∀p∈j7 g s,(v6 g s (tkK l (A4 l)) p).2.2=true:=fun p hp=>by unfold okS at hok;rw[List.all_eq_true]at hok;exact hok p hp
      have hokp2:∀p∈j7 g s,(v6 g s (tkK l2 (A4 l2)) p).2.2=true:=fun p hp=>by unfold okS at hok2;rw[List.all_eq_true]at hok2;exact hok2 p hp
      have hvt:=fun k (hk:k<g.Nodes.toNat)=>a1N hnt h5 hus hok hk;have hvt2:=fun k (hk:k<g.Nodes.toNat)=>a1N hnt h5 hus2 hok2 hk;have hlw:=fun p (hp:p∈j7 g s) k (hk:k∈p)=>b3d hnt hp (h5 p hp) hus (hokp p hp) hk;have hlw2:=fun p (hp:p∈j7 g s) k (hk:k∈p)=>b3d hnt hp (h5 p hp) hus2 (hokp2 p hp) hk;have hmo:=fun p (hp:p∈j7 g s) k (hk:k∈p)=>b8Q hnt hp (h5 p hp) hus hus2 (hokp p hp) (hokp2 p hp) (fun(x:Nat) _=>by
       by_cases e:(x:Int)=y.At
       ·rw[e,higa,higa2];omega
       ·rw[hige _ e];exact Int.le_refl _) hk
      have hsa:∀p∈j7 g s,y.At.toNat∉p→∀k∈p,vfS g s (tkK l2 (A4 l2)) k=vfS g s (tkK l (A4 l)) k:=fun p hp hn k hk=>by
       rw[b5z hp hk,b5z hp hk,a3u (us:=tkK l2 (A4 l2)) (us':=tkK l (A4 l)) fun(x:Nat) hx=>hige _ fun e=>hn (by rw[←e];exact hx)]
      have hpl:=M3 g s;have hltp:=fun p (hp:p∈j7 g s) k (hk:k∈p)=>G4 hp hk;have h5':=h5;rw[hnn]at hltp hvt hvt2;rw[hnn];generalize vfS g s (tkK l (A4 l))=vf at hvt hlw hmo hsa ⊢;generalize vfS g s (tkK l2 (A4 l2))=vf2 at hvt2 hlw2 hmo hsa ⊢;have gVS:=fun k (hk:k<N)=>Q5 (vf:=vf) hk;have gVS2:=fun k (hk:k<N)=>Q5 (vf:=vf2) hk;generalize vlA N vf=VS at gVS ⊢;generalize vlA N vf2=VS2 at gVS2 ⊢;generalize j7 g s=L at hlw hlw2 hmo hsa hrp hpl hltp h5';refine f5 ?_;simp only[zT,reduceIte,Nat.reduceEqDiff];refine hK4 _ _ ?_;refine b7 [2,3,5,6,11,15] ?_;simp only[zP,Nat.reduceEqDiff,reduceIte];refine aS fun K hK=>?_;simp -dsimp;refine d5 _ (hrp) (by simp) ?_;simp -dsimp;apply hK;clear hK K;refine b8 fun K5 hK5=>?_;refine aS fun K hK=>?_;simp -dsimp;apply hK;clear hK K;refine e8 ?_;refine b7 [2,3,11,15,18,19] ?_;simp only[zP,Nat.reduceEqDiff,reduceIte];refine i4 [2,3,11,15,18] (α:=Nat) (fun i=>[(19,I i)]) (fun i=>[some (.els 4 [g.cells]),some (.els 2 [s.cells])]) (fun i=>i≤L.length) (fun i=>L.length-i) 0 ?_ ?_ ?_
      ·exact Nat.zero_le _
      ·exact e9 [some 0,some 1] rfl (by simp) (by simp)
      rintro i i1;simp only[zP,Nat.reduceEqDiff,reduceIte];refine b8 fun K6 hK6=>?_;refine aS fun K hK=>?_;simp -dsimp;apply hK;clear hK K;refine d8 rfl (fun hc3=>?_) (fun hc3=>?_)
      ·have hil:i<L.length:=by simpa using hc3
       have wi:=zW i (by omega);obtain⟨p,hp⟩:∃p,L[i]?=some p:=⟨_,List.getElem?_eq_getElem hil⟩;have hpm:=List.mem_of_getElem? hp;have hul:=o9 p;have hp5:=h5' p hpm;have hlt:=hltp p hpm;have hhold:=a8v (upN p) y.At (by omega);have hhd:decide (y.At∈upN p)=decide (y.At.toNat∈p):=decide_eq_decide.2 (by rw[V5];exact⟨fun h=>h.2,fun h=>⟨by omega,h⟩⟩);rw[hhd]at hhold;refine f5 ?_;simp only[zT,reduceIte,Nat.reduceEqDiff];refine hK6 _ _ ?_;refine b7 [2,3,11,15,18,19] ?_;simp only[zP,Nat.reduceEqDiff,reduceIte];refine b8 fun K7 hK7=>?_;refine e8 ?_
       by_cases hin:y.At.toNat∈p
       all_goals simp only[hin,decide_true,decide_false]at hhold
       ·refine s9 l9 rfl fun K hK=>?_;simp -dsimp [hp,hy,pAV,hql,hyq];refine d5 _ (hhold) (by simp) ?_;simp -dsimp [hp,hy,pAV,hql,hyq];refine hK _ _ _ (by decide+kernel) ?_;clear hK K;refine aS fun K hK=>?_;simp -dsimp;apply hK;clear hK K;refine e8 ?_;refine b7 [2,3,11,15,18,19,20,21] ?_;simp only[zP,Nat.reduceEqDiff,reduceIte];refine i4 [2,3,11,15,18,19,20] (α:=Nat) (fun k=>[(21,I k)]) (fun k=>[some (.els 4 [g.cells]),some (.els 2 [s.cells])]) (fun k=>k≤p.length) (fun k=>p.length-k) 0 ?_ ?_ ?_
        ·exact Nat.zero_le _
        ·exact e9 [some 0,some 1] rfl (by simp) (by simp)
        rintro k k1;simp only[zP,Nat.reduceEqDiff,reduceIte];refine b8 fun K8 hK8=>?_;refine aS fun K hK=>?_;simp -dsimp [hp,pAV,hul];apply hK;clear hK K;refine d8 rfl (fun hc4=>?_) (fun hc4=>?_)
        ·have hkl:k<p.length:=by simpa [hul]using hc4
         have wk:=zW k (by omega);obtain⟨x,hx⟩:∃x,p[k]?=some x:=⟨_,List.getElem?_eq_getElem hkl⟩;have gx:=E9 hx;have hku:k<(upN p).length:=by omega
         have gxe:(upN p)[k]=(x:Int):=Option.some.inj (by rw[←List.getElem?_eq_getElem hku];exact gx);have hxm:=List.mem_of_getElem? hx;have hxN:=hlt x hxm;have gv:=gVS x hxN;have gv2:=gVS2 x hxN;have t1:=hvt x hxN;have t2:=hvt2 x hxN;have hls:=b7l (vf x) (vf2 x) t1 t2 (hlw p hpm x hxm) (hlw2 p hpm x hxm) (hmo p hpm x hxm);generalize vf2 x=b at*
         generalize vf x=a at*
         have hpb:=M6 b;have p4:b.Den<2000000000000:=by omega
         have p5:-10000000000000000<b.Num:=by omega
         have p6:b.Num<10000000000000000:=by omega
         have hpa:=M6 a;have p1:a.Den<2000000000000:=by omega
         have p2:-10000000000000000<a.Num:=by omega
         have p3:a.Num<10000000000000000:=by omega
         refine f5 ?_;simp only[zT,reduceIte,Nat.reduceEqDiff];refine hK8 _ _ ?_;refine b7 [2,3,11,15,18,19,20,21] ?_;simp only[zP,Nat.reduceEqDiff,reduceIte];refine b8 fun K9 hK9=>?_;refine e8 ?_;refine s9 l9 rfl fun K hK=>?_;simp -dsimp [hp,pAV,gx,gxe,gv,gv2,hul,hkl];refine hK _ _ _ (by decide+kernel) ?_;clear hK K;refine aS fun K hK=>?_;simp -dsimp [t1.1,t2.1,p1,p2,p3,p4,p5,p6];refine g8 _ (fun hm=>hpa) (by simp) ?_;simp -dsimp [t1.1,t2.1,p1,p2,p3,p4,p5,p6];refine g8 _ (fun hm=>hpb) (by simp) ?_;simp -dsimp [t1.1,t2.1,p1,p2,p3,p4,p5,p6];refine g8 _ (fun hm=>hls) (by simp) ?_;simp -dsimp [t1.1,t2.1,p1,p2,p3,p4,p5,p6];apply hK;clear hK K;refine d8 rfl (fun hc5=>?_) (fun hc5=>?_)
         ·simp at hc5
         ·refine f5 ?_;simp only[zT,reduceIte,Nat.reduceEqDiff];refine hK9 _ _ ?_;refine b7 [2,3,11,15,18,19,20,21] ?_;simp only[zP,Nat.reduceEqDiff,reduceIte];refine aR fun K hK=>?_;simp -dsimp [wk];apply hK;clear hK K;simp only[zT,reduceIte,Nat.reduceEqDiff];exact⟨k+1,by omega,by omega,e9 [some 0,some 1] rfl (by simp) (by simp)⟩
        ·refine j8 ?_;simp only[zT,reduceIte,Nat.reduceEqDiff];refine hK7 _ _ ?_;refine b7 [2,3,11,15,18,19] ?_;simp only[zP,Nat.reduceEqDiff,reduceIte];refine aR fun K hK=>?_;simp -dsimp [wi];apply hK;clear hK K;simp only[zT,reduceIte,Nat.reduceEqDiff];exact⟨i+1,by omega,by omega,e9 [some 0,some 1] rfl (by simp) (by simp)⟩
       ·refine s9 l9 rfl fun K hK=>?_;simp -dsimp [hp,hy,pAV,hql,hyq];refine d5 _ (hhold) (by simp) ?_;simp -dsimp [hp,hy,pAV,hql,hyq];refine hK _ _ _ (by decide+kernel) ?_;clear hK K;refine aS fun K hK=>?_;simp -dsimp;apply hK;clear hK K;refine e8 ?_;refine b7 [2,3,11,15,18,19,20,21] ?_;simp only[zP,Nat.reduceEqDiff,reduceIte];refine i4 [2,3,11,15,18,19,20] (α:=Nat) (fun k=>[(21,I k)]) (fun k=>[some (.els 4 [g.cells]),some (.els 2 [s.cells])]) (fun k=>k≤p.length) (fun k=>p.length-k) 0 ?_ ?_ ?_
        ·exact Nat.zero_le _
        ·exact e9 [some 0,some 1] rfl (by simp) (by simp)
        rintro k k1;simp only[zP,Nat.reduceEqDiff,reduceIte];refine b8 fun K10 hK10=>?_;refine aS fun K hK=>?_;simp -dsimp [hp,pAV,hul];apply hK;clear hK K;refine d8 rfl (fun hc4=>?_) (fun hc4=>?_)
        ·have hkl:k<p.length:=by simpa [hul]using hc4
         have wk:=zW k (by omega);obtain⟨x,hx⟩:∃x,p[k]?=some x:=⟨_,List.getElem?_eq_getElem hkl⟩;have gx:=E9 hx;have hku:k<(upN p).length:=by omega
         have gxe:(upN p)[k]=(x:Int):=Option.some.inj (by rw[←List.getElem?_eq_getElem hku];exact gx);have hxm:=List.mem_of_getElem? hx;have hxN:=hlt x hxm;have gv:=gVS x hxN;have gv2:=gVS2 x hxN;have t1:=hvt x hxN;have t2:=hvt2 x hxN;have hls:=b7l (vf x) (vf x) t1 t1 (hlw p hpm x hxm) (hlw p hpm x hxm) (Int.le_refl _);rw[hsa p hpm hin x hxm]at gv2 t2;generalize vf x=a at*
         have hpa:=M6 a;have p1:a.Den<2000000000000:=by omega
         have p2:-10000000000000000<a.Num:=by omega
         have p3:a.Num<10000000000000000:=by omega
         refine f5 ?_;simp only[zT,reduceIte,Nat.reduceEqDiff];refine hK10 _ _ ?_;refine b7 [2,3,11,15,18,19,20,21] ?_;simp only[zP,Nat.reduceEqDiff,reduceIte];refine b8 fun K11 hK11=>?_;refine e8 ?_;refine s9 l9 rfl fun K hK=>?_;simp -dsimp [hp,pAV,gx,gxe,gv,gv2,hul,hkl];refine hK _ _ _ (by decide+kernel) ?_;clear hK K;refine aS fun K hK=>?_;simp -dsimp [t1.1,p1,p2,p3];refine g8 _ (fun hm=>hpa) (by simp) ?_;simp -dsimp [t1.1,p1,p2,p3];refine g8 _ (fun hm=>hpa) (by simp) ?_;simp -dsimp [t1.1,p1,p2,p3];refine g8 _ (fun hm=>hls) (by simp) ?_;simp -dsimp [t1.1,p1,p2,p3];apply hK;clear hK K;refine d8 rfl (fun hc5=>?_) (fun hc5=>?_)
         ·simp at hc5
         ·refine f5 ?_;simp only[zT,reduceIte,Nat.reduceEqDiff];refine hK11 _ _ ?_;refine b7 [2,3,11,15,18,19,20,21] ?_;simp only[zP,Nat.reduceEqDiff,reduceIte];refine aR fun K hK=>?_;simp -dsimp [wk];apply hK;clear hK K;simp only[zT,reduceIte,Nat.reduceEqDiff];exact⟨k+1,by omega,by omega,e9 [some 0,some 1] rfl (by simp) (by simp)⟩
        ·refine j8 ?_;simp only[zT,reduceIte,Nat.reduceEqDiff];refine hK7 _ _ ?_;refine b7 [2,3,11,15,18,19] ?_;simp only[zP,Nat.reduceEqDiff,reduceIte];refine aR fun K hK=>?_;simp -dsimp [wi];apply hK;clear hK K;simp only[zT,reduceIte,Nat.reduceEqDiff];exact⟨i+1,by omega,by omega,e9 [some 0,some 1] rfl (by simp) (by simp)⟩
      ·refine j8 ?_;simp only[zT,reduceIte,Nat.reduceEqDiff];refine hK5 _ _ ?_;refine b7 [] ?_;simp only[zP,Nat.reduceEqDiff,reduceIte];refine aS fun K hK=>?_;simp -dsimp;refine d5 _ (hk) (by simp) ?_;simp -dsimp;apply hK;clear hK K;exact g7 (by simp)
  ·refine aS fun K hK=>?_;simp -dsimp;refine d5 _ (hsv) (by simp) ?_;simp -dsimp;apply hK;clear hK K;refine aS fun K hK=>?_;simp -dsimp [fl1];apply hK;clear hK K;refine aS fun K hK=>?_;simp -dsimp [hql,hy,wu,hy'];apply hK;clear hK K;refine N7 (D5 (T':=[(2,lL l),(3,I q),(5, .ptr 0 0 0),(6, .ptr 1 0 0),(13,I 4),(14,lL l2)]) (H':=[some (.els 4 [g.cells]),some (.els 2 [s.cells])]) [some 0,some 1] rfl ⟨.inr (by simp), .inr (by simp), .inr (by simp), .inr (by simp), .inr (by simp), .inr (by simp[hyq,wu,D9,htk2,hle2]),trivial⟩ (by simp)) ?_
   ·refine aS fun K hK=>?_;simp -dsimp;refine d5 _ (hsv2) (by simp) ?_;simp -dsimp;apply hK;clear hK K;refine b8 fun K12 hK12=>?_;refine aS fun K hK=>?_;simp -dsimp;apply hK;clear hK K;refine d8 rfl (fun hc1=>?_) (fun hc1=>?_)
    ·refine aS fun K hK=>?_;simp -dsimp;refine g8 _ (fun hm=>hk) (by simp) ?_;simp -dsimp;apply hK;clear hK K;exact g7 (by simp)
    ·simp at hc1
  ·refine aS fun K hK=>?_;simp -dsimp;refine d5 _ (hsv) (by simp) ?_;simp -dsimp;apply hK;clear hK K;refine aS fun K hK=>?_;simp -dsimp [fl1];apply hK;clear hK K;refine aS fun K hK=>?_;simp -dsimp [hql,hy,wu,hy'];apply hK;clear hK K;refine N7 (D5 (T':=[(2,lL l),(3,I q),(5, .ptr 0 0 0),(6, .ptr 1 0 0),(13,I 4),(14,lL l2)]) (H':=[some (.els 4 [g.cells]),some (.els 2 [s.cells])]) [some 0,some 1] rfl ⟨.inr (by simp), .inr (by simp), .inr (by simp), .inr (by simp), .inr (by simp), .inr (by simp[hyq,wu,D9,htk2,hle2]),trivial⟩ (by simp)) ?_
   ·refine aS fun K hK=>?_;simp -dsimp;refine d5 _ (hsv2) (by simp) ?_;simp -dsimp;apply hK;clear hK K;refine b8 fun K13 hK13=>?_;refine aS fun K hK=>?_;simp -dsimp;apply hK;clear hK K;refine d8 rfl (fun hc1=>?_) (fun hc1=>?_)
    ·refine aS fun K hK=>?_;simp -dsimp;refine g8 _ (fun hm=>hk) (by simp) ?_;simp -dsimp;apply hK;clear hK K;exact g7 (by simp)
    ·simp at hc1
end Go.Cur
end
