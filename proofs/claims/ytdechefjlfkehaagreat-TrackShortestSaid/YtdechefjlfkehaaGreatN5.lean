import Derived.Test.YtdechefjlfkehaaGreatN4
set_option maxRecDepth 100000
set_option maxHeartbeats 8000000
set_option linter.unusedVariables false
set_option linter.unusedSimpArgs false
section
namespace Go.Tram
open Go.AM Go.Proofs
@[simp] def Prt.cells (x:Prt):List AV:=[.lst 2 (x.way.map Move.cells),I x.Len,I x.Mv]
abbrev Prt.av (x:Prt):AV:= .agg x.cells
@[simp] theorem mtp_Push : mtOf Tryz.prog 127 "Push" = some (252, none) := by kernel_rfl
@[simp] theorem mtp_Pop : mtOf Tryz.prog 127 "Pop" = some (251, none) := by kernel_rfl
@[simp] theorem mtp_Len : mtOf Tryz.prog 127 "Len" = some (48, (some 129)) := by kernel_rfl
@[simp] theorem mtp_Less : mtOf Tryz.prog 127 "Less" = some (250, (some 129)) := by kernel_rfl
@[simp] theorem mtp_Swap : mtOf Tryz.prog 127 "Swap" = some (253, (some 129)) := by kernel_rfl
theorem flat_p (l:List Prt):(l.map Prt.cells).all (fun e=>e.all flatC)=true:=by simp[flatC]
@[simp high] theorem flat_p_ren (l:List Prt) (g:List (Option Nat)) (n:Nat):(l.map Prt.cells).map (fun e=>e.map (renAV g n))=l.map Prt.cells:=map_flatC (fun x h=>flatC_ren h g n) (flat_p l)
theorem c_pLen (l:List Prt):PureCall Tryz.prog 48 [.lst 3 (l.map Prt.cells)] (I l.length):=by
 refine PureCall.of_body Tryz.func48 rfl (by decide) (by simp[Tryz.ntmps48]) ?_;simp only[Tryz.ntmps48,Tryz.results48];refine aS fun K hK=>?_;simp -dsimp;apply hK;clear hK K;refine aS fun K hK=>?_;simp -dsimp;apply hK;clear hK K;exact awp_ret (by simp)
def cmpL:List Int→List Int→Int
 |[],[]=>0
 |[],_::_=>-1
 |_::_,[]=>1
 |a::x,b::y=>if cmpI a b=0 then cmpL x y else cmpI a b
theorem cmpL_neg:∀{x y:List Int},decide (cmpL x y<0)=lexB x y
 |[],[]=>rfl
 |[],_::_=>rfl
 |_::_,[]=>rfl
 | a::x,b::y=>by
  have ih:=cmpL_neg (x:=x) (y:=y);rw[cmpL,lexB]
  rcases Int.lt_trichotomy a b with h|h|h
  ·have e:cmpI a b=-1:=by unfold cmpI;rw[if_pos h]
   rw[if_neg (by rw[e];omega),e];simp[h]
  ·have e:cmpI a b=0:=by unfold cmpI;rw[if_neg (by omega),if_neg (by omega)]
   rw[if_pos e,ih];subst h;simp
  ·have e:cmpI a b=1:=by unfold cmpI;rw[if_neg (by omega),if_pos h]
   have h1:¬a<b:=by omega
   have h2:¬a=b:=by omega
   rw[if_neg (by rw[e];omega),e];simp[h1,h2]
def WOk (x:Prt):Prop:=x.way.length≤1000∧∀m∈x.way,0≤m.Rail∧m.Rail≤1000
theorem swp_ok {l:List Prt} {i j:Nat} (h:∀x∈l,WOk x) (hi:i<l.length) (hj:j<l.length):∀x∈swpG l i j,WOk x:=fun x hx=>h x ((swpG_perm hi hj).subset hx)
theorem gd_mem {l:List Prt} {i:Nat} (hi:i<l.length):gd l i∈l:=List.mem_of_getElem? (getD_at hi)
theorem c_pLess1 (a b:Move) (ha:0≤a.Rail∧a.Rail≤1000) (hb:0≤b.Rail∧b.Rail≤1000):PureCall Tryz.prog 256 [a.av,b.av] (I (cmpI (numM a) (numM b))):=by
 have h1:=c_number a ha.1 (by omega);have h2:=c_number b hb.1 (by omega);refine PureCall.of_body Tryz.func256 rfl (by decide) (by simp[Tryz.ntmps256]) ?_;simp only[Tryz.ntmps256,Tryz.results256];refine aS fun K hK=>?_;simp -dsimp;apply hK;clear hK K;refine awp_sd mixed rfl fun K hK=>?_;simp -dsimp;refine callK_intro _ (h1) (by simp) ?_;simp -dsimp;refine callK_intro _ (h2) (by simp) ?_;simp -dsimp;refine callK_intro _ (c_Compare (numM a) (numM b)) (by simp) ?_;simp -dsimp;refine hK _ _ _ (by decide+kernel) ?_;clear hK K;exact awp_ret (by simp)
theorem c_CmpF (x y:List Move) (hx:x.length≤1000∧∀m∈x,0≤m.Rail∧m.Rail≤1000) (hy:y.length≤1000∧∀m∈y,0≤m.Rail∧m.Rail≤1000):PureCall Tryz.prog 255 [.lst 2 (x.map Move.cells), .lst 2 (y.map Move.cells), .clo 256 []] (I (cmpL (nums x) (nums y))):=by
 refine PureCall.of_body Tryz.func255 rfl (by decide) (by simp[Tryz.ntmps255]) ?_;simp only[Tryz.ntmps255,Tryz.results255];refine aS fun K hK=>?_;simp -dsimp;apply hK;clear hK K;refine awp_seq_k fun K1 hK1=>?_;refine aS fun K hK=>?_;simp -dsimp;apply hK;clear hK K;refine awp_block ?_;refine awp_prune [0,1,2,11,12,13] ?_;simp only[zP,Nat.reduceEqDiff,reduceIte];refine awp_loop_l [0,1,2,11,12] (α:=Nat) (fun i=>[(13,I i)]) (fun _=>[]) (fun i=>i≤x.length∧i≤y.length∧cmpL (nums (x.drop i)) (nums (y.drop i))=cmpL (nums x) (nums y)) (fun i=>x.length-i) 0 ?_ ?_ ?_
 ·exact⟨Nat.zero_le _,Nat.zero_le _,by simp⟩
 ·exact sub_same (by simp)
 rintro i ⟨i1,i2,i3⟩;simp only[zP,Nat.reduceEqDiff,reduceIte];refine aS fun K hK=>?_;simp -dsimp;apply hK;clear hK K;refine awp_seq_k fun K2 hK2=>?_;refine awp_cond rfl (fun hc0=>?_) (fun hc0=>?_)
 ·have hi:i<x.length:=by simpa using hc0
  obtain⟨a,ha⟩:∃a,x[i]?=some a:=⟨_,List.getElem?_eq_getElem hi⟩;have wi:=zW i (by omega);have ex:x.drop i=a::x.drop (i+1):=by rw[List.drop_eq_getElem_cons hi,(List.getElem?_eq_some_iff.1 ha).2]
  have hma:=hx.2 a (List.mem_of_getElem? ha);refine awp_skip ?_;simp only[zT,reduceIte,Nat.reduceEqDiff];refine hK2 _ _ ?_;refine awp_prune [0,1,2,11,12,13] ?_;simp only[zP,Nat.reduceEqDiff,reduceIte];refine awp_seq_k fun K3 hK3=>?_;refine awp_block ?_;refine aS fun K hK=>?_;simp -dsimp [ha];apply hK;clear hK K;refine awp_seq_k fun K4 hK4=>?_;refine aS fun K hK=>?_;simp -dsimp;apply hK;clear hK K;refine awp_cond rfl (fun hc1=>?_) (fun hc1=>?_)
  ·have hiy:y.length≤i:=by simpa using hc1
   refine aS fun K hK=>?_;simp -dsimp;apply hK;clear hK K;have e:cmpL (nums x) (nums y)=1:=by rw[←i3,ex,List.drop_eq_nil_of_le hiy];rfl
   exact awp_ret (by simp[e])
  ·have hiy:i<y.length:=by have:¬y.length≤i:=(by simpa using hc1);omega
   obtain⟨b,hb⟩:∃b,y[i]?=some b:=⟨_,List.getElem?_eq_getElem hiy⟩;have ey:y.drop i=b::y.drop (i+1):=by rw[List.drop_eq_getElem_cons hiy,(List.getElem?_eq_some_iff.1 hb).2]
   have hmb:=hy.2 b (List.mem_of_getElem? hb);have hca:=c_pLess1 a b hma hmb;have i3':(if cmpI (numM a) (numM b)=0 then cmpL (nums (x.drop (i+1))) (nums (y.drop (i+1)))else cmpI (numM a) (numM b))=cmpL (nums x) (nums y):=by rw[←i3,ex,ey];rfl
   refine awp_skip ?_;simp only[zT,reduceIte,Nat.reduceEqDiff];refine hK4 _ _ ?_;refine awp_prune [0,1,2,7,8,11,12,13] ?_;simp only[zP,Nat.reduceEqDiff,reduceIte];refine aS fun K hK=>?_;simp -dsimp [hb];apply hK;clear hK K;refine aS fun K hK=>?_;simp -dsimp;refine callK_intro _ (hca) (by simp) ?_;simp -dsimp;apply hK;clear hK K;refine aS fun K hK=>?_;simp -dsimp;apply hK;clear hK K;refine awp_cond rfl (fun hc2=>?_) (fun hc2=>?_)
   ·have h0:¬cmpI (numM a) (numM b)=0:=by simpa using hc2
    rw[if_neg h0]at i3';refine aS fun K hK=>?_;simp -dsimp;apply hK;clear hK K;exact awp_ret (by simp[i3'])
   ·have h0:cmpI (numM a) (numM b)=0:=by simpa using hc2
    rw[if_pos h0]at i3';refine awp_skip ?_;simp only[zT,reduceIte,Nat.reduceEqDiff];refine hK3 _ _ ?_;refine awp_prune [0,1,2,11,12,13] ?_;simp only[zP,Nat.reduceEqDiff,reduceIte];refine aR fun K hK=>?_;simp -dsimp [wi];apply hK;clear hK K;simp only[zT,reduceIte,Nat.reduceEqDiff];exact⟨i+1,⟨by omega,by omega,i3'⟩,by omega,sub_rb [] rfl (by simp) (by simp)⟩
 ·have hi:i=x.length:=by have:¬i<x.length:=(by simpa using hc0);omega
  rw[List.drop_eq_nil_of_le (by omega)]at i3;refine awp_exit ?_;simp only[zT,reduceIte,Nat.reduceEqDiff];refine hK1 _ _ ?_;refine awp_prune [0,1] ?_;simp only[zP,Nat.reduceEqDiff,reduceIte];refine awp_seq_k fun K5 hK5=>?_;refine aS fun K hK=>?_;simp -dsimp;apply hK;clear hK K;refine awp_cond rfl (fun hc3=>?_) (fun hc3=>?_)
  ·have hl:x.length<y.length:=by simpa using hc3
   refine aS fun K hK=>?_;simp -dsimp;apply hK;clear hK K;have e:cmpL (nums x) (nums y)=-1:=by rw[←i3];obtain⟨b,hb⟩:∃b,y[i]?=some b:=⟨_,List.getElem?_eq_getElem (by omega)⟩;rw[List.drop_eq_getElem_cons (by omega:i<y.length)];rfl
   exact awp_ret (by simp[e])
  ·have hl:¬x.length<y.length:=by simpa using hc3
   refine awp_skip ?_;simp only[zT,reduceIte,Nat.reduceEqDiff];refine hK5 _ _ ?_;refine awp_prune [] ?_;simp only[zP,Nat.reduceEqDiff,reduceIte];refine aS fun K hK=>?_;simp -dsimp;apply hK;clear hK K;have e:cmpL (nums x) (nums y)=0:=by rw[←i3,List.drop_eq_nil_of_le (by omega)];rfl
   exact awp_ret (by simp[e])
theorem c_pLess (l:List Prt) (i j:Nat) (a b:Prt) (hi:l[i]?=some a) (hj:l[j]?=some b) (ha:WOk a) (hb:WOk b):PureCall Tryz.prog 250 [.lst 3 (l.map Prt.cells),I i,I j] (Bo (ltP a b)):=by
 have hor:=c_Or [cmpI a.Len b.Len,cmpI a.Mv b.Mv,cmpL (nums a.way) (nums b.way)] (by simp);have hcf:=c_CmpF a.way b.way ha hb;have hlx:=cmpL_neg (x:=nums a.way) (y:=nums b.way);simp only[List.map_cons,List.map_nil]at hor;refine PureCall.of_body Tryz.func250 rfl (by decide) (by simp[Tryz.ntmps250]) ?_;simp only[Tryz.ntmps250,Tryz.results250];refine aS fun K hK=>?_;simp -dsimp;apply hK;clear hK K;refine awp_sd mixed rfl fun K hK=>?_;simp -dsimp [hi,hj];refine callK_intro _ (c_Compare a.Len b.Len) (by simp) ?_;simp -dsimp [hi,hj];refine callK_intro _ (c_Compare a.Mv b.Mv) (by simp) ?_;simp -dsimp [hi,hj];refine callK_intro _ (hcf) (by simp) ?_;simp -dsimp [hi,hj];refine callK_intro _ (hor) (by simp) ?_;simp -dsimp [hi,hj];refine hK _ _ _ (by decide+kernel) ?_;clear hK K;refine awp_ret ?_;simp;simp only[ltP,←hlx,orI,cmpI];generalize cmpL (nums a.way) (nums b.way)=z;rcases Int.lt_trichotomy a.Len b.Len with h|h|h<;>rcases Int.lt_trichotomy a.Mv b.Mv with h'|h'|h'<;>(try simp[h,h'])<;>(repeat' split)<;>(try simp_all)<;>omega
theorem m_pSwap (l:List Prt) (n i j:Nat) (a b:Prt) (hi:l[i]?=some a) (hj:l[j]?=some b) (hin:i<n) (hjn:j<n) (hn:n≤l.length):MutCall Tryz.prog 253 [.row 0 0 n,I i,I j] [some (.els 3 (l.map Prt.cells))] [] (.tup []) [some (.els 3 ((swpG l i j).map Prt.cells))] []:=by
 have hs:(((l.map Prt.cells).set i b.cells).set j a.cells)=(swpG l i j).map Prt.cells:=by simp[swpG,List.map_set,gd,List.getD_eq_getElem?_getD,hi,hj]
 have hj2:((l.map Prt.cells).set i [.lst 2 (b.way.map Move.cells),I b.Len,I b.Mv])[j]?=some [.lst 2 (b.way.map Move.cells),I b.Len,I b.Mv]:=by
  rw[List.getElem?_set];obtain⟨hjl,_⟩:=List.getElem?_eq_some_iff.1 hj;obtain⟨hil,_⟩:=List.getElem?_eq_some_iff.1 hi
  split
  ·rw[if_pos (by simpa using hil)]
  ·rw[List.getElem?_map,hj];rfl
 simp only[Prt.cells]at hs;refine MutCall.of_bodyG [0] Tryz.func253 rfl (by decide) (by simp[Tryz.ntmps253]) rfl rfl ?_;intro J hJ;simp only[Tryz.ntmps253,Tryz.results253];refine gwp_draw mixed rfl (by decide) rfl rfl fun K hK=>?_;simp -dsimp [hi,hj,hin,hjn,hj2];refine hK _ _ _ (by decide+kernel) ?_;clear hK K
 try simp only[zT,reduceIte,Nat.reduceEqDiff]
 exact⟨[some 0],rfl,by simp,by simp[←hs],by simp;omega,by simp[resP,tupOf]⟩
theorem c_pLessT (l:List Prt) (hw:∀x∈l,WOk x) (n i j:Nat) (x y:Int) (hx:x=i) (hy:y=j) (hn:n≤l.length) (hi:i<n) (hj:j<n):PureCall Tryz.prog 250 [if n≤l.length then .lst 3 ((l.map Prt.cells).take n)else .any,I x,I y] (Bo (ltP (gd l i) (gd l j))):=by
 have h:=c_pLess (l.take n) i j (gd l i) (gd l j) (by rw[List.getElem?_take,if_pos hi];exact getD_at (by omega)) (by rw[List.getElem?_take,if_pos hj];exact getD_at (by omega)) (hw _ (gd_mem (by omega))) (hw _ (gd_mem (by omega)));subst hx hy;rw[if_pos hn,←List.map_take];exact h
theorem c_pLenT (l:List Prt) (n:Nat) (hn:n≤l.length):PureCall Tryz.prog 48 [if n≤l.length then .lst 3 ((l.map Prt.cells).take n)else .any] (I n):=by
 have h:=c_pLen (l.take n);rw[List.length_take,Nat.min_eq_left hn]at h;rw[if_pos hn,←List.map_take];exact h
theorem m_pSwap' (l:List Prt) (n i j:Nat) (x y:Int) (hx:x=i) (hy:y=j) (hin:i<n) (hjn:j<n) (hn:n≤l.length):MutCall Tryz.prog 253 [.row 0 0 n,I x,I y] [some (.els 3 (l.map Prt.cells))] [] (.tup []) [some (.els 3 ((swpG l i j).map Prt.cells))] []:=by
 subst hx hy;exact m_pSwap l n i j _ _ (getD_at (by omega)) (getD_at (by omega)) hin hjn hn
abbrev qAVp:AV:= .ifc 127 (.ptr 0 0 0)
theorem m_upP (l:List Prt) (n j k:Nat) (hj:j<n) (hn:n≤l.length) (hk:j<k) (hb:l.length≤100000000) (hw:∀x∈l,WOk x):
  MutCall Tryz.prog 92 [qAVp,I j] [some (.els 1 [[.row 1 0 n]])] [some (.els 3 (l.map Prt.cells))] (.tup []) [some (.els 1 [[.row 1 0 n]])] [some (.els 3 ((upL ltP k l j).map Prt.cells))]:=by
 refine MutCall.of_bodyG [0] Tryz.func92 rfl (by decide) (by simp[Tryz.ntmps92]) rfl rfl ?_;intro J hJ;simp only[Tryz.ntmps92,Tryz.results92];refine gwp_block ?_;refine gwp_prune [0,1] (Or.inr (by simp)) ?_;simp only[zP,Nat.reduceEqDiff,reduceIte];refine gwp_loop_l [0] (α:=List Prt×Nat×Nat) (fun s=>[(1,I s.2.1)]) (fun s=>[some (.els 1 [[.row 1 0 n]]),some (.els 3 (s.1.map Prt.cells))]) (fun s=>s.1.length=l.length∧(∀x∈s.1,WOk x)∧s.2.1<n∧s.2.1<s.2.2∧upL ltP s.2.2 s.1 s.2.1=upL ltP k l j) (fun s=>s.2.2) (l,j,k) ?_ ?_ ?_
 ·exact⟨rfl,hw,hj,hk,rfl⟩
 ·exact gsub (sub_same (by simp)) (by simp)
 rintro⟨l',j',k'⟩ ⟨i1,iw,i2,i3,i4⟩;simp only at i1 i2 i3 i4 ⊢;obtain⟨k',rfl⟩:∃q,k'=q+1:=⟨k'-1,by omega⟩;have w1:IntKind.i64.wrap ((j':Int)-1)=(j':Int)-1:=wrap_in (by omega) (by omega);have w2:IntKind.i64.wrap (((j':Int)-1).tdiv 2)=(((j'-1)/2:Nat):Int):=by rcases j' with _|q;rfl;rw[show(((q+1:Nat):Int)-1)=(q:Int)by omega,Int.tdiv_eq_ediv_of_nonneg (by omega),wrap_in (by omega) (by omega)];simp
 obtain⟨i',hi'⟩:∃i',i'=(j'-1)/2:=⟨_,rfl⟩;rw[←hi']at w2;have hil:i'≤j':=by omega
 simp only[upL,←hi']at i4;simp only[zP,Nat.reduceEqDiff,reduceIte];refine gwp_block ?_;refine gS fun K hK=>?_;simp -dsimp [w1,w2];apply hK;clear hK K;refine gwp_seq_k fun K1 hK1=>?_;refine gS fun K hK=>?_;simp -dsimp;refine callK_may _ (fun hm=>c_pLessT l' iw n j' i' _ _ rfl rfl (by omega) (by omega) (by omega)) (by simp) ?_;simp -dsimp;apply hK;clear hK K;refine gwp_cond rfl (fun hc0=>?_) (fun hc0=>?_)
 ·have h0:i'=j'∨ltP (gd l' j') (gd l' i')=false:=by simp at hc0;rcases hc0 with h|h;exact Or.inl (by omega);exact Or.inr h
  have hfin:upL ltP k l j=l':=by rw[←i4,if_pos h0]
  refine gwp_exit ?_
  try simp only[zT,reduceIte,Nat.reduceEqDiff]
  exact⟨[some 0,some 1],rfl,by simp,by simp[hfin],by simp,by simp[resP,tupOf]⟩
 ·have hne:¬(i'=j'∨ltP (gd l' j') (gd l' i')=false):=by rintro(h|h);simp[h]at hc0;rw[h]at hc0;simp at hc0
  have hne1:i'≠j':=fun h=>hne (Or.inl h);rw[if_neg hne]at i4;refine gwp_skip ?_;simp only[zT,reduceIte,Nat.reduceEqDiff];refine hK1 _ _ ?_;refine gwp_prune [0,1,4] (Or.inr (by simp)) ?_;simp only[zP,Nat.reduceEqDiff,reduceIte];refine gS fun K hK=>?_;simp -dsimp;refine callK_mut [1] [] [none,some 0] (m_pSwap' l' n i' j' _ _ rfl rfl (by omega) (by omega) (by omega)) (by decide) rfl (by simp) (by simp) rfl (by simp) ?_;simp -dsimp;apply hK;clear hK K;refine gR fun K hK=>?_;simp -dsimp;apply hK;clear hK K;simp only[zT,reduceIte,Nat.reduceEqDiff];exact⟨(swpG l' i' j',i',k'),⟨by rw[swpG_len];exact i1,swp_ok iw (by omega) (by omega),by show i'<n;omega,by show i'<k';omega,i4⟩,by simp,gsub (sub_rb [some 0,some 1] rfl (by simp) (by simp)) (by simp)⟩
def downIp:Nat→List Prt→Nat→Nat→Nat
 |0,_,i,_=>i
 |k+1,l,i,n=>if n≤2*i+1∨ltP (gd l (kidL ltP l i n)) (gd l i)=false then i else downIp k (swpG l i (kidL ltP l i n)) (kidL ltP l i n) n
theorem m_downP (l:List Prt) (n' n i k:Nat) (hn:n≤n') (hn':n'≤l.length) (hi:i<n') (hk:n<i+k) (hb:l.length≤100000000) (hw:∀x∈l,WOk x):
  ∃b,MutCall Tryz.prog 93 [qAVp,I i,I n] [some (.els 1 [[.row 1 0 n']])] [some (.els 3 (l.map Prt.cells))] (Bo b) [some (.els 1 [[.row 1 0 n']])] [some (.els 3 ((downL ltP k l i n).map Prt.cells))]:=by
 refine⟨decide (i<downIp k l i n),?_⟩;refine MutCall.of_bodyG [0] Tryz.func93 rfl (by decide) (by simp[Tryz.ntmps93]) rfl rfl ?_;intro J hJ;simp only[Tryz.ntmps93,Tryz.results93];refine gS fun K hK=>?_;simp -dsimp;apply hK;clear hK K;refine gS fun K hK=>?_;simp -dsimp;apply hK;clear hK K;refine gwp_seq_k fun K1 hK1=>?_;refine gwp_block ?_;refine gwp_prune [0,1,2,7] (Or.inr (by simp)) ?_;simp only[zP,Nat.reduceEqDiff,reduceIte];refine gwp_loop_l [0,1,2] (α:=List Prt×Nat×Nat) (fun s=>[(7,I s.2.1)]) (fun s=>[some (.els 1 [[.row 1 0 n']]),some (.els 3 (s.1.map Prt.cells))]) (fun s=>s.1.length=l.length∧(∀x∈s.1,WOk x)∧s.2.1<n'∧n<s.2.1+s.2.2∧downL ltP s.2.2 s.1 s.2.1 n=downL ltP k l i n∧downIp s.2.2 s.1 s.2.1 n=downIp k l i n) (fun s=>s.2.2) (l,i,k) ?_ ?_ ?_
 ·exact⟨rfl,hw,hi,hk,rfl,rfl⟩
 ·exact gsub (sub_same (by simp)) (by simp)
 rintro⟨l',i',k'⟩ ⟨i1,iw,i2,i3,i4,i5⟩;simp only at i1 i2 i3 i4 i5 ⊢;have w0:IntKind.i64.wrap (2*(i':Int))=2*(i':Int):=wrap_in (by omega) (by omega);have w1:IntKind.i64.wrap (2*(i':Int)+1)=2*(i':Int)+1:=wrap_in (by omega) (by omega);have w2:IntKind.i64.wrap (2*(i':Int)+1+1)=2*(i':Int)+2:=by rw[show 2*(i':Int)+1+1=2*(i':Int)+2 by omega];exact wrap_in (by omega) (by omega)
 simp only[zP,Nat.reduceEqDiff,reduceIte];refine gwp_block ?_;refine gS fun K hK=>?_;simp -dsimp [w0,w1];apply hK;clear hK K;refine gwp_seq_k fun K2 hK2=>?_;refine gS fun K hK=>?_;simp -dsimp;apply hK;clear hK K;refine gwp_cond rfl (fun hc0=>?_) (fun hc0=>?_)
 ·have h0:n≤2*i'+1:=by simp at hc0;omega
  have hfin:downL ltP k l i n=l'∧downIp k l i n=i':=by rcases k' with _|k';exact⟨i4.symm,i5.symm⟩;simp only[downL,downIp,if_pos (Or.inl h0:n≤2*i'+1∨_)]at i4 i5;exact⟨i4.symm,i5.symm⟩
  refine gwp_exit ?_;simp only[zT,reduceIte,Nat.reduceEqDiff];refine hK1 _ _ ?_;refine gwp_prune [0,1,7] (Or.inr (by simp)) ?_;simp only[zP,Nat.reduceEqDiff,reduceIte];refine gS fun K hK=>?_;simp -dsimp;apply hK;clear hK K;exact gwp_ret ⟨[some 0,some 1],rfl,by simp,by simp[hfin.1],by simp,by simp[resP,tupOf,hfin.2]⟩
 ·have h0:2*i'+1<n:=by simp at hc0;omega
  obtain⟨k',rfl⟩:∃q,k'=q+1:=⟨k'-1,by omega⟩;simp only[downL,downIp]at i4 i5;have hkid:kidL ltP l' i' n=if 2*i'+2<n∧ltP (gd l' (2*i'+2)) (gd l' (2*i'+1))=true then 2*i'+2 else 2*i'+1:=rfl;refine gwp_skip ?_;simp only[zT,reduceIte,Nat.reduceEqDiff];refine hK2 _ _ ?_;refine gwp_prune [0,1,2,7,8] (Or.inr (by simp)) ?_;simp only[zP,Nat.reduceEqDiff,reduceIte];refine gS fun K hK=>?_;simp -dsimp;apply hK;clear hK K;refine gwp_seq_k fun K3 hK3=>?_;refine gS fun K hK=>?_;simp -dsimp [w2];apply hK;clear hK K;refine gS fun K hK=>?_;simp -dsimp;refine callK_may _ (fun hm=>c_pLessT l' iw n' (2*i'+2) (2*i'+1) _ _ (by omega) (by omega) (by omega) (by simp at hm;omega) (by omega)) (by simp) ?_;simp -dsimp;apply hK;clear hK K;refine gwp_cond rfl (fun hc1=>?_) (fun hc1=>?_)
  ·have h1:2*i'+2<n∧ltP (gd l' (2*i'+2)) (gd l' (2*i'+1))=true:=by rw[Bool.and_eq_true,decide_eq_true_eq]at hc1;exact⟨by omega,hc1.2⟩
   rw[if_pos h1]at hkid;refine gR fun K hK=>?_;simp -dsimp;apply hK;clear hK K;simp only[zT,reduceIte,Nat.reduceEqDiff];refine hK3 _ _ ?_;refine gwp_prune [0,1,2,7,9] (Or.inr (by simp)) ?_;simp only[zP,Nat.reduceEqDiff,reduceIte];refine gwp_seq_k fun K4 hK4=>?_;refine gS fun K hK=>?_;simp -dsimp;refine callK_intro _ (c_pLessT l' iw n' (2*i'+2) i' _ _ (by omega) rfl (by omega) (by omega) (by omega)) (by simp) ?_;simp -dsimp;apply hK;clear hK K;refine gwp_cond rfl (fun hc2=>?_) (fun hc2=>?_)
   ·rw[hkid]at i4 i5;simp only[Bool.not_eq_true']at hc2;rw[if_pos (Or.inr hc2)]at i4 i5;have hfin:downL ltP k l i n=l'∧downIp k l i n=i':=⟨i4.symm,i5.symm⟩;refine gwp_exit ?_;simp only[zT,reduceIte,Nat.reduceEqDiff];refine hK1 _ _ ?_;refine gwp_prune [0,1,7] (Or.inr (by simp)) ?_;simp only[zP,Nat.reduceEqDiff,reduceIte];refine gS fun K hK=>?_;simp -dsimp;apply hK;clear hK K;exact gwp_ret ⟨[some 0,some 1],rfl,by simp,by simp[hfin.1],by simp,by simp[resP,tupOf,hfin.2]⟩
   ·rw[hkid]at i4 i5;simp only[Bool.not_eq_false']at hc2;rw[hc2,if_neg (by simp;omega)]at i4 i5;refine gwp_skip ?_;simp only[zT,reduceIte,Nat.reduceEqDiff];refine hK4 _ _ ?_;refine gwp_prune [0,1,2,7,9] (Or.inr (by simp)) ?_;simp only[zP,Nat.reduceEqDiff,reduceIte];refine gS fun K hK=>?_;simp -dsimp;refine callK_mut [1] [] [none,some 0] (m_pSwap' l' n' i' (2*i'+2) _ (2*(i':Int)+2) rfl (by omega) (by omega) (by omega) (by omega)) (by decide) rfl (by simp) (by simp) rfl (by simp) ?_;simp -dsimp;apply hK;clear hK K;refine gR fun K hK=>?_;simp -dsimp;apply hK;clear hK K;simp only[zT,reduceIte,Nat.reduceEqDiff];exact⟨(swpG l' i' (2*i'+2),2*i'+2,k'),⟨by rw[swpG_len];exact i1,swp_ok iw (by omega) (by omega),by show 2*i'+2<n';omega,by show n<2*i'+2+k';omega,i4,i5⟩,by simp,gsub (sub_rb [some 0,some 1] rfl (by simp) (by simp)) (by simp)⟩
  ·have h1:¬(2*i'+2<n∧ltP (gd l' (2*i'+2)) (gd l' (2*i'+1))=true):=by rintro⟨g1,g2⟩;rw[g2]at hc1;simp at hc1;omega
   rw[if_neg h1]at hkid;refine gwp_skip ?_;simp only[zT,reduceIte,Nat.reduceEqDiff];refine hK3 _ _ ?_;refine gwp_prune [0,1,2,7,9] (Or.inr (by simp)) ?_;simp only[zP,Nat.reduceEqDiff,reduceIte];refine gwp_seq_k fun K5 hK5=>?_;refine gS fun K hK=>?_;simp -dsimp;refine callK_intro _ (c_pLessT l' iw n' (2*i'+1) i' _ _ (by omega) rfl (by omega) (by omega) (by omega)) (by simp) ?_;simp -dsimp;apply hK;clear hK K;refine gwp_cond rfl (fun hc2=>?_) (fun hc2=>?_)
   ·rw[hkid]at i4 i5;simp only[Bool.not_eq_true']at hc2;rw[if_pos (Or.inr hc2)]at i4 i5;have hfin:downL ltP k l i n=l'∧downIp k l i n=i':=⟨i4.symm,i5.symm⟩;refine gwp_exit ?_;simp only[zT,reduceIte,Nat.reduceEqDiff];refine hK1 _ _ ?_;refine gwp_prune [0,1,7] (Or.inr (by simp)) ?_;simp only[zP,Nat.reduceEqDiff,reduceIte];refine gS fun K hK=>?_;simp -dsimp;apply hK;clear hK K;exact gwp_ret ⟨[some 0,some 1],rfl,by simp,by simp[hfin.1],by simp,by simp[resP,tupOf,hfin.2]⟩
   ·rw[hkid]at i4 i5;simp only[Bool.not_eq_false']at hc2;rw[hc2,if_neg (by simp;omega)]at i4 i5;refine gwp_skip ?_;simp only[zT,reduceIte,Nat.reduceEqDiff];refine hK5 _ _ ?_;refine gwp_prune [0,1,2,7,9] (Or.inr (by simp)) ?_;simp only[zP,Nat.reduceEqDiff,reduceIte];refine gS fun K hK=>?_;simp -dsimp;refine callK_mut [1] [] [none,some 0] (m_pSwap' l' n' i' (2*i'+1) _ (2*(i':Int)+1) rfl (by omega) (by omega) (by omega) (by omega)) (by decide) rfl (by simp) (by simp) rfl (by simp) ?_;simp -dsimp;apply hK;clear hK K;refine gR fun K hK=>?_;simp -dsimp;apply hK;clear hK K;simp only[zT,reduceIte,Nat.reduceEqDiff];exact⟨(swpG l' i' (2*i'+1),2*i'+1,k'),⟨by rw[swpG_len];exact i1,swp_ok iw (by omega) (by omega),by show 2*i'+1<n';omega,by show n<2*i'+1+k';omega,i4,i5⟩,by simp,gsub (sub_rb [some 0,some 1] rfl (by simp) (by simp)) (by simp)⟩
abbrev pAV (x:Prt):AV:= .ifc 133 x.av
abbrev prow (l:List Prt):Option ARow:=some (.els 3 (l.map Prt.cells))
theorem m_pPush (l:List Prt) (n:Nat) (x:Prt) (hn:n≤l.length) (hb:l.length≤90000000):
  MutCall Tryz.prog 252 [.ptr 0 0 0,pAV x] [hrow 1 n] [prow l] (.tup []) [hrow 1 (n+1)] [prow (l.take n++[x])]:=by
 have f1:Fits (n+1) 41:=by unfold Fits;omega
 refine MutCall.of_bodyG [0] Tryz.func252 rfl (by decide) (by simp[Tryz.ntmps252]) rfl rfl ?_;intro J hJ;simp only[Tryz.ntmps252,Tryz.results252];refine gwp_draw mixed rfl (by decide) rfl rfl fun K hK=>?_;simp -dsimp [f1,hn];refine hK _ _ _ (by decide+kernel) ?_;clear hK K
 try simp only[zT,reduceIte,Nat.reduceEqDiff]
 exact⟨[some 0,some 3],rfl,by simp,by simp,by simp,by simp[resP,tupOf]⟩
theorem m_pPop (l:List Prt) (n:Nat) (x:Prt) (h1:1≤n) (hn:n≤l.length) (hb:l.length≤90000000) (hx:l[n-1]?=some x):
  MutCall Tryz.prog 251 [.ptr 0 0 0] [hrow 1 n] [prow l] (pAV x) [hrow 1 (n-1)] [prow l]:=by
 have w1:IntKind.i64.wrap ((n:Int)-1)=((n-1:Nat):Int):=by rw[wrap_in (by omega) (by omega)];omega
 have h2:n-1<n:=by omega
 have h3:n-1≤l.length:=by omega
 have h4:n-1≤n:=by omega
 have h5:¬n=0:=by omega
 refine MutCall.of_bodyG [0] Tryz.func251 rfl (by decide) (by simp[Tryz.ntmps251]) rfl rfl ?_;intro J hJ;simp only[Tryz.ntmps251,Tryz.results251];refine gS fun K hK=>?_;simp -dsimp;apply hK;clear hK K;refine gwp_sd mixed rfl (by decide) rfl rfl fun K hK=>?_;simp -dsimp [w1,hx,h2,hn];refine hK _ _ _ (by decide+kernel) ?_;clear hK K;refine gwp_sd mixed rfl (by decide) rfl rfl fun K hK=>?_;simp -dsimp [w1,h2,h3,h4,h5,hn];refine hK _ _ _ (by decide+kernel) ?_;clear hK K;refine gS fun K hK=>?_;simp -dsimp;apply hK;clear hK K;exact gwp_ret ⟨[some 0,some 1],rfl,by simp,by simp,by simp,by simp[resP,tupOf]⟩
theorem m_pHush (l:List Prt) (n:Nat) (x:Prt) (hn:n≤l.length) (hb:l.length≤90000000) (hw:∀y∈l,WOk y) (hx:WOk x):
  MutCall Tryz.prog 46 [qAVp,pAV x] [hrow 1 n] [prow l] (.tup []) [hrow 1 (n+1)] [prow (pushL ltP (l.take n) x)]:=by
 have hp:=m_pPush l n x hn hb;have hlen:(l.take n++[x]).length=n+1:=by simp;omega
 have hl:=c_pLenT (l.take n++[x]) (n+1) (by omega);have w1:IntKind.i64.wrap (n:Int)=n:=wrap_in (by omega) (by omega);have hu:=m_upP (l.take n++[x]) (n+1) n (n+1) (by omega) (by omega) (by omega) (by omega) (fun y hy=>by rw[List.mem_append]at hy;rcases hy with hy|hy;exact hw y (List.mem_of_mem_take hy);simp only[List.mem_singleton]at hy;subst hy;exact hx);have hpu:pushL ltP (l.take n) x=upL ltP (n+1) (l.take n++[x]) n:=by unfold pushL;rw[List.length_take,Nat.min_eq_left hn]
 rw[hpu];generalize l.take n++[x]=l' at hp hl hu hlen ⊢;refine MutCall.of_bodyG [0] Tryz.func46 rfl (by decide) (by simp[Tryz.ntmps46]) rfl rfl ?_;intro J hJ;simp only[Tryz.ntmps46,Tryz.results46];refine gS fun K hK=>?_;simp -dsimp;refine callK_mut [0] [1] [some 0,none,some 1] (hp) (by decide) rfl (by simp) (by simp) rfl (by simp) ?_;simp -dsimp;apply hK;clear hK K;refine gR fun K hK=>?_;simp -dsimp [w1];refine callK_intro _ (hl) (by simp) ?_;simp -dsimp [w1];refine callK_mut [0] [2] [some 0,none,none,some 1] (hu) (by decide) rfl (by simp) (by simp) rfl (by simp) ?_;simp -dsimp [w1];apply hK;clear hK K
 try simp only[zT,reduceIte,Nat.reduceEqDiff]
 exact⟨[some 0,some 3],rfl,by simp,by simp,by simp,by simp[resP,tupOf]⟩
theorem m_pHop (l:List Prt) (n:Nat) (h1:1≤n) (hn:n≤l.length) (hb:l.length≤90000000) (hw:∀y∈l,WOk y):
  MutCall Tryz.prog 49 [qAVp] [hrow 1 n] [prow l] (pAV (gd (popPE l n) (n-1))) [hrow 1 (n-1)] [prow (popPE l n)]:=by
 have hl:=c_pLenT l n hn;have w1:IntKind.i64.wrap ((n:Int)-1)=((n-1:Nat):Int):=by rw[wrap_in (by omega) (by omega)];omega
 have hs:=m_pSwap' l n 0 (n-1) 0 ((n-1:Nat):Int) rfl rfl (by omega) (by omega) hn;have hsl:=swpG_len l 0 (n-1);obtain⟨b,hd⟩:=m_downP (swpG l 0 (n-1)) n (n-1) 0 n (by omega) (by omega) (by omega) (by omega) (by omega) (swp_ok hw (by omega) (by omega));have hp:=m_pPop (popPE l n) n (gd (popPE l n) (n-1)) h1 (by rw[popPE_len];omega) (by rw[popPE_len];omega) (getD_at (by rw[popPE_len];omega));have he:downL ltP n (swpG l 0 (n-1)) 0 (n-1)=popPE l n:=rfl;rw[he]at hd;generalize gd (popPE l n) (n-1)=x at hp ⊢;generalize popPE l n=l' at hp hd ⊢;generalize swpG l 0 (n-1)=l'' at hs hd ⊢;refine MutCall.of_bodyG [0] Tryz.func49 rfl (by decide) (by simp[Tryz.ntmps49]) rfl rfl ?_;intro J hJ;simp only[Tryz.ntmps49,Tryz.results49];refine gS fun K hK=>?_;simp -dsimp;apply hK;clear hK K;refine gS fun K hK=>?_;simp -dsimp [w1];refine callK_intro _ (hl) (by simp) ?_;simp -dsimp [w1];apply hK;clear hK K;refine gS fun K hK=>?_;simp -dsimp;refine callK_mut [1] [] [none,some 0] (hs) (by decide) rfl (by simp) (by simp) rfl (by simp) ?_;simp -dsimp;apply hK;clear hK K;refine gS fun K hK=>?_;simp -dsimp;refine callK_mut [0] [1] [some 0,none,some 1] (hd) (by decide) rfl (by simp) (by simp) rfl (by simp) ?_;simp -dsimp;apply hK;clear hK K;refine gS fun K hK=>?_;simp -dsimp;refine callK_mut [0] [2] [some 0,none,none,some 1] (hp) (by decide) rfl (by simp) (by simp) rfl (by simp) ?_;simp -dsimp;apply hK;clear hK K;exact gwp_ret ⟨[some 0,some 3],rfl,by simp,by simp,by simp,by simp[resP,tupOf]⟩
end Go.Tram
end
section
namespace Go.Tram
open Go.AM Go.Proofs
theorem flat_m (l:List Move):(l.map Move.cells).all (fun e=>e.all flatC)=true:=by simp[flatC]
@[simp high] theorem flat_m_ren (l:List Move) (g:List (Option Nat)) (n:Nat):(l.map Move.cells).map (fun e=>e.map (renAV g n))=l.map Move.cells:=map_flatC (fun x h=>flatC_ren h g n) (flat_m l)
@[simp high] theorem flat_m_frzP (l:List Move) (H:Hp) (n:Nat):(l.map Move.cells).map (fun e=>e.map (frzP H n))=l.map Move.cells:=map_flatC (fun x h=>flatC_frzP h H n) (flat_m l)
abbrev nilS:AV:= .v (.slice none 0 0)
abbrev mLst (l:List Move):AV:= .lst 2 (l.map Move.cells)
@[simp] theorem takeM (l:List Move):List.take l.length (l.map Move.cells)=l.map Move.cells:=List.take_of_length_le (by simp)
theorem c_AppendSeq (f:FuncId) (sh:List AV) (m:Move) (ms:List Move) (hit:IterCall Tryz.prog f [.iptr [.iptr sh], .iptr m.cells] (ms.map fun m=>[m.av])) (hn:ms.length≤1000):PureCall Tryz.prog 123 [nilS, .clo f [.iptr [.iptr sh], .iptr m.cells]] (mLst ms):=by
 refine PureCall.of_bodyG Tryz.func123 rfl (by decide) (by simp[Tryz.ntmps123]) ?_;intro J hJ;simp only[Tryz.ntmps123,Tryz.results123];refine gS fun K hK=>?_;simp -dsimp;apply hK;clear hK K;refine gwp_seq_k fun K1 hK1=>?_;refine gS fun K hK=>?_;simp -dsimp;apply hK;clear hK K;refine gwp_block ?_;refine gwp_prune [2,6] (Or.inr (by simp)) ?_;simp only[zP,Nat.reduceEqDiff,reduceIte];refine gwp_range_s hJ [2,6] (fun n=>[some (.els 1 [[.row 1 0 n]]),some (.els 2 ((ms.take n).map Move.cells))]) (fun n=>n≤ms.length) rfl (hit) rfl (by simp) (by decide) (by decide) (by decide) (by intro z hz;obtain⟨q,_,rfl⟩:=List.mem_map.1 hz;rfl) ?_ ?_ ?_ ?_
 ·exact Nat.zero_le _
 ·exact(sub_nilc 0 0 0 2 (es:=[[.v (.slice none 0 0)]]) (e:=[.v (.slice none 0 0)]) (by simp) (by simp) (by simp)).trans (sub_same (by simp))
 ·intro n xv hxn hi l1 J1 hJ1;obtain⟨q,hq,rfl⟩:∃q,ms[n]?=some q∧[q.av]=xv:=by simpa using hxn
  have hnl:n<ms.length:=(List.getElem?_eq_some_iff.1 hq).1;have f1:Fits (n+1) 17:=fits_of (by omega) (by omega);have hts:ms.take (n+1)=ms.take n++[q]:=by rw[List.take_add_one,hq];rfl
  have htl:(ms.take n).length=n:=by rw[List.length_take];omega
  generalize ms.take n=l at hts htl ⊢;subst htl;simp only[List.zip_cons_cons,List.zip_nil_left,List.zip_nil_right,List.cons_append,List.nil_append];refine gR fun K hK=>?_;simp -dsimp;apply hK;clear hK K;simp only[onlyN];intro J2 hJ2;refine gwp_prune [2,5,6] (Or.inr (by simp)) ?_;simp only[zP,Nat.reduceEqDiff,reduceIte];refine gwp_block ?_;refine gR fun K hK=>?_;simp -dsimp [f1];apply hK;clear hK K;simp only[thenA,inBlockA,roundQ,reduceIte,Nat.reduceEqDiff,eq_self];refine⟨hnl,sub_rb [some 0,some 3] rfl (by simp) (by simp[hts])⟩
 ·intro hdone;simp only[zT,reduceIte,Nat.reduceEqDiff];refine hK1 _ _ ?_;refine gwp_prune [2] (Or.inr (by simp)) ?_;simp only[zP,Nat.reduceEqDiff,reduceIte];refine gS fun K hK=>?_;simp -dsimp;apply hK;clear hK K;exact gwp_ret (by simp)
theorem c_Collect (f:FuncId) (sh:List AV) (m:Move) (ms:List Move) (hit:IterCall Tryz.prog f [.iptr [.iptr sh], .iptr m.cells] (ms.map fun m=>[m.av])) (hn:ms.length≤1000):PureCall Tryz.prog 79 [.clo f [.iptr [.iptr sh], .iptr m.cells]] (mLst ms):=by
 have h:=c_AppendSeq f sh m ms hit hn;refine PureCall.of_body Tryz.func79 rfl (by decide) (by simp[Tryz.ntmps79]) ?_;simp only[Tryz.ntmps79,Tryz.results79];refine aS fun K hK=>?_;simp -dsimp;apply hK;clear hK K;refine aS fun K hK=>?_;simp -dsimp;refine callK_intro _ (h) (by simp) ?_;simp -dsimp;apply hK;clear hK K;exact awp_ret (by simp)
theorem nextL_len (p:Plan) (m:Move) (hv:validB p=true) (hm:movB p m=true):(nextL p m).length≤4:=by
 have hm':=movB_iff.1 hm;have ha:=at_in hv (e:=arrE m) hm'.1 hm'.2;have:=(node_kind (node_fine hv ha.1 ha.2)).2.1;unfold nextL;rw[List.length_map,srt_len];have h2:=nxTo_len p m (nodeAt p m).Ends.length;have h3:(nodeAt p m).Ends.length≤4:=this;omega
theorem c_tNext_t (p:Plan) (m:Move) (hv:validB p=true) (hm:movB p m=true):PureCall Tryz.prog 33 [p.av,m.av] (.tup [mLst (nextL p m),I 0]):=by
 have hop:=c_open_t p hv;have hh:=c_nhas p m.Rail m.Back hv;rw[show inr m.Rail 0 (p.Rails.length-1)=true from hm]at hh;have hnx:=c_tnext p m;have hco:=c_Collect _ _ _ (nextL p m) (c_next1 p m hv hm) (by have:=nextL_len p m hv hm;omega);generalize net p=sh at hop hh hnx hco;refine PureCall.of_body Tryz.func33 rfl (by decide) (by simp[Tryz.ntmps33]) ?_;simp only[Tryz.ntmps33,Tryz.results33];refine aS fun K hK=>?_;simp -dsimp;apply hK;clear hK K;refine aS fun K hK=>?_;simp -dsimp;refine callK_intro _ (hop) (by simp) ?_;simp -dsimp;apply hK;clear hK K;refine awp_seq_k fun K1 hK1=>?_;refine aS fun K hK=>?_;simp -dsimp;refine callK_may _ (fun hm=>hh) (by simp) ?_;simp -dsimp;apply hK;clear hK K;refine awp_cond rfl (fun hc0=>?_) (fun hc0=>?_)
 ·simp at hc0
 ·refine awp_skip ?_;simp only[zT,reduceIte,Nat.reduceEqDiff];refine hK1 _ _ ?_;refine awp_prune [3,6] ?_;simp only[zP,Nat.reduceEqDiff,reduceIte];refine aS fun K hK=>?_;simp -dsimp;refine callK_intro _ (hnx) (by simp) ?_;simp -dsimp;refine callK_intro _ (hco) (by simp) ?_;simp -dsimp;apply hK;clear hK K;exact awp_ret (by simp)
theorem c_tDistances_t (p:Plan) (m:Move) (hv:validB p=true) (hm:movB p m=true):PureCall Tryz.prog 36 [p.av,m.av] (.tup [.lst 1 ((dEnd p (numM m)).ln.map nCell),I 0]):=by
 have hm':=movB_iff.1 hm;have hR:=(valid_parts hv).2.1;have hop:=c_open_t p hv;have hh:=c_nhas p m.Rail m.Back hv;rw[show inr m.Rail 0 (p.Rails.length-1)=true from hm]at hh;have hnb:0≤numM m∧numM m<2*p.Rails.length:=by unfold numM;split<;>omega
 have hd:=c_distances p (numM m) hv hnb.1 hnb.2;generalize net p=sh at hop hh hd;refine PureCall.of_body Tryz.func36 rfl (by decide) (by simp[Tryz.ntmps36]) ?_;simp only[Tryz.ntmps36,Tryz.results36];refine aS fun K hK=>?_;simp -dsimp;apply hK;clear hK K;refine aS fun K hK=>?_;simp -dsimp;refine callK_intro _ (hop) (by simp) ?_;simp -dsimp;apply hK;clear hK K;refine awp_seq_k fun K1 hK1=>?_;refine aS fun K hK=>?_;simp -dsimp;refine callK_may _ (fun hm=>hh) (by simp) ?_;simp -dsimp;apply hK;clear hK K;refine awp_cond rfl (fun hc0=>?_) (fun hc0=>?_)
 ·simp at hc0
 ·refine awp_skip ?_;simp only[zT,reduceIte,Nat.reduceEqDiff];refine hK1 _ _ ?_;refine awp_prune [3,6] ?_;simp only[zP,Nat.reduceEqDiff,reduceIte];refine aS fun K hK=>?_;simp -dsimp;refine callK_intro _ (c_number m hm'.1 (by omega)) (by simp) ?_;simp -dsimp;refine callK_intro _ (hd) (by simp) ?_;simp -dsimp;apply hK;clear hK K;refine aS fun K hK=>?_;simp -dsimp;apply hK;clear hK K;exact awp_ret (by simp)
end Go.Tram
end
section
namespace Go.Tram
open Go.AM Go.Proofs
theorem c_Valid (p:Plan):PureCall Tryz.prog 20 [p.av] (Bo (validB p)):=by
 refine PureCall.of_body Tryz.func20 rfl (by decide) (by simp[Tryz.ntmps20]) ?_;simp only[Tryz.ntmps20,Tryz.results20];refine aS fun K hK=>?_;simp -dsimp;apply hK;clear hK K;refine awp_seq_k fun K1 hK1=>?_;refine aS fun K hK=>?_;simp -dsimp;refine callK_intro _ (c_in _ _ _) (by simp) ?_;simp -dsimp;refine callK_may _ (fun hm=>c_in _ _ _) (by simp) ?_;simp -dsimp;apply hK;clear hK K;refine awp_cond rfl (fun hc0=>?_) (fun hc0=>?_)
 ·skip
  try simp at hc0
  refine aS fun K hK=>?_;simp -dsimp;apply hK;clear hK K;refine awp_ret ?_;have:validB p=false:=by simp[validB,validA];intro h1 h2;rcases hc0 with hc0|hc0<;>simp_all
  simp[this]
 ·skip
  try simp at hc0
  have hN:=inr_iff.1 hc0.1;have hR:=inr_iff.1 hc0.2;refine awp_skip ?_;simp only[zT,reduceIte,Nat.reduceEqDiff];refine hK1 _ _ ?_;refine awp_prune [1] ?_;simp only[zP,Nat.reduceEqDiff,reduceIte];refine awp_seq_k fun K2 hK2=>?_;refine aS fun K hK=>?_;simp -dsimp;apply hK;clear hK K;refine awp_block ?_;refine awp_prune [1,3] ?_;simp only[zP,Nat.reduceEqDiff,reduceIte];refine awp_loop_l [1] (α:=Nat) (fun k=>[(3,I k)]) (fun _=>[some (.els 2 [p.cells])]) (fun k=>k≤p.Nodes.length∧(p.Nodes.take k).all nodeB=true) (fun k=>p.Nodes.length-k) 0 ?_ ?_ ?_
  ·simp
  ·exact sub_same (by simp)
  rintro k ⟨k1,k2⟩;simp only[zP,Nat.reduceEqDiff,reduceIte];refine awp_seq_k fun K3 hK3=>?_;refine aS fun K hK=>?_;simp -dsimp;apply hK;clear hK K;refine awp_cond rfl (fun hc1=>?_) (fun hc1=>?_)
  ·skip
   try simp at hc1
   have g0:=p.node_get (i:=(k:Int)) (by omega) (by omega);simp only[Int.toNat_natCast]at g0;have wi:=zW k (by omega);refine awp_skip ?_;simp only[zT,reduceIte,Nat.reduceEqDiff];refine hK3 _ _ ?_;refine awp_prune [1,3] ?_;simp only[zP,Nat.reduceEqDiff,reduceIte];refine awp_seq_k fun K4 hK4=>?_;refine awp_block ?_;refine aS fun K hK=>?_;simp -dsimp [g0];apply hK;clear hK K;refine aS fun K hK=>?_;simp -dsimp;apply hK;clear hK K;refine awp_seq_k fun K5 hK5=>?_;refine aS fun K hK=>?_;simp -dsimp;apply hK;clear hK K;refine awp_cond rfl (fun hc2=>?_) (fun hc2=>?_)
   ·skip
    try simp at hc2
    refine aR fun K hK=>?_;simp -dsimp;refine callK_intro _ (c_in _ _ _) (by simp) ?_;simp -dsimp;apply hK;clear hK K;simp only[zT,reduceIte,Nat.reduceEqDiff];refine hK5 _ _ ?_;refine awp_prune [1,3,4,5] ?_;simp only[zP,Nat.reduceEqDiff,reduceIte];refine awp_sd mixed rfl fun K hK=>?_;simp -dsimp;refine callK_intro _ (c_spot (p.node k).Spot) (by simp) ?_;simp -dsimp;refine callK_may _ (fun hm=>c_ends (p.node k).Kind) (by simp) ?_;simp -dsimp;refine callK_may _ (fun hm=>c_ends (p.node k).Kind) (by simp) ?_;simp -dsimp;refine hK _ _ _ (by decide+kernel) ?_;clear hK K;refine awp_cond rfl (fun hc3=>?_) (fun hc3=>?_)
    ·skip
     try simp at hc3
     refine aS fun K hK=>?_;simp -dsimp;apply hK;clear hK K;refine awp_ret ?_;have:nodeB (p.node k)=false:=by simp[nodeB,hc2];intro h1 h2 h3;simp_all
     simp[valid_ff_node g0 this]
    ·skip
     try simp at hc3
     refine awp_skip ?_;simp only[zT,reduceIte,Nat.reduceEqDiff];refine hK4 _ _ ?_;refine awp_prune [1,3] ?_;simp only[zP,Nat.reduceEqDiff,reduceIte];refine aR fun K hK=>?_;simp -dsimp [wi];apply hK;clear hK K;simp only[zT,reduceIte,Nat.reduceEqDiff];refine⟨k+1,⟨by omega,?_⟩,by omega,sub_rb [some 0] rfl (by simp) (by simp)⟩;rw[take_all' g0,k2];simp[nodeB,hc2,hc3]
   ·skip
    try simp at hc2
    refine awp_skip ?_;simp only[zT,reduceIte,Nat.reduceEqDiff];refine hK5 _ _ ?_;refine awp_prune [1,3,4,5] ?_;simp only[zP,Nat.reduceEqDiff,reduceIte];refine awp_sd mixed rfl fun K hK=>?_;simp -dsimp;refine callK_intro _ (c_spot (p.node k).Spot) (by simp) ?_;simp -dsimp;refine callK_may _ (fun hm=>c_ends (p.node k).Kind) (by simp) ?_;simp -dsimp;refine callK_may _ (fun hm=>c_ends (p.node k).Kind) (by simp) ?_;simp -dsimp;refine hK _ _ _ (by decide+kernel) ?_;clear hK K;refine awp_cond rfl (fun hc3=>?_) (fun hc3=>?_)
    ·skip
     try simp at hc3
     refine aS fun K hK=>?_;simp -dsimp;apply hK;clear hK K;refine awp_ret ?_;have:nodeB (p.node k)=false:=by simp[nodeB,hc2];intro h1 h2 h3;simp_all
     simp[valid_ff_node g0 this]
    ·skip
     try simp at hc3
     refine awp_skip ?_;simp only[zT,reduceIte,Nat.reduceEqDiff];refine hK4 _ _ ?_;refine awp_prune [1,3] ?_;simp only[zP,Nat.reduceEqDiff,reduceIte];refine aR fun K hK=>?_;simp -dsimp [wi];apply hK;clear hK K;simp only[zT,reduceIte,Nat.reduceEqDiff];refine⟨k+1,⟨by omega,?_⟩,by omega,sub_rb [some 0] rfl (by simp) (by simp)⟩;rw[take_all' g0,k2];simp[nodeB,hc2,hc3]
  ·skip
   try simp at hc1
   have hA:=all_of_take (by omega) k2;refine awp_exit ?_;simp only[zT,reduceIte,Nat.reduceEqDiff];refine hK2 _ _ ?_;refine awp_prune [1] ?_;simp only[zP,Nat.reduceEqDiff,reduceIte];refine awp_seq_k fun K6 hK6=>?_;refine aS fun K hK=>?_;simp -dsimp;apply hK;clear hK K;refine awp_block ?_;refine awp_prune [1,6] ?_;simp only[zP,Nat.reduceEqDiff,reduceIte];refine awp_loop_l [1] (α:=Nat) (fun k=>[(6,I k)]) (fun _=>[some (.els 2 [p.cells])]) (fun k=>k≤p.Rails.length∧(p.Rails.take k).all (railB p)=true) (fun k=>p.Rails.length-k) 0 ?_ ?_ ?_
   ·simp
   ·exact sub_same (by simp)
   rintro u ⟨u1,u2⟩;simp only[zP,Nat.reduceEqDiff,reduceIte];refine awp_seq_k fun K7 hK7=>?_;refine aS fun K hK=>?_;simp -dsimp;apply hK;clear hK K;refine awp_cond rfl (fun hc4=>?_) (fun hc4=>?_)
   ·skip
    try simp at hc4
    have r0:=p.rail_get (i:=(u:Int)) (by omega) (by omega);simp only[Int.toNat_natCast]at r0;have wu:=zW u (by omega);have wn:IntKind.i64.wrap ((p.Nodes.length:Int)-1)=(p.Nodes.length:Int)-1:=wrap_in (by omega) (by omega);refine awp_skip ?_;simp only[zT,reduceIte,Nat.reduceEqDiff];refine hK7 _ _ ?_;refine awp_prune [1,6] ?_;simp only[zP,Nat.reduceEqDiff,reduceIte];refine awp_seq_k fun K8 hK8=>?_;refine awp_block ?_;refine aS fun K hK=>?_;simp -dsimp [r0];apply hK;clear hK K;refine awp_seq_k fun K9 hK9=>?_;refine aS fun K hK=>?_;simp -dsimp [wn];refine callK_intro _ (c_in _ _ _) (by simp) ?_;simp -dsimp [wn];refine callK_may _ (fun hm=>c_in _ _ _) (by simp) ?_;simp -dsimp [wn];refine callK_may _ (fun hm=>c_in _ _ _) (by simp) ?_;simp -dsimp [wn];refine callK_may _ (fun hm=>c_in _ _ _) (by simp) ?_;simp -dsimp [wn];apply hK;clear hK K;refine awp_cond rfl (fun hc5=>?_) (fun hc5=>?_)
    ·skip
     try simp at hc5
     have hra:railA p (p.rail u)=false:=by
      cases hq:railA p (p.rail u)with
      |false=>rfl
      |true=>simp[railA]at hq;simp[hq]at hc5;omega
     refine aS fun K hK=>?_;simp -dsimp;apply hK;clear hK K;exact awp_ret (by simp[valid_ff_rail r0 (by simp[railB,hra]:railB p (p.rail u)=false)])
    ·skip
     try simp at hc5
     have hra:railA p (p.rail u)=true:=by simp[railA,hc5];omega
     have hF:=inr_iff.1 hc5.1.1.1.1;have hT:=inr_iff.1 hc5.1.1.1.2;have hlen:(p.rail u).Shape.length≤30:=by omega
     have sF:=nodeB_spot (node_ends hA (i:=(p.rail u).From) (by omega) (by omega));have sT:=nodeB_spot (node_ends hA (i:=(p.rail u).To) (by omega) (by omega));refine awp_skip ?_;simp only[zT,reduceIte,Nat.reduceEqDiff];refine hK9 _ _ ?_;refine awp_prune [1,6,7] ?_;simp only[zP,Nat.reduceEqDiff,reduceIte];refine awp_seq_k fun K10 hK10=>?_;refine aS fun K hK=>?_;simp -dsimp;apply hK;clear hK K;refine awp_block ?_;refine awp_prune [1,6,7,8] ?_;simp only[zP,Nat.reduceEqDiff,reduceIte];refine awp_loop_l [1,6,7] (α:=Nat) (fun j=>[(8,I j)]) (fun _=>[some (.els 2 [p.cells]),some (.els 5 [(p.rail u).cells])]) (fun j=>j≤(p.rail u).Shape.length∧((p.rail u).Shape.take j).all spotB=true) (fun j=>(p.rail u).Shape.length-j) 0 ?_ ?_ ?_
     ·simp
     ·exact sub_same (by simp)
     rintro j ⟨j1,j2⟩;simp only[zP,Nat.reduceEqDiff,reduceIte];refine awp_seq_k fun K11 hK11=>?_;refine aS fun K hK=>?_;simp -dsimp;apply hK;clear hK K;refine awp_cond rfl (fun hc6=>?_) (fun hc6=>?_)
     ·skip
      try simp at hc6
      have s0:(p.rail u).Shape[j]?=some (nth (p.rail u).Shape j):=nth_get hc6;have wj:=zW j (by omega);refine awp_skip ?_;simp only[zT,reduceIte,Nat.reduceEqDiff];refine hK11 _ _ ?_;refine awp_prune [1,6,7,8] ?_;simp only[zP,Nat.reduceEqDiff,reduceIte];refine awp_seq_k fun K12 hK12=>?_;refine awp_block ?_;refine aS fun K hK=>?_;simp -dsimp [s0];refine callK_intro _ (c_spot (nth (p.rail u).Shape j)) (by simp) ?_;simp -dsimp [s0];apply hK;clear hK K;refine awp_cond rfl (fun hc7=>?_) (fun hc7=>?_)
      ·skip
       try simp at hc7
       refine aS fun K hK=>?_;simp -dsimp;apply hK;clear hK K;exact awp_ret (by simp[valid_ff_rail r0 (by simp[railB,all_ff s0 hc7]:railB p (p.rail u)=false)])
      ·skip
       try simp at hc7
       refine awp_skip ?_;simp only[zT,reduceIte,Nat.reduceEqDiff];refine hK12 _ _ ?_;refine awp_prune [1,6,7,8] ?_;simp only[zP,Nat.reduceEqDiff,reduceIte];refine aR fun K hK=>?_;simp -dsimp [wj];apply hK;clear hK K;simp only[zT,reduceIte,Nat.reduceEqDiff];refine⟨j+1,⟨by omega,?_⟩,by omega,sub_same (by simp)⟩;rw[take_all' s0,j2];simp[hc7]
     ·skip
      try simp at hc6
      have hS:=all_of_take (by omega) j2;have hls:(p.line u).all spotB=true:=line_spots sF sT hS;have hll:=line_len p u;have hb:∀m,m<(p.line u).length→spotB (nth (p.line u) m)=true:=fun m hm=>List.all_eq_true.1 hls _ (List.mem_of_getElem? (nth_get hm));refine awp_exit ?_;simp only[zT,reduceIte,Nat.reduceEqDiff];refine hK10 _ _ ?_;refine awp_prune [1,6] ?_;simp only[zP,Nat.reduceEqDiff,reduceIte];refine aS fun K hK=>?_;simp -dsimp;refine callK_intro _ (c_Line p u (by omega) (by omega) ⟨by omega,by omega⟩ ⟨by omega,by omega⟩ (by omega)) (by simp) ?_;simp -dsimp;apply hK;clear hK K;refine aS fun K hK=>?_;simp -dsimp;apply hK;clear hK K;refine awp_block ?_;refine awp_prune [1,6,9,10] ?_;simp only[zP,Nat.reduceEqDiff,reduceIte];refine awp_loop_l [1,6,9] (α:=Nat) (fun j=>[(10,I j)]) (fun _=>[some (.els 2 [p.cells]),some (.els 5 [(p.rail u).cells])]) (fun j=>1≤j∧j≤(p.line u).length∧∀m,m+1<j→segB (p.line u) m=true) (fun j=>(p.line u).length-j) 1 ?_ ?_ ?_
      ·refine⟨by omega,by omega,fun m hm=>by omega⟩
      ·exact sub_same (by simp)
      rintro j ⟨j1,j2,j3⟩;simp only[zP,Nat.reduceEqDiff,reduceIte];refine awp_seq_k fun K13 hK13=>?_;refine aS fun K hK=>?_;simp -dsimp;apply hK;clear hK K;refine awp_cond rfl (fun hc8=>?_) (fun hc8=>?_)
      ·skip
       try simp at hc8
       have wk:IntKind.i64.wrap ((j:Int)-1)=((j-1:Nat):Int):=by rw[wrap_in (by omega) (by omega)];omega
       have wj:=zW j (by omega);have l1:=nth_get (l:=p.line u) (k:=j-1) (by omega);have l2:=nth_get (l:=p.line u) (k:=j) (by omega);refine awp_skip ?_;simp only[zT,reduceIte,Nat.reduceEqDiff];refine hK13 _ _ ?_;refine awp_prune [1,6,9,10] ?_;simp only[zP,Nat.reduceEqDiff,reduceIte];refine awp_seq_k fun K14 hK14=>?_;refine awp_block ?_;refine awp_sd mixed rfl fun K hK=>?_;simp -dsimp [wk,l1,l2];refine callK_intro _ (c_Far (nth (p.line u) (j-1)) (nth (p.line u) j) (hb _ (by omega)) (hb _ (by omega))) (by simp) ?_;simp -dsimp [wk,l1,l2];refine callK_intro _ (c_in _ _ _) (by simp) ?_;simp -dsimp [wk,l1,l2];refine hK _ _ _ (by decide+kernel) ?_;clear hK K;refine awp_cond rfl (fun hc9=>?_) (fun hc9=>?_)
       ·simp at hc9;have hseg:segB (p.line u) (j-1)=inr (far (nth (p.line u) (j-1)) (nth (p.line u) j)) 1 1000000:=by simp only[segB,segLen];rw[show j-1+1=j by omega]
        have hfs:railB p (p.rail u)=false:=by
         have:(List.range ((p.rail u).Shape.length+1)).all (segB (lineOf p (p.rail u)))=false:=by rw[List.all_eq_false];exact⟨j-1,by simp;omega,by rw[show lineOf p (p.rail u)=p.line u from rfl,hseg];simp[hc9]⟩
         simp[railB,this]
        refine aS fun K hK=>?_;simp -dsimp;apply hK;clear hK K;exact awp_ret (by simp[valid_ff_rail r0 hfs])
       ·simp at hc9;have hseg:segB (p.line u) (j-1)=inr (far (nth (p.line u) (j-1)) (nth (p.line u) j)) 1 1000000:=by simp only[segB,segLen];rw[show j-1+1=j by omega]
        refine awp_skip ?_;simp only[zT,reduceIte,Nat.reduceEqDiff];refine hK14 _ _ ?_;refine awp_prune [1,6,9,10] ?_;simp only[zP,Nat.reduceEqDiff,reduceIte];refine aR fun K hK=>?_;simp -dsimp [wj];apply hK;clear hK K;simp only[zT,reduceIte,Nat.reduceEqDiff];refine⟨j+1,⟨by omega,by omega,fun m hm=>?_⟩,by omega,sub_same (by simp)⟩
        by_cases hmj:m+1<j
        ·exact j3 m hmj
        ·rw[show m=j-1 by omega,hseg];exact hc9
      ·skip
       try simp at hc8
       refine awp_exit ?_;simp only[zT,reduceIte,Nat.reduceEqDiff];refine hK8 _ _ ?_;refine awp_prune [1,6] ?_;simp only[zP,Nat.reduceEqDiff,reduceIte];refine aR fun K hK=>?_;simp -dsimp [wu];apply hK;clear hK K;simp only[zT,reduceIte,Nat.reduceEqDiff];refine⟨u+1,⟨by omega,?_⟩,by omega,sub_rb [some 0] rfl (by simp) (by simp)⟩;rw[take_all' r0,u2,railB,hra,hS];simp only[Bool.true_and];rw[List.all_eq_true];intro m hm;simp only[List.mem_range]at hm;exact j3 m (by omega)
   ·skip
    try simp at hc4
    have hB:=all_of_take (by omega) u2;refine awp_exit ?_;simp only[zT,reduceIte,Nat.reduceEqDiff];refine hK6 _ _ ?_;refine awp_prune [1] ?_;simp only[zP,Nat.reduceEqDiff,reduceIte];refine aS fun K hK=>?_;simp -dsimp;apply hK;clear hK K;refine awp_seq_k fun K15 hK15=>?_;refine aS fun K hK=>?_;simp -dsimp;apply hK;clear hK K;refine awp_block ?_;refine awp_prune [1,11,12] ?_;simp only[zP,Nat.reduceEqDiff,reduceIte];refine awp_loop_l [1] (α:=Nat) (fun i=>[(11, .row 1 0 (endsOf p i).length),(12,I i)]) (fun i=>[some (.els 2 [p.cells]),some (.els 2 (eCells (endsOf p i)))]) (fun i=>i≤p.Nodes.length∧(endsOf p i).all (endB p)=true∧((endsOf p i).map (·.2)).Nodup) (fun i=>p.Nodes.length-i) 0 ?_ ?_ ?_
    ·simp[endsOf]
    ·exact(sub_nil 11 2 (by simp)).trans (sub_same (by simp[endsOf]))
    rintro i ⟨i1,i2,i3⟩;simp only[zP,Nat.reduceEqDiff,reduceIte];refine awp_seq_k fun K16 hK16=>?_;refine aS fun K hK=>?_;simp -dsimp;apply hK;clear hK K;refine awp_cond rfl (fun hc10=>?_) (fun hc10=>?_)
    ·skip
     try simp at hc10
     have n0:=p.node_get (i:=(i:Int)) (by omega) (by omega);simp only[Int.toNat_natCast]at n0;have wi:=zW i (by omega);have wr:IntKind.i64.wrap ((p.Rails.length:Int)-1)=(p.Rails.length:Int)-1:=wrap_in (by omega) (by omega);have hle:=nodeB_len (node_ends hA (i:=(i:Int)) (by omega) (by omega));refine awp_skip ?_;simp only[zT,reduceIte,Nat.reduceEqDiff];refine hK16 _ _ ?_;refine awp_prune [1,11,12] ?_;simp only[zP,Nat.reduceEqDiff,reduceIte];refine awp_seq_k fun K17 hK17=>?_;refine awp_block ?_;refine aS fun K hK=>?_;simp -dsimp;apply hK;clear hK K;refine awp_block ?_;refine awp_prune [1,11,12,13] ?_;simp only[zP,Nat.reduceEqDiff,reduceIte];refine awp_loop_l [1,12] (α:=Nat) (fun j=>[(11, .row 1 0 (curE p i j).length),(13,I j)]) (fun j=>[some (.els 2 [p.cells]),some (.els 2 (eCells (curE p i j)))]) (fun j=>j≤(p.node i).Ends.length∧(curE p i j).all (endB p)=true∧((curE p i j).map (·.2)).Nodup) (fun j=>(p.node i).Ends.length-j) 0 ?_ ?_ ?_
     ·rw[curE_zero];exact⟨by omega,i2,i3⟩
     ·simp only[curE_zero];exact sub_same (by simp)
     rintro j ⟨j1,j2,j3⟩;simp only[zP,Nat.reduceEqDiff,reduceIte];refine awp_seq_k fun K18 hK18=>?_;refine aS fun K hK=>?_;simp -dsimp [n0];apply hK;clear hK K;refine awp_cond rfl (fun hc11=>?_) (fun hc11=>?_)
     ·skip
      try simp at hc11
      obtain⟨e,he⟩:∃e,(p.node i).Ends[j]?=some e:=⟨_,List.getElem?_eq_getElem hc11⟩;have hcl:=curE_len hA (j:=j) hc10;have wj:=zW j (by omega);have f1:Fits ((curE p i j).length+1) 17:=fits_of (by omega) (by omega);have f2:Fits ((curE p i j).length+1) 25:=fits_of (by omega) (by omega);refine awp_skip ?_;simp only[zT,reduceIte,Nat.reduceEqDiff];refine hK18 _ _ ?_;refine awp_prune [1,11,12,13] ?_;simp only[zP,Nat.reduceEqDiff,reduceIte];refine awp_seq_k fun K19 hK19=>?_;refine awp_block ?_;refine aS fun K hK=>?_;simp -dsimp [n0,he];apply hK;clear hK K;refine awp_seq_k fun K20 hK20=>?_;refine aS fun K hK=>?_;simp -dsimp [wr];refine callK_intro _ (c_in _ _ _) (by simp) ?_;simp -dsimp [wr];refine callK_may _ (fun hm=>c_at p e (by simp[inr_iff]at hm;omega) (by simp[inr_iff]at hm;omega)) (by simp) ?_;simp -dsimp [wr];apply hK;clear hK K;refine awp_cond rfl (fun hc12=>?_) (fun hc12=>?_)
      ·skip
       try simp at hc12
       have hef:endB p (i,e)=false:=by
        cases hq:endB p (i,e)with
        |false=>rfl
        |true=>simp[endB]at hq;simp[hq]at hc12
       refine aS fun K hK=>?_;simp -dsimp;apply hK;clear hK K;exact awp_ret (by simp[valid_ff_end hc10 he hef])
      ·skip
       try simp at hc12
       refine awp_skip ?_;simp only[zT,reduceIte,Nat.reduceEqDiff];refine hK20 _ _ ?_;refine awp_prune [1,11,12,13,14] ?_;simp only[zP,Nat.reduceEqDiff,reduceIte];refine awp_seq_k fun K21 hK21=>?_;refine aS fun K hK=>?_;simp -dsimp;apply hK;clear hK K;refine awp_block ?_;refine awp_prune [1,11,12,13,14,15] ?_;simp only[zP,Nat.reduceEqDiff,reduceIte];refine awp_loop_l [1,11,12,13,14] (α:=Nat) (fun m=>[(15,I m)]) (fun _=>[some (.els 2 [p.cells]),some (.els 2 (eCells (curE p i j))),some (.els 2 [e.cells])]) (fun m=>m≤(curE p i j).length∧∀x∈(curE p i j).take m,x.2≠e) (fun m=>(curE p i j).length-m) 0 ?_ ?_ ?_
       ·simp
       ·exact sub_same (by simp)
       rintro m ⟨m1,m2⟩;simp only[zP,Nat.reduceEqDiff,reduceIte];refine awp_seq_k fun K22 hK22=>?_;refine aS fun K hK=>?_;simp -dsimp;apply hK;clear hK K;refine awp_cond rfl (fun hc13=>?_) (fun hc13=>?_)
       ·skip
        try simp at hc13
        obtain⟨x,hx⟩:∃x,(curE p i j)[m]?=some x:=⟨_,List.getElem?_eq_getElem hc13⟩;have wm:=zW m (by omega);refine awp_skip ?_;simp only[zT,reduceIte,Nat.reduceEqDiff];refine hK22 _ _ ?_;refine awp_prune [1,11,12,13,14,15] ?_;simp only[zP,Nat.reduceEqDiff,reduceIte];refine awp_seq_k fun K23 hK23=>?_;refine awp_block ?_;refine awp_sd mixed rfl fun K hK=>?_;simp -dsimp [hx,hc13];refine hK _ _ _ (by decide+kernel) ?_;clear hK K;refine awp_cond rfl (fun hc14=>?_) (fun hc14=>?_)
        ·skip
         try simp at hc14
         refine aS fun K hK=>?_;simp -dsimp;apply hK;clear hK K;have hxe:x.2=e:=by cases hxx:x.2;cases e;simp_all
         exact awp_ret (by simp[valid_ff_dup hc10 he hx hxe])
        ·skip
         try simp at hc14
         refine awp_skip ?_;simp only[zT,reduceIte,Nat.reduceEqDiff];refine hK23 _ _ ?_;refine awp_prune [1,11,12,13,14,15] ?_;simp only[zP,Nat.reduceEqDiff,reduceIte];refine aR fun K hK=>?_;simp -dsimp [wm];apply hK;clear hK K;simp only[zT,reduceIte,Nat.reduceEqDiff];refine⟨m+1,⟨by omega,?_⟩,by omega,sub_same (by simp)⟩;intro y hy;rw[List.take_add_one,hx]at hy
         rcases List.mem_append.1 hy with hy|hy
         ·exact m2 y hy
         ·simp only[Option.toList_some,List.mem_singleton]at hy;subst hy;intro hh;rw[←hh]at hc14;have hxm:(curE p i j)[m]=y:=(List.getElem?_eq_some_iff.1 hx).2;simp[hxm]at hc14
       ·skip
        try simp at hc13
        have hne:∀x∈curE p i j,x.2≠e:=by intro x hx;exact m2 x (by rw[List.take_of_length_le (by omega)];exact hx)
        refine awp_exit ?_;simp only[zT,reduceIte,Nat.reduceEqDiff];refine hK21 _ _ ?_;refine awp_prune [1,11,12,13,14] ?_;simp only[zP,Nat.reduceEqDiff,reduceIte];refine aR fun K hK=>?_;simp -dsimp [f1,f2];apply hK;clear hK K;simp only[zT,reduceIte,Nat.reduceEqDiff];refine hK19 _ _ ?_;refine awp_prune [1,11,12,13] ?_;simp only[zP,Nat.reduceEqDiff,reduceIte];refine aR fun K hK=>?_;simp -dsimp [wj];apply hK;clear hK K;simp only[zT,reduceIte,Nat.reduceEqDiff];refine⟨j+1,⟨by omega,?_,?_⟩,by omega,sub_rb [some 0,some 3] rfl (by simp[curE_succ he]) (by simp[curE_succ he,Function.comp_def,List.take_of_length_le])⟩
        ·rw[curE_succ he,List.all_append,j2];simp[endB,hc12]
        ·rw[curE_succ he,List.map_append,List.nodup_append];refine⟨j3,by simp,?_⟩;intro a ha b hb;simp only[List.map_cons,List.map_nil,List.mem_singleton]at hb;subst hb;obtain⟨y,hy,rfl⟩:=List.mem_map.1 ha;exact hne y hy
     ·skip
      try simp at hc11
      have hce:=curE_all (p:=p) (i:=i) (j:=j) (by omega);refine awp_exit ?_;simp only[zT,reduceIte,Nat.reduceEqDiff];refine hK17 _ _ ?_;refine awp_prune [1,11,12] ?_;simp only[zP,Nat.reduceEqDiff,reduceIte];refine aR fun K hK=>?_;simp -dsimp [wi];apply hK;clear hK K;simp only[zT,reduceIte,Nat.reduceEqDiff];exact⟨i+1,⟨by omega,by rw[←hce];exact j2,by rw[←hce];exact j3⟩,by omega,by simp only[←hce];exact sub_same (by simp)⟩
    ·skip
     try simp at hc10
     have hii:i=p.Nodes.length:=by omega
     subst hii;have hle:=endsOf_len hA p.Nodes.length (Nat.le_refl _);have w2:IntKind.i64.wrap (2*(p.Rails.length:Int))=2*(p.Rails.length:Int):=wrap_in (by omega) (by omega);refine awp_exit ?_;simp only[zT,reduceIte,Nat.reduceEqDiff];refine hK15 _ _ ?_;refine awp_prune [1,11] ?_;simp only[zP,Nat.reduceEqDiff,reduceIte];refine aS fun K hK=>?_;simp -dsimp [w2];apply hK;clear hK K;refine awp_ret ?_;have hv:validB p=decide ((endsOf p p.Nodes.length).length=2*p.Rails.length):=by simp[validB,validA,validE,hc0,hA,hB,i2,i3]
     simp only[hv];simp;exact Bool.eq_iff_iff.2 (by simp;omega)
end Go.Tram
end
section
namespace Go.Tram
open Go.AM Go.Proofs
theorem c_SameM_lst (l:List Move) (hn:l.length≤100000):PureCall Tryz.prog 15 [.lst 2 (l.map Move.cells), .lst 2 (l.map Move.cells)] (Bo true):=by
 refine PureCall.of_body Tryz.func15 rfl (by decide) (by simp[Tryz.ntmps15]) ?_;simp only[Tryz.ntmps15,Tryz.results15];refine aS fun K hK=>?_;simp -dsimp;apply hK;clear hK K;refine awp_seq_k fun K1 hK1=>?_;refine aS fun K hK=>?_;simp -dsimp;apply hK;clear hK K;refine awp_cond rfl (fun hc0=>?_) (fun hc0=>?_)
 ·simp at hc0
 ·refine awp_skip ?_;simp only[zT,reduceIte,Nat.reduceEqDiff];refine hK1 _ _ ?_;refine awp_prune [0,1] ?_;simp only[zP,Nat.reduceEqDiff,reduceIte];refine awp_seq_k fun K2 hK2=>?_;refine aS fun K hK=>?_;simp -dsimp;apply hK;clear hK K;refine awp_block ?_;refine awp_prune [0,1,5] ?_;simp only[zP,Nat.reduceEqDiff,reduceIte];refine awp_loop_l [0,1] (α:=Nat) (fun k=>[(5,I k)]) (fun _=>[]) (fun k=>k≤l.length) (fun k=>l.length-k) 0 ?_ ?_ ?_
  ·simp
  ·exact sub_same (by simp)
  rintro k k1;simp only[zP,Nat.reduceEqDiff,reduceIte];refine awp_seq_k fun K3 hK3=>?_;refine aS fun K hK=>?_;simp -dsimp;apply hK;clear hK K;refine awp_cond rfl (fun hc1=>?_) (fun hc1=>?_)
  ·skip
   try simp at hc1
   obtain⟨c,hx⟩:∃c,l[k]?=some c:=⟨_,List.getElem?_eq_getElem (by simpa using hc1)⟩;have wk:=zW k (by omega);refine awp_skip ?_;simp only[zT,reduceIte,Nat.reduceEqDiff];refine hK3 _ _ ?_;refine awp_prune [0,1,5] ?_;simp only[zP,Nat.reduceEqDiff,reduceIte];refine awp_seq_k fun K4 hK4=>?_;refine awp_block ?_;refine awp_sd mixed rfl fun K hK=>?_;simp -dsimp [hx];refine hK _ _ _ (by decide+kernel) ?_;clear hK K;refine awp_cond rfl (fun hc2=>?_) (fun hc2=>?_)
   ·simp at hc2
   ·refine awp_skip ?_;simp only[zT,reduceIte,Nat.reduceEqDiff];refine hK4 _ _ ?_;refine awp_prune [0,1,5] ?_;simp only[zP,Nat.reduceEqDiff,reduceIte];refine aR fun K hK=>?_;simp -dsimp [wk];apply hK;clear hK K;simp only[zT,reduceIte,Nat.reduceEqDiff];exact⟨k+1,by have:=(List.getElem?_eq_some_iff.1 hx).1;omega,by have:=(List.getElem?_eq_some_iff.1 hx).1;omega,sub_same (by simp)⟩
  ·skip
   try simp at hc1
   refine awp_exit ?_;simp only[zT,reduceIte,Nat.reduceEqDiff];refine hK2 _ _ ?_;refine awp_prune [] ?_;simp only[zP,Nat.reduceEqDiff,reduceIte];refine aS fun K hK=>?_;simp -dsimp;apply hK;clear hK K;exact awp_ret (by simp)
theorem c_SameC_lst (l:List Cover) (hn:l.length≤100000):PureCall Tryz.prog 37 [.lst 3 (l.map Cover.cells), .lst 3 (l.map Cover.cells)] (Bo true):=by
 refine PureCall.of_body Tryz.func37 rfl (by decide) (by simp[Tryz.ntmps37]) ?_;simp only[Tryz.ntmps37,Tryz.results37];refine aS fun K hK=>?_;simp -dsimp;apply hK;clear hK K;refine awp_seq_k fun K1 hK1=>?_;refine aS fun K hK=>?_;simp -dsimp;apply hK;clear hK K;refine awp_cond rfl (fun hc0=>?_) (fun hc0=>?_)
 ·simp at hc0
 ·refine awp_skip ?_;simp only[zT,reduceIte,Nat.reduceEqDiff];refine hK1 _ _ ?_;refine awp_prune [0,1] ?_;simp only[zP,Nat.reduceEqDiff,reduceIte];refine awp_seq_k fun K2 hK2=>?_;refine aS fun K hK=>?_;simp -dsimp;apply hK;clear hK K;refine awp_block ?_;refine awp_prune [0,1,5] ?_;simp only[zP,Nat.reduceEqDiff,reduceIte];refine awp_loop_l [0,1] (α:=Nat) (fun k=>[(5,I k)]) (fun _=>[]) (fun k=>k≤l.length) (fun k=>l.length-k) 0 ?_ ?_ ?_
  ·simp
  ·exact sub_same (by simp)
  rintro k k1;simp only[zP,Nat.reduceEqDiff,reduceIte];refine awp_seq_k fun K3 hK3=>?_;refine aS fun K hK=>?_;simp -dsimp;apply hK;clear hK K;refine awp_cond rfl (fun hc1=>?_) (fun hc1=>?_)
  ·skip
   try simp at hc1
   obtain⟨c,hx⟩:∃c,l[k]?=some c:=⟨_,List.getElem?_eq_getElem (by simpa using hc1)⟩;have wk:=zW k (by omega);refine awp_skip ?_;simp only[zT,reduceIte,Nat.reduceEqDiff];refine hK3 _ _ ?_;refine awp_prune [0,1,5] ?_;simp only[zP,Nat.reduceEqDiff,reduceIte];refine awp_seq_k fun K4 hK4=>?_;refine awp_block ?_;refine awp_sd mixed rfl fun K hK=>?_;simp -dsimp [hx];refine hK _ _ _ (by decide+kernel) ?_;clear hK K;refine awp_cond rfl (fun hc2=>?_) (fun hc2=>?_)
   ·simp at hc2
   ·refine awp_skip ?_;simp only[zT,reduceIte,Nat.reduceEqDiff];refine hK4 _ _ ?_;refine awp_prune [0,1,5] ?_;simp only[zP,Nat.reduceEqDiff,reduceIte];refine aR fun K hK=>?_;simp -dsimp [wk];apply hK;clear hK K;simp only[zT,reduceIte,Nat.reduceEqDiff];exact⟨k+1,by have:=(List.getElem?_eq_some_iff.1 hx).1;omega,by have:=(List.getElem?_eq_some_iff.1 hx).1;omega,sub_same (by simp)⟩
  ·skip
   try simp at hc1
   refine awp_exit ?_;simp only[zT,reduceIte,Nat.reduceEqDiff];refine hK2 _ _ ?_;refine awp_prune [] ?_;simp only[zP,Nat.reduceEqDiff,reduceIte];refine aS fun K hK=>?_;simp -dsimp;apply hK;clear hK K;exact awp_ret (by simp)
theorem c_SameI_lst (l:List Int) (hn:l.length≤100000):PureCall Tryz.prog 38 [.lst 1 (l.map nCell), .lst 1 (l.map nCell)] (Bo true):=by
 refine PureCall.of_body Tryz.func38 rfl (by decide) (by simp[Tryz.ntmps38]) ?_;simp only[Tryz.ntmps38,Tryz.results38];refine aS fun K hK=>?_;simp -dsimp;apply hK;clear hK K;refine awp_seq_k fun K1 hK1=>?_;refine aS fun K hK=>?_;simp -dsimp;apply hK;clear hK K;refine awp_cond rfl (fun hc0=>?_) (fun hc0=>?_)
 ·simp at hc0
 ·refine awp_skip ?_;simp only[zT,reduceIte,Nat.reduceEqDiff];refine hK1 _ _ ?_;refine awp_prune [0,1] ?_;simp only[zP,Nat.reduceEqDiff,reduceIte];refine awp_seq_k fun K2 hK2=>?_;refine aS fun K hK=>?_;simp -dsimp;apply hK;clear hK K;refine awp_block ?_;refine awp_prune [0,1,5] ?_;simp only[zP,Nat.reduceEqDiff,reduceIte];refine awp_loop_l [0,1] (α:=Nat) (fun k=>[(5,I k)]) (fun _=>[]) (fun k=>k≤l.length) (fun k=>l.length-k) 0 ?_ ?_ ?_
  ·simp
  ·exact sub_same (by simp)
  rintro k k1;simp only[zP,Nat.reduceEqDiff,reduceIte];refine awp_seq_k fun K3 hK3=>?_;refine aS fun K hK=>?_;simp -dsimp;apply hK;clear hK K;refine awp_cond rfl (fun hc1=>?_) (fun hc1=>?_)
  ·skip
   try simp at hc1
   obtain⟨c,hx⟩:∃c,l[k]?=some c:=⟨_,List.getElem?_eq_getElem (by simpa using hc1)⟩;have wk:=zW k (by omega);refine awp_skip ?_;simp only[zT,reduceIte,Nat.reduceEqDiff];refine hK3 _ _ ?_;refine awp_prune [0,1,5] ?_;simp only[zP,Nat.reduceEqDiff,reduceIte];refine awp_seq_k fun K4 hK4=>?_;refine awp_block ?_;refine awp_sd mixed rfl fun K hK=>?_;simp -dsimp [hx];refine hK _ _ _ (by decide+kernel) ?_;clear hK K;refine awp_cond rfl (fun hc2=>?_) (fun hc2=>?_)
   ·simp at hc2
   ·refine awp_skip ?_;simp only[zT,reduceIte,Nat.reduceEqDiff];refine hK4 _ _ ?_;refine awp_prune [0,1,5] ?_;simp only[zP,Nat.reduceEqDiff,reduceIte];refine aR fun K hK=>?_;simp -dsimp [wk];apply hK;clear hK K;simp only[zT,reduceIte,Nat.reduceEqDiff];exact⟨k+1,by have:=(List.getElem?_eq_some_iff.1 hx).1;omega,by have:=(List.getElem?_eq_some_iff.1 hx).1;omega,sub_same (by simp)⟩
  ·skip
   try simp at hc1
   refine awp_exit ?_;simp only[zT,reduceIte,Nat.reduceEqDiff];refine hK2 _ _ ?_;refine awp_prune [] ?_;simp only[zP,Nat.reduceEqDiff,reduceIte];refine aS fun K hK=>?_;simp -dsimp;apply hK;clear hK K;exact awp_ret (by simp)
theorem c_SameM_full (l:List Move) (hn:l.length≤100000):PureCall Tryz.prog 15 [.lst 2 (l.map Move.cells), .full 2 (l.map Move.cells)] (Bo true):=by
 refine PureCall.of_body Tryz.func15 rfl (by decide) (by simp[Tryz.ntmps15]) ?_;simp only[Tryz.ntmps15,Tryz.results15];refine aS fun K hK=>?_;simp -dsimp;apply hK;clear hK K;refine awp_seq_k fun K1 hK1=>?_;refine aS fun K hK=>?_;simp -dsimp;apply hK;clear hK K;refine awp_cond rfl (fun hc0=>?_) (fun hc0=>?_)
 ·simp at hc0
 ·refine awp_skip ?_;simp only[zT,reduceIte,Nat.reduceEqDiff];refine hK1 _ _ ?_;refine awp_prune [0,1] ?_;simp only[zP,Nat.reduceEqDiff,reduceIte];refine awp_seq_k fun K2 hK2=>?_;refine aS fun K hK=>?_;simp -dsimp;apply hK;clear hK K;refine awp_block ?_;refine awp_prune [0,1,5] ?_;simp only[zP,Nat.reduceEqDiff,reduceIte];refine awp_loop_l [0,1] (α:=Nat) (fun k=>[(5,I k)]) (fun _=>[]) (fun k=>k≤l.length) (fun k=>l.length-k) 0 ?_ ?_ ?_
  ·simp
  ·exact sub_same (by simp)
  rintro k k1;simp only[zP,Nat.reduceEqDiff,reduceIte];refine awp_seq_k fun K3 hK3=>?_;refine aS fun K hK=>?_;simp -dsimp;apply hK;clear hK K;refine awp_cond rfl (fun hc1=>?_) (fun hc1=>?_)
  ·skip
   try simp at hc1
   obtain⟨c,hx⟩:∃c,l[k]?=some c:=⟨_,List.getElem?_eq_getElem (by simpa using hc1)⟩;have wk:=zW k (by omega);refine awp_skip ?_;simp only[zT,reduceIte,Nat.reduceEqDiff];refine hK3 _ _ ?_;refine awp_prune [0,1,5] ?_;simp only[zP,Nat.reduceEqDiff,reduceIte];refine awp_seq_k fun K4 hK4=>?_;refine awp_block ?_;refine awp_sd mixed rfl fun K hK=>?_;simp -dsimp [hx];refine hK _ _ _ (by decide+kernel) ?_;clear hK K;refine awp_cond rfl (fun hc2=>?_) (fun hc2=>?_)
   ·simp at hc2
   ·refine awp_skip ?_;simp only[zT,reduceIte,Nat.reduceEqDiff];refine hK4 _ _ ?_;refine awp_prune [0,1,5] ?_;simp only[zP,Nat.reduceEqDiff,reduceIte];refine aR fun K hK=>?_;simp -dsimp [wk];apply hK;clear hK K;simp only[zT,reduceIte,Nat.reduceEqDiff];exact⟨k+1,by have:=(List.getElem?_eq_some_iff.1 hx).1;omega,by have:=(List.getElem?_eq_some_iff.1 hx).1;omega,sub_same (by simp)⟩
  ·skip
   try simp at hc1
   refine awp_exit ?_;simp only[zT,reduceIte,Nat.reduceEqDiff];refine hK2 _ _ ?_;refine awp_prune [] ?_;simp only[zP,Nat.reduceEqDiff,reduceIte];refine aS fun K hK=>?_;simp -dsimp;apply hK;clear hK K;exact awp_ret (by simp)
theorem c_SameC_full (l:List Cover) (hn:l.length≤100000):PureCall Tryz.prog 37 [.lst 3 (l.map Cover.cells), .full 3 (l.map Cover.cells)] (Bo true):=by
 refine PureCall.of_body Tryz.func37 rfl (by decide) (by simp[Tryz.ntmps37]) ?_;simp only[Tryz.ntmps37,Tryz.results37];refine aS fun K hK=>?_;simp -dsimp;apply hK;clear hK K;refine awp_seq_k fun K1 hK1=>?_;refine aS fun K hK=>?_;simp -dsimp;apply hK;clear hK K;refine awp_cond rfl (fun hc0=>?_) (fun hc0=>?_)
 ·simp at hc0
 ·refine awp_skip ?_;simp only[zT,reduceIte,Nat.reduceEqDiff];refine hK1 _ _ ?_;refine awp_prune [0,1] ?_;simp only[zP,Nat.reduceEqDiff,reduceIte];refine awp_seq_k fun K2 hK2=>?_;refine aS fun K hK=>?_;simp -dsimp;apply hK;clear hK K;refine awp_block ?_;refine awp_prune [0,1,5] ?_;simp only[zP,Nat.reduceEqDiff,reduceIte];refine awp_loop_l [0,1] (α:=Nat) (fun k=>[(5,I k)]) (fun _=>[]) (fun k=>k≤l.length) (fun k=>l.length-k) 0 ?_ ?_ ?_
  ·simp
  ·exact sub_same (by simp)
  rintro k k1;simp only[zP,Nat.reduceEqDiff,reduceIte];refine awp_seq_k fun K3 hK3=>?_;refine aS fun K hK=>?_;simp -dsimp;apply hK;clear hK K;refine awp_cond rfl (fun hc1=>?_) (fun hc1=>?_)
  ·skip
   try simp at hc1
   obtain⟨c,hx⟩:∃c,l[k]?=some c:=⟨_,List.getElem?_eq_getElem (by simpa using hc1)⟩;have wk:=zW k (by omega);refine awp_skip ?_;simp only[zT,reduceIte,Nat.reduceEqDiff];refine hK3 _ _ ?_;refine awp_prune [0,1,5] ?_;simp only[zP,Nat.reduceEqDiff,reduceIte];refine awp_seq_k fun K4 hK4=>?_;refine awp_block ?_;refine awp_sd mixed rfl fun K hK=>?_;simp -dsimp [hx];refine hK _ _ _ (by decide+kernel) ?_;clear hK K;refine awp_cond rfl (fun hc2=>?_) (fun hc2=>?_)
   ·simp at hc2
   ·refine awp_skip ?_;simp only[zT,reduceIte,Nat.reduceEqDiff];refine hK4 _ _ ?_;refine awp_prune [0,1,5] ?_;simp only[zP,Nat.reduceEqDiff,reduceIte];refine aR fun K hK=>?_;simp -dsimp [wk];apply hK;clear hK K;simp only[zT,reduceIte,Nat.reduceEqDiff];exact⟨k+1,by have:=(List.getElem?_eq_some_iff.1 hx).1;omega,by have:=(List.getElem?_eq_some_iff.1 hx).1;omega,sub_same (by simp)⟩
  ·skip
   try simp at hc1
   refine awp_exit ?_;simp only[zT,reduceIte,Nat.reduceEqDiff];refine hK2 _ _ ?_;refine awp_prune [] ?_;simp only[zP,Nat.reduceEqDiff,reduceIte];refine aS fun K hK=>?_;simp -dsimp;apply hK;clear hK K;exact awp_ret (by simp)
theorem c_SameI_full (l:List Int) (hn:l.length≤100000):PureCall Tryz.prog 38 [.lst 1 (l.map nCell), .full 1 (l.map nCell)] (Bo true):=by
 refine PureCall.of_body Tryz.func38 rfl (by decide) (by simp[Tryz.ntmps38]) ?_;simp only[Tryz.ntmps38,Tryz.results38];refine aS fun K hK=>?_;simp -dsimp;apply hK;clear hK K;refine awp_seq_k fun K1 hK1=>?_;refine aS fun K hK=>?_;simp -dsimp;apply hK;clear hK K;refine awp_cond rfl (fun hc0=>?_) (fun hc0=>?_)
 ·simp at hc0
 ·refine awp_skip ?_;simp only[zT,reduceIte,Nat.reduceEqDiff];refine hK1 _ _ ?_;refine awp_prune [0,1] ?_;simp only[zP,Nat.reduceEqDiff,reduceIte];refine awp_seq_k fun K2 hK2=>?_;refine aS fun K hK=>?_;simp -dsimp;apply hK;clear hK K;refine awp_block ?_;refine awp_prune [0,1,5] ?_;simp only[zP,Nat.reduceEqDiff,reduceIte];refine awp_loop_l [0,1] (α:=Nat) (fun k=>[(5,I k)]) (fun _=>[]) (fun k=>k≤l.length) (fun k=>l.length-k) 0 ?_ ?_ ?_
  ·simp
  ·exact sub_same (by simp)
  rintro k k1;simp only[zP,Nat.reduceEqDiff,reduceIte];refine awp_seq_k fun K3 hK3=>?_;refine aS fun K hK=>?_;simp -dsimp;apply hK;clear hK K;refine awp_cond rfl (fun hc1=>?_) (fun hc1=>?_)
  ·skip
   try simp at hc1
   obtain⟨c,hx⟩:∃c,l[k]?=some c:=⟨_,List.getElem?_eq_getElem (by simpa using hc1)⟩;have wk:=zW k (by omega);refine awp_skip ?_;simp only[zT,reduceIte,Nat.reduceEqDiff];refine hK3 _ _ ?_;refine awp_prune [0,1,5] ?_;simp only[zP,Nat.reduceEqDiff,reduceIte];refine awp_seq_k fun K4 hK4=>?_;refine awp_block ?_;refine awp_sd mixed rfl fun K hK=>?_;simp -dsimp [hx];refine hK _ _ _ (by decide+kernel) ?_;clear hK K;refine awp_cond rfl (fun hc2=>?_) (fun hc2=>?_)
   ·simp at hc2
   ·refine awp_skip ?_;simp only[zT,reduceIte,Nat.reduceEqDiff];refine hK4 _ _ ?_;refine awp_prune [0,1,5] ?_;simp only[zP,Nat.reduceEqDiff,reduceIte];refine aR fun K hK=>?_;simp -dsimp [wk];apply hK;clear hK K;simp only[zT,reduceIte,Nat.reduceEqDiff];exact⟨k+1,by have:=(List.getElem?_eq_some_iff.1 hx).1;omega,by have:=(List.getElem?_eq_some_iff.1 hx).1;omega,sub_same (by simp)⟩
  ·skip
   try simp at hc1
   refine awp_exit ?_;simp only[zT,reduceIte,Nat.reduceEqDiff];refine hK2 _ _ ?_;refine awp_prune [] ?_;simp only[zP,Nat.reduceEqDiff,reduceIte];refine aS fun K hK=>?_;simp -dsimp;apply hK;clear hK K;exact awp_ret (by simp)
theorem c_rarr (m:Move):PureCall Tryz.prog 177 [m.av] (.agg [I m.Rail,Bo (!m.Back)]):=by
 refine PureCall.of_body Tryz.func177 rfl (by decide) (by simp[Tryz.ntmps177]) ?_;simp only[Tryz.ntmps177,Tryz.results177];refine aS fun K hK=>?_;simp -dsimp;apply hK;clear hK K;refine aS fun K hK=>?_;simp -dsimp;apply hK;clear hK K;exact awp_ret (by simp)
theorem c_rlea (m:Move):PureCall Tryz.prog 179 [m.av] (.agg [I m.Rail,Bo m.Back]):=by
 refine PureCall.of_body Tryz.func179 rfl (by decide) (by simp[Tryz.ntmps179]) ?_;simp only[Tryz.ntmps179,Tryz.results179];refine aS fun K hK=>?_;simp -dsimp;apply hK;clear hK K;refine aS fun K hK=>?_;simp -dsimp;apply hK;clear hK K;exact awp_ret (by simp)
theorem c_rMove (p:Plan) (m:Move) (hR:p.Rails.length≤100000):PureCall Tryz.prog 30 [p.av,m.av] (Bo (movB p m)):=by
 have w:IntKind.i64.wrap ((p.Rails.length:Int)-1)=(p.Rails.length:Int)-1:=wrap_in (by omega) (by omega);refine PureCall.of_body Tryz.func30 rfl (by decide) (by simp[Tryz.ntmps30]) ?_;simp only[Tryz.ntmps30,Tryz.results30];refine aS fun K hK=>?_;simp -dsimp;apply hK;clear hK K;refine aS fun K hK=>?_;simp -dsimp [w];refine callK_intro _ (c_in m.Rail 0 _) (by simp) ?_;simp -dsimp [w];apply hK;clear hK K;exact awp_ret (by simp[movB])
theorem c_rOf (k:Int) (h0:0≤k) (h1:k≤1000000):PureCall Tryz.prog 137 [I k] (moveM k).av:=by
 have w1:IntKind.i64.wrap (k/2)=k/2:=wrap_in (by omega) (by omega);have d1:k.tdiv 2=k/2:=Int.tdiv_eq_ediv_of_nonneg h0;have d2:k.tmod 2=k % 2:=Int.tmod_eq_emod_of_nonneg h0;refine PureCall.of_body Tryz.func137 rfl (by decide) (by simp[Tryz.ntmps137]) ?_;simp only[Tryz.ntmps137,Tryz.results137];refine aS fun K hK=>?_;simp -dsimp;apply hK;clear hK K;refine aS fun K hK=>?_;simp -dsimp [w1,d1,d2];apply hK;clear hK K;exact awp_ret (by simp[moveM];rfl)
theorem c_rNumber (m:Move) (h0:-1000000≤m.Rail) (h1:m.Rail≤1000000):PureCall Tryz.prog 97 [m.av] (I (numM m)):=by
 have w1:IntKind.i64.wrap (2*m.Rail)=2*m.Rail:=wrap_in (by omega) (by omega);have w2:IntKind.i64.wrap (2*m.Rail+1)=2*m.Rail+1:=wrap_in (by omega) (by omega);refine PureCall.of_body Tryz.func97 rfl (by decide) (by simp[Tryz.ntmps97]) ?_;simp only[Tryz.ntmps97,Tryz.results97];refine aS fun K hK=>?_;simp -dsimp;apply hK;clear hK K;refine awp_seq_k fun K1 hK1=>?_;refine aS fun K hK=>?_;simp -dsimp;apply hK;clear hK K;refine awp_cond rfl (fun hc0=>?_) (fun hc0=>?_)
 ·refine aS fun K hK=>?_;simp -dsimp [w1,w2];apply hK;clear hK K;exact awp_ret (by simp[numM,hc0])
 ·refine awp_skip ?_;simp only[zT,reduceIte,Nat.reduceEqDiff];refine hK1 _ _ ?_;refine awp_prune [1] ?_;simp only[zP,Nat.reduceEqDiff,reduceIte];refine aS fun K hK=>?_;simp -dsimp [w1,w2];apply hK;clear hK K;exact awp_ret (by simp[numM,hc0])
theorem c_index (n:Node) (e:REnd) (hn:n.Ends.length≤1000):PureCall Tryz.prog 178 [n.av,e.av] (I (idxE n e)):=by
 refine PureCall.of_body Tryz.func178 rfl (by decide) (by simp[Tryz.ntmps178]) ?_;simp only[Tryz.ntmps178,Tryz.results178];refine aS fun K hK=>?_;simp -dsimp;apply hK;clear hK K;refine awp_seq_k fun K1 hK1=>?_;refine aS fun K hK=>?_;simp -dsimp;apply hK;clear hK K;refine awp_block ?_;refine awp_prune [2,3,5] ?_;simp only[zP,Nat.reduceEqDiff,reduceIte];refine awp_loop_l [2,3] (α:=Nat) (fun k=>[(5,I k)]) (fun _=>[some (.els 5 [n.cells]),some (.els 2 [e.cells])]) (fun k=>k≤n.Ends.length∧idxTo e (n.Ends.drop k) k=idxE n e) (fun k=>n.Ends.length-k) 0 ?_ ?_ ?_
 ·exact⟨Nat.zero_le _,rfl⟩
 ·exact sub_same (by simp)
 rintro k ⟨k1,k2⟩;simp only[zP,Nat.reduceEqDiff,reduceIte];refine awp_seq_k fun K2 hK2=>?_;refine aS fun K hK=>?_;simp -dsimp;apply hK;clear hK K;refine awp_cond rfl (fun hc0=>?_) (fun hc0=>?_)
 ·skip
  try simp at hc0
  obtain⟨x,hx⟩:∃x,n.Ends[k]?=some x:=⟨_,List.getElem?_eq_getElem (by simpa using hc0)⟩;obtain⟨hxl,hxe⟩:=List.getElem?_eq_some_iff.1 hx;have wk:=zW k (by omega);rw[List.drop_eq_getElem_cons hxl,hxe]at k2;simp only[idxTo]at k2;refine awp_skip ?_;simp only[zT,reduceIte,Nat.reduceEqDiff];refine hK2 _ _ ?_;refine awp_prune [2,3,5] ?_;simp only[zP,Nat.reduceEqDiff,reduceIte];refine awp_seq_k fun K3 hK3=>?_;refine awp_block ?_;refine awp_sd mixed rfl fun K hK=>?_;simp -dsimp [hx];refine hK _ _ _ (by decide+kernel) ?_;clear hK K;refine awp_cond rfl (fun hc1=>?_) (fun hc1=>?_)
  ·have hxe2:x=e:=by obtain⟨a,b⟩:=x;obtain⟨c,d⟩:=e;simpa using hc1
   rw[if_pos hxe2]at k2;refine aS fun K hK=>?_;simp -dsimp;apply hK;clear hK K;exact awp_ret (by simp[←k2])
  ·have hxe2:x≠e:=by rintro rfl;simp at hc1
   rw[if_neg hxe2]at k2;refine awp_skip ?_;simp only[zT,reduceIte,Nat.reduceEqDiff];refine hK3 _ _ ?_;refine awp_prune [2,3,5] ?_;simp only[zP,Nat.reduceEqDiff,reduceIte];refine aR fun K hK=>?_;simp -dsimp [wk];apply hK;clear hK K;simp only[zT,reduceIte,Nat.reduceEqDiff];exact⟨k+1,⟨by omega,by rw[←k2];rfl⟩,by omega,sub_same (by simp)⟩
 ·skip
  try simp at hc0
  have hke:k=n.Ends.length:=by have:¬k<n.Ends.length:=(by simpa using hc0);omega
  subst hke;rw[List.drop_length]at k2;refine awp_exit ?_;simp only[zT,reduceIte,Nat.reduceEqDiff];refine hK1 _ _ ?_;refine awp_prune [] ?_;simp only[zP,Nat.reduceEqDiff,reduceIte];refine aS fun K hK=>?_;simp -dsimp;apply hK;clear hK K;exact awp_ret (by simp[←k2,idxTo])
theorem c_rlets1 (n:Node) (a b:Int) (ha:0≤a∧a≤1000) (hb:0≤b∧b≤1000) (hk:n.Kind=1):PureCall Tryz.prog 180 [n.av,I a,I b] (Bo (letsB n a b)):=by
 have w:IntKind.i64.wrap (a+b)=a+b:=wrap_in (by omega) (by omega);have w2:(a+b).tmod 2=(a+b) % 2:=Int.tmod_eq_emod_of_nonneg (by omega);unfold letsB;simp only[Node.av,Node.cells,hk,Int.reduceEq,if_false,if_true,reduceIte];refine PureCall.of_body Tryz.func180 rfl (by decide) (by simp[Tryz.ntmps180]) ?_;simp only[Tryz.ntmps180,Tryz.results180];refine aS fun K hK=>?_;simp -dsimp [w,w2];apply hK;clear hK K;refine awp_seq_k fun K1 hK1=>?_;refine aS fun K hK=>?_;simp -dsimp [w,w2];apply hK;clear hK K;refine awp_block ?_;refine aS fun K hK=>?_;simp -dsimp [w,w2];apply hK;clear hK K;refine awp_cond rfl (fun hc0=>?_) (fun hc0=>?_)
 ·refine aS fun K hK=>?_;simp -dsimp [w,w2];apply hK;clear hK K
  first|(exfalso;simp at hc0;done)|(exfalso;simp at hc1;done)|(exfalso;simp at hc2;done)|(exfalso;simp at hc3;done)|(exfalso;simp at hc4;done)|(refine awp_ret ?_;simp;done)|(refine awp_ret ?_;simp;exact Bool.eq_iff_iff.2 (by simp;try omega))
 ·refine aS fun K hK=>?_;simp -dsimp [w,w2];apply hK;clear hK K;refine awp_cond rfl (fun hc1=>?_) (fun hc1=>?_)
  ·refine aS fun K hK=>?_;simp -dsimp [w,w2];apply hK;clear hK K
   first|(exfalso;simp at hc0;done)|(exfalso;simp at hc1;done)|(exfalso;simp at hc2;done)|(exfalso;simp at hc3;done)|(exfalso;simp at hc4;done)|(refine awp_ret ?_;simp;done)|(refine awp_ret ?_;simp;exact Bool.eq_iff_iff.2 (by simp;try omega))
  ·refine aS fun K hK=>?_;simp -dsimp [w,w2];apply hK;clear hK K;refine awp_cond rfl (fun hc2=>?_) (fun hc2=>?_)
   ·refine aS fun K hK=>?_;simp -dsimp [w,w2];apply hK;clear hK K
    first|(exfalso;simp at hc0;done)|(exfalso;simp at hc1;done)|(exfalso;simp at hc2;done)|(exfalso;simp at hc3;done)|(exfalso;simp at hc4;done)|(refine awp_ret ?_;simp;done)|(refine awp_ret ?_;simp;exact Bool.eq_iff_iff.2 (by simp;try omega))
   ·refine aS fun K hK=>?_;simp -dsimp [w,w2];apply hK;clear hK K;refine awp_cond rfl (fun hc3=>?_) (fun hc3=>?_)
    ·refine aS fun K hK=>?_;simp -dsimp [w,w2];apply hK;clear hK K
     first|(exfalso;simp at hc0;done)|(exfalso;simp at hc1;done)|(exfalso;simp at hc2;done)|(exfalso;simp at hc3;done)|(exfalso;simp at hc4;done)|(refine awp_ret ?_;simp;done)|(refine awp_ret ?_;simp;exact Bool.eq_iff_iff.2 (by simp;try omega))
    ·refine aS fun K hK=>?_;simp -dsimp [w,w2];apply hK;clear hK K;refine awp_cond rfl (fun hc4=>?_) (fun hc4=>?_)
     ·refine aS fun K hK=>?_;simp -dsimp [w,w2];apply hK;clear hK K
      first|(exfalso;simp at hc0;done)|(exfalso;simp at hc1;done)|(exfalso;simp at hc2;done)|(exfalso;simp at hc3;done)|(exfalso;simp at hc4;done)|(refine awp_ret ?_;simp;done)|(refine awp_ret ?_;simp;exact Bool.eq_iff_iff.2 (by simp;try omega))
     ·refine awp_skip ?_;simp only[zT,reduceIte,Nat.reduceEqDiff];refine hK1 _ _ ?_;refine awp_prune [] ?_;simp only[zP,Nat.reduceEqDiff,reduceIte];refine aS fun K hK=>?_;simp -dsimp [w,w2];apply hK;clear hK K
      first|(exfalso;simp at hc0;done)|(exfalso;simp at hc1;done)|(exfalso;simp at hc2;done)|(exfalso;simp at hc3;done)|(exfalso;simp at hc4;done)|(refine awp_ret ?_;simp;done)|(refine awp_ret ?_;simp;exact Bool.eq_iff_iff.2 (by simp;try omega))
theorem c_rlets2 (n:Node) (a b:Int) (ha:0≤a∧a≤1000) (hb:0≤b∧b≤1000) (hk:n.Kind=2):PureCall Tryz.prog 180 [n.av,I a,I b] (Bo (letsB n a b)):=by
 have w:IntKind.i64.wrap (a+b)=a+b:=wrap_in (by omega) (by omega);have w2:(a+b).tmod 2=(a+b) % 2:=Int.tmod_eq_emod_of_nonneg (by omega);unfold letsB;simp only[Node.av,Node.cells,hk,Int.reduceEq,if_false,if_true,reduceIte];refine PureCall.of_body Tryz.func180 rfl (by decide) (by simp[Tryz.ntmps180]) ?_;simp only[Tryz.ntmps180,Tryz.results180];refine aS fun K hK=>?_;simp -dsimp [w,w2];apply hK;clear hK K;refine awp_seq_k fun K1 hK1=>?_;refine aS fun K hK=>?_;simp -dsimp [w,w2];apply hK;clear hK K;refine awp_block ?_;refine aS fun K hK=>?_;simp -dsimp [w,w2];apply hK;clear hK K;refine awp_cond rfl (fun hc0=>?_) (fun hc0=>?_)
 ·refine aS fun K hK=>?_;simp -dsimp [w,w2];apply hK;clear hK K
  first|(exfalso;simp at hc0;done)|(exfalso;simp at hc1;done)|(exfalso;simp at hc2;done)|(exfalso;simp at hc3;done)|(exfalso;simp at hc4;done)|(refine awp_ret ?_;simp;done)|(refine awp_ret ?_;simp;exact Bool.eq_iff_iff.2 (by simp;try omega))
 ·refine aS fun K hK=>?_;simp -dsimp [w,w2];apply hK;clear hK K;refine awp_cond rfl (fun hc1=>?_) (fun hc1=>?_)
  ·refine aS fun K hK=>?_;simp -dsimp [w,w2];apply hK;clear hK K
   first|(exfalso;simp at hc0;done)|(exfalso;simp at hc1;done)|(exfalso;simp at hc2;done)|(exfalso;simp at hc3;done)|(exfalso;simp at hc4;done)|(refine awp_ret ?_;simp;done)|(refine awp_ret ?_;simp;exact Bool.eq_iff_iff.2 (by simp;try omega))
  ·refine aS fun K hK=>?_;simp -dsimp [w,w2];apply hK;clear hK K;refine awp_cond rfl (fun hc2=>?_) (fun hc2=>?_)
   ·refine aS fun K hK=>?_;simp -dsimp [w,w2];apply hK;clear hK K
    first|(exfalso;simp at hc0;done)|(exfalso;simp at hc1;done)|(exfalso;simp at hc2;done)|(exfalso;simp at hc3;done)|(exfalso;simp at hc4;done)|(refine awp_ret ?_;simp;done)|(refine awp_ret ?_;simp;exact Bool.eq_iff_iff.2 (by simp;try omega))
   ·refine aS fun K hK=>?_;simp -dsimp [w,w2];apply hK;clear hK K;refine awp_cond rfl (fun hc3=>?_) (fun hc3=>?_)
    ·refine aS fun K hK=>?_;simp -dsimp [w,w2];apply hK;clear hK K
     first|(exfalso;simp at hc0;done)|(exfalso;simp at hc1;done)|(exfalso;simp at hc2;done)|(exfalso;simp at hc3;done)|(exfalso;simp at hc4;done)|(refine awp_ret ?_;simp;done)|(refine awp_ret ?_;simp;exact Bool.eq_iff_iff.2 (by simp;try omega))
    ·refine aS fun K hK=>?_;simp -dsimp [w,w2];apply hK;clear hK K;refine awp_cond rfl (fun hc4=>?_) (fun hc4=>?_)
     ·refine aS fun K hK=>?_;simp -dsimp [w,w2];apply hK;clear hK K
      first|(exfalso;simp at hc0;done)|(exfalso;simp at hc1;done)|(exfalso;simp at hc2;done)|(exfalso;simp at hc3;done)|(exfalso;simp at hc4;done)|(refine awp_ret ?_;simp;done)|(refine awp_ret ?_;simp;exact Bool.eq_iff_iff.2 (by simp;try omega))
     ·refine awp_skip ?_;simp only[zT,reduceIte,Nat.reduceEqDiff];refine hK1 _ _ ?_;refine awp_prune [] ?_;simp only[zP,Nat.reduceEqDiff,reduceIte];refine aS fun K hK=>?_;simp -dsimp [w,w2];apply hK;clear hK K
      first|(exfalso;simp at hc0;done)|(exfalso;simp at hc1;done)|(exfalso;simp at hc2;done)|(exfalso;simp at hc3;done)|(exfalso;simp at hc4;done)|(refine awp_ret ?_;simp;done)|(refine awp_ret ?_;simp;exact Bool.eq_iff_iff.2 (by simp;try omega))
theorem c_rlets3 (n:Node) (a b:Int) (ha:0≤a∧a≤1000) (hb:0≤b∧b≤1000) (hk:n.Kind=3):PureCall Tryz.prog 180 [n.av,I a,I b] (Bo (letsB n a b)):=by
 have w:IntKind.i64.wrap (a+b)=a+b:=wrap_in (by omega) (by omega);have w2:(a+b).tmod 2=(a+b) % 2:=Int.tmod_eq_emod_of_nonneg (by omega);unfold letsB;simp only[Node.av,Node.cells,hk,Int.reduceEq,if_false,if_true,reduceIte];refine PureCall.of_body Tryz.func180 rfl (by decide) (by simp[Tryz.ntmps180]) ?_;simp only[Tryz.ntmps180,Tryz.results180];refine aS fun K hK=>?_;simp -dsimp [w,w2];apply hK;clear hK K;refine awp_seq_k fun K1 hK1=>?_;refine aS fun K hK=>?_;simp -dsimp [w,w2];apply hK;clear hK K;refine awp_block ?_;refine aS fun K hK=>?_;simp -dsimp [w,w2];apply hK;clear hK K;refine awp_cond rfl (fun hc0=>?_) (fun hc0=>?_)
 ·refine aS fun K hK=>?_;simp -dsimp [w,w2];apply hK;clear hK K
  first|(exfalso;simp at hc0;done)|(exfalso;simp at hc1;done)|(exfalso;simp at hc2;done)|(exfalso;simp at hc3;done)|(exfalso;simp at hc4;done)|(refine awp_ret ?_;simp;done)|(refine awp_ret ?_;simp;exact Bool.eq_iff_iff.2 (by simp;try omega))
 ·refine aS fun K hK=>?_;simp -dsimp [w,w2];apply hK;clear hK K;refine awp_cond rfl (fun hc1=>?_) (fun hc1=>?_)
  ·refine aS fun K hK=>?_;simp -dsimp [w,w2];apply hK;clear hK K
   first|(exfalso;simp at hc0;done)|(exfalso;simp at hc1;done)|(exfalso;simp at hc2;done)|(exfalso;simp at hc3;done)|(exfalso;simp at hc4;done)|(refine awp_ret ?_;simp;done)|(refine awp_ret ?_;simp;exact Bool.eq_iff_iff.2 (by simp;try omega))
  ·refine aS fun K hK=>?_;simp -dsimp [w,w2];apply hK;clear hK K;refine awp_cond rfl (fun hc2=>?_) (fun hc2=>?_)
   ·refine aS fun K hK=>?_;simp -dsimp [w,w2];apply hK;clear hK K
    first|(exfalso;simp at hc0;done)|(exfalso;simp at hc1;done)|(exfalso;simp at hc2;done)|(exfalso;simp at hc3;done)|(exfalso;simp at hc4;done)|(refine awp_ret ?_;simp;done)|(refine awp_ret ?_;simp;exact Bool.eq_iff_iff.2 (by simp;try omega))
   ·refine aS fun K hK=>?_;simp -dsimp [w,w2];apply hK;clear hK K;refine awp_cond rfl (fun hc3=>?_) (fun hc3=>?_)
    ·refine aS fun K hK=>?_;simp -dsimp [w,w2];apply hK;clear hK K
     first|(exfalso;simp at hc0;done)|(exfalso;simp at hc1;done)|(exfalso;simp at hc2;done)|(exfalso;simp at hc3;done)|(exfalso;simp at hc4;done)|(refine awp_ret ?_;simp;done)|(refine awp_ret ?_;simp;exact Bool.eq_iff_iff.2 (by simp;try omega))
    ·refine aS fun K hK=>?_;simp -dsimp [w,w2];apply hK;clear hK K;refine awp_cond rfl (fun hc4=>?_) (fun hc4=>?_)
     ·refine aS fun K hK=>?_;simp -dsimp [w,w2];apply hK;clear hK K
      first|(exfalso;simp at hc0;done)|(exfalso;simp at hc1;done)|(exfalso;simp at hc2;done)|(exfalso;simp at hc3;done)|(exfalso;simp at hc4;done)|(refine awp_ret ?_;simp;done)|(refine awp_ret ?_;simp;exact Bool.eq_iff_iff.2 (by simp;try omega))
     ·refine awp_skip ?_;simp only[zT,reduceIte,Nat.reduceEqDiff];refine hK1 _ _ ?_;refine awp_prune [] ?_;simp only[zP,Nat.reduceEqDiff,reduceIte];refine aS fun K hK=>?_;simp -dsimp [w,w2];apply hK;clear hK K
      first|(exfalso;simp at hc0;done)|(exfalso;simp at hc1;done)|(exfalso;simp at hc2;done)|(exfalso;simp at hc3;done)|(exfalso;simp at hc4;done)|(refine awp_ret ?_;simp;done)|(refine awp_ret ?_;simp;exact Bool.eq_iff_iff.2 (by simp;try omega))
theorem c_rlets4 (n:Node) (a b:Int) (ha:0≤a∧a≤1000) (hb:0≤b∧b≤1000) (hk:n.Kind=4):PureCall Tryz.prog 180 [n.av,I a,I b] (Bo (letsB n a b)):=by
 have w:IntKind.i64.wrap (a+b)=a+b:=wrap_in (by omega) (by omega);have w2:(a+b).tmod 2=(a+b) % 2:=Int.tmod_eq_emod_of_nonneg (by omega);unfold letsB;simp only[Node.av,Node.cells,hk,Int.reduceEq,if_false,if_true,reduceIte];refine PureCall.of_body Tryz.func180 rfl (by decide) (by simp[Tryz.ntmps180]) ?_;simp only[Tryz.ntmps180,Tryz.results180];refine aS fun K hK=>?_;simp -dsimp [w,w2];apply hK;clear hK K;refine awp_seq_k fun K1 hK1=>?_;refine aS fun K hK=>?_;simp -dsimp [w,w2];apply hK;clear hK K;refine awp_block ?_;refine aS fun K hK=>?_;simp -dsimp [w,w2];apply hK;clear hK K;refine awp_cond rfl (fun hc0=>?_) (fun hc0=>?_)
 ·refine aS fun K hK=>?_;simp -dsimp [w,w2];apply hK;clear hK K
  first|(exfalso;simp at hc0;done)|(exfalso;simp at hc1;done)|(exfalso;simp at hc2;done)|(exfalso;simp at hc3;done)|(exfalso;simp at hc4;done)|(refine awp_ret ?_;simp;done)|(refine awp_ret ?_;simp;exact Bool.eq_iff_iff.2 (by simp;try omega))
 ·refine aS fun K hK=>?_;simp -dsimp [w,w2];apply hK;clear hK K;refine awp_cond rfl (fun hc1=>?_) (fun hc1=>?_)
  ·refine aS fun K hK=>?_;simp -dsimp [w,w2];apply hK;clear hK K
   first|(exfalso;simp at hc0;done)|(exfalso;simp at hc1;done)|(exfalso;simp at hc2;done)|(exfalso;simp at hc3;done)|(exfalso;simp at hc4;done)|(refine awp_ret ?_;simp;done)|(refine awp_ret ?_;simp;exact Bool.eq_iff_iff.2 (by simp;try omega))
  ·refine aS fun K hK=>?_;simp -dsimp [w,w2];apply hK;clear hK K;refine awp_cond rfl (fun hc2=>?_) (fun hc2=>?_)
   ·refine aS fun K hK=>?_;simp -dsimp [w,w2];apply hK;clear hK K
    first|(exfalso;simp at hc0;done)|(exfalso;simp at hc1;done)|(exfalso;simp at hc2;done)|(exfalso;simp at hc3;done)|(exfalso;simp at hc4;done)|(refine awp_ret ?_;simp;done)|(refine awp_ret ?_;simp;exact Bool.eq_iff_iff.2 (by simp;try omega))
   ·refine aS fun K hK=>?_;simp -dsimp [w,w2];apply hK;clear hK K;refine awp_cond rfl (fun hc3=>?_) (fun hc3=>?_)
    ·refine aS fun K hK=>?_;simp -dsimp [w,w2];apply hK;clear hK K
     first|(exfalso;simp at hc0;done)|(exfalso;simp at hc1;done)|(exfalso;simp at hc2;done)|(exfalso;simp at hc3;done)|(exfalso;simp at hc4;done)|(refine awp_ret ?_;simp;done)|(refine awp_ret ?_;simp;exact Bool.eq_iff_iff.2 (by simp;try omega))
    ·refine aS fun K hK=>?_;simp -dsimp [w,w2];apply hK;clear hK K;refine awp_cond rfl (fun hc4=>?_) (fun hc4=>?_)
     ·refine aS fun K hK=>?_;simp -dsimp [w,w2];apply hK;clear hK K
      first|(exfalso;simp at hc0;done)|(exfalso;simp at hc1;done)|(exfalso;simp at hc2;done)|(exfalso;simp at hc3;done)|(exfalso;simp at hc4;done)|(refine awp_ret ?_;simp;done)|(refine awp_ret ?_;simp;exact Bool.eq_iff_iff.2 (by simp;try omega))
     ·refine awp_skip ?_;simp only[zT,reduceIte,Nat.reduceEqDiff];refine hK1 _ _ ?_;refine awp_prune [] ?_;simp only[zP,Nat.reduceEqDiff,reduceIte];refine aS fun K hK=>?_;simp -dsimp [w,w2];apply hK;clear hK K
      first|(exfalso;simp at hc0;done)|(exfalso;simp at hc1;done)|(exfalso;simp at hc2;done)|(exfalso;simp at hc3;done)|(exfalso;simp at hc4;done)|(refine awp_ret ?_;simp;done)|(refine awp_ret ?_;simp;exact Bool.eq_iff_iff.2 (by simp;try omega))
theorem c_rlets5 (n:Node) (a b:Int) (ha:0≤a∧a≤1000) (hb:0≤b∧b≤1000) (hk:n.Kind=5):PureCall Tryz.prog 180 [n.av,I a,I b] (Bo (letsB n a b)):=by
 have w:IntKind.i64.wrap (a+b)=a+b:=wrap_in (by omega) (by omega);have w2:(a+b).tmod 2=(a+b) % 2:=Int.tmod_eq_emod_of_nonneg (by omega);unfold letsB;simp only[Node.av,Node.cells,hk,Int.reduceEq,if_false,if_true,reduceIte];refine PureCall.of_body Tryz.func180 rfl (by decide) (by simp[Tryz.ntmps180]) ?_;simp only[Tryz.ntmps180,Tryz.results180];refine aS fun K hK=>?_;simp -dsimp [w,w2];apply hK;clear hK K;refine awp_seq_k fun K1 hK1=>?_;refine aS fun K hK=>?_;simp -dsimp [w,w2];apply hK;clear hK K;refine awp_block ?_;refine aS fun K hK=>?_;simp -dsimp [w,w2];apply hK;clear hK K;refine awp_cond rfl (fun hc0=>?_) (fun hc0=>?_)
 ·refine aS fun K hK=>?_;simp -dsimp [w,w2];apply hK;clear hK K
  first|(exfalso;simp at hc0;done)|(exfalso;simp at hc1;done)|(exfalso;simp at hc2;done)|(exfalso;simp at hc3;done)|(exfalso;simp at hc4;done)|(refine awp_ret ?_;simp;done)|(refine awp_ret ?_;simp;exact Bool.eq_iff_iff.2 (by simp;try omega))
 ·refine aS fun K hK=>?_;simp -dsimp [w,w2];apply hK;clear hK K;refine awp_cond rfl (fun hc1=>?_) (fun hc1=>?_)
  ·refine aS fun K hK=>?_;simp -dsimp [w,w2];apply hK;clear hK K
   first|(exfalso;simp at hc0;done)|(exfalso;simp at hc1;done)|(exfalso;simp at hc2;done)|(exfalso;simp at hc3;done)|(exfalso;simp at hc4;done)|(refine awp_ret ?_;simp;done)|(refine awp_ret ?_;simp;exact Bool.eq_iff_iff.2 (by simp;try omega))
  ·refine aS fun K hK=>?_;simp -dsimp [w,w2];apply hK;clear hK K;refine awp_cond rfl (fun hc2=>?_) (fun hc2=>?_)
   ·refine aS fun K hK=>?_;simp -dsimp [w,w2];apply hK;clear hK K
    first|(exfalso;simp at hc0;done)|(exfalso;simp at hc1;done)|(exfalso;simp at hc2;done)|(exfalso;simp at hc3;done)|(exfalso;simp at hc4;done)|(refine awp_ret ?_;simp;done)|(refine awp_ret ?_;simp;exact Bool.eq_iff_iff.2 (by simp;try omega))
   ·refine aS fun K hK=>?_;simp -dsimp [w,w2];apply hK;clear hK K;refine awp_cond rfl (fun hc3=>?_) (fun hc3=>?_)
    ·refine aS fun K hK=>?_;simp -dsimp [w,w2];apply hK;clear hK K
     first|(exfalso;simp at hc0;done)|(exfalso;simp at hc1;done)|(exfalso;simp at hc2;done)|(exfalso;simp at hc3;done)|(exfalso;simp at hc4;done)|(refine awp_ret ?_;simp;done)|(refine awp_ret ?_;simp;exact Bool.eq_iff_iff.2 (by simp;try omega))
    ·refine aS fun K hK=>?_;simp -dsimp [w,w2];apply hK;clear hK K;refine awp_cond rfl (fun hc4=>?_) (fun hc4=>?_)
     ·refine aS fun K hK=>?_;simp -dsimp [w,w2];apply hK;clear hK K
      first|(exfalso;simp at hc0;done)|(exfalso;simp at hc1;done)|(exfalso;simp at hc2;done)|(exfalso;simp at hc3;done)|(exfalso;simp at hc4;done)|(refine awp_ret ?_;simp;done)|(refine awp_ret ?_;simp;exact Bool.eq_iff_iff.2 (by simp;try omega))
     ·refine awp_skip ?_;simp only[zT,reduceIte,Nat.reduceEqDiff];refine hK1 _ _ ?_;refine awp_prune [] ?_;simp only[zP,Nat.reduceEqDiff,reduceIte];refine aS fun K hK=>?_;simp -dsimp [w,w2];apply hK;clear hK K
      first|(exfalso;simp at hc0;done)|(exfalso;simp at hc1;done)|(exfalso;simp at hc2;done)|(exfalso;simp at hc3;done)|(exfalso;simp at hc4;done)|(refine awp_ret ?_;simp;done)|(refine awp_ret ?_;simp;exact Bool.eq_iff_iff.2 (by simp;try omega))
theorem c_rlets6 (n:Node) (a b:Int) (ha:0≤a∧a≤1000) (hb:0≤b∧b≤1000) (hk:n.Kind=6):PureCall Tryz.prog 180 [n.av,I a,I b] (Bo (letsB n a b)):=by
 have w:IntKind.i64.wrap (a+b)=a+b:=wrap_in (by omega) (by omega);have w2:(a+b).tmod 2=(a+b) % 2:=Int.tmod_eq_emod_of_nonneg (by omega);unfold letsB;simp only[Node.av,Node.cells,hk,Int.reduceEq,if_false,if_true,reduceIte];refine PureCall.of_body Tryz.func180 rfl (by decide) (by simp[Tryz.ntmps180]) ?_;simp only[Tryz.ntmps180,Tryz.results180];refine aS fun K hK=>?_;simp -dsimp [w,w2];apply hK;clear hK K;refine awp_seq_k fun K1 hK1=>?_;refine aS fun K hK=>?_;simp -dsimp [w,w2];apply hK;clear hK K;refine awp_block ?_;refine aS fun K hK=>?_;simp -dsimp [w,w2];apply hK;clear hK K;refine awp_cond rfl (fun hc0=>?_) (fun hc0=>?_)
 ·refine aS fun K hK=>?_;simp -dsimp [w,w2];apply hK;clear hK K
  first|(exfalso;simp at hc0;done)|(exfalso;simp at hc1;done)|(exfalso;simp at hc2;done)|(exfalso;simp at hc3;done)|(exfalso;simp at hc4;done)|(refine awp_ret ?_;simp;done)|(refine awp_ret ?_;simp;exact Bool.eq_iff_iff.2 (by simp;try omega))
 ·refine aS fun K hK=>?_;simp -dsimp [w,w2];apply hK;clear hK K;refine awp_cond rfl (fun hc1=>?_) (fun hc1=>?_)
  ·refine aS fun K hK=>?_;simp -dsimp [w,w2];apply hK;clear hK K
   first|(exfalso;simp at hc0;done)|(exfalso;simp at hc1;done)|(exfalso;simp at hc2;done)|(exfalso;simp at hc3;done)|(exfalso;simp at hc4;done)|(refine awp_ret ?_;simp;done)|(refine awp_ret ?_;simp;exact Bool.eq_iff_iff.2 (by simp;try omega))
  ·refine aS fun K hK=>?_;simp -dsimp [w,w2];apply hK;clear hK K;refine awp_cond rfl (fun hc2=>?_) (fun hc2=>?_)
   ·refine aS fun K hK=>?_;simp -dsimp [w,w2];apply hK;clear hK K
    first|(exfalso;simp at hc0;done)|(exfalso;simp at hc1;done)|(exfalso;simp at hc2;done)|(exfalso;simp at hc3;done)|(exfalso;simp at hc4;done)|(refine awp_ret ?_;simp;done)|(refine awp_ret ?_;simp;exact Bool.eq_iff_iff.2 (by simp;try omega))
   ·refine aS fun K hK=>?_;simp -dsimp [w,w2];apply hK;clear hK K;refine awp_cond rfl (fun hc3=>?_) (fun hc3=>?_)
    ·refine aS fun K hK=>?_;simp -dsimp [w,w2];apply hK;clear hK K
     first|(exfalso;simp at hc0;done)|(exfalso;simp at hc1;done)|(exfalso;simp at hc2;done)|(exfalso;simp at hc3;done)|(exfalso;simp at hc4;done)|(refine awp_ret ?_;simp;done)|(refine awp_ret ?_;simp;exact Bool.eq_iff_iff.2 (by simp;try omega))
    ·refine aS fun K hK=>?_;simp -dsimp [w,w2];apply hK;clear hK K;refine awp_cond rfl (fun hc4=>?_) (fun hc4=>?_)
     ·refine aS fun K hK=>?_;simp -dsimp [w,w2];apply hK;clear hK K
      first|(exfalso;simp at hc0;done)|(exfalso;simp at hc1;done)|(exfalso;simp at hc2;done)|(exfalso;simp at hc3;done)|(exfalso;simp at hc4;done)|(refine awp_ret ?_;simp;done)|(refine awp_ret ?_;simp;exact Bool.eq_iff_iff.2 (by simp;try omega))
     ·refine awp_skip ?_;simp only[zT,reduceIte,Nat.reduceEqDiff];refine hK1 _ _ ?_;refine awp_prune [] ?_;simp only[zP,Nat.reduceEqDiff,reduceIte];refine aS fun K hK=>?_;simp -dsimp [w,w2];apply hK;clear hK K
      first|(exfalso;simp at hc0;done)|(exfalso;simp at hc1;done)|(exfalso;simp at hc2;done)|(exfalso;simp at hc3;done)|(exfalso;simp at hc4;done)|(refine awp_ret ?_;simp;done)|(refine awp_ret ?_;simp;exact Bool.eq_iff_iff.2 (by simp;try omega))
theorem c_rlets (n:Node) (a b:Int) (ha:0≤a∧a≤1000) (hb:0≤b∧b≤1000) (hk:1≤n.Kind∧n.Kind≤6):PureCall Tryz.prog 180 [n.av,I a,I b] (Bo (letsB n a b)):=by
 have:n.Kind=1∨n.Kind=2∨n.Kind=3∨n.Kind=4∨n.Kind=5∨n.Kind=6:=by omega
 rcases this with h|h|h|h|h|h
 ·exact c_rlets1 n a b ha hb h
 ·exact c_rlets2 n a b ha hb h
 ·exact c_rlets3 n a b ha hb h
 ·exact c_rlets4 n a b ha hb h
 ·exact c_rlets5 n a b ha hb h
 ·exact c_rlets6 n a b ha hb h
theorem idxTo_bd (e:REnd):∀(l:List REnd) (i:Int),0≤i→ -1≤idxTo e l i∧idxTo e l i≤i+l.length
 |[],i,h=>by simp[idxTo];omega
 |x::l,i,h=>by
  have:=idxTo_bd e l (i+1) (by omega);simp only[idxTo]
  split<;>simp<;>omega
theorem idxE_bd (n:Node) (e:REnd):-1≤idxE n e∧idxE n e≤n.Ends.length:=by
 have:=idxTo_bd e n.Ends 0 (by omega);unfold idxE;omega
theorem c_rFollows (p:Plan) (m k:Move) (hv:validB p=true) (hm:movB p m=true):PureCall Tryz.prog 136 [p.av,m.av,k.av] (Bo (rFoll p m k)):=by
 have hm':=movB_iff.1 hm;have ha:=at_in hv (e:=arrE m) hm'.1 hm'.2;have hnode:=p.node_get ha.1 ha.2;have hnf:=node_kind (node_fine hv ha.1 ha.2);have hca:=c_at p (arrE m) hm'.1 hm'.2;have hna:p.node (p.at (arrE m))=nodeAt p m:=rfl;rw[hna]at hnode hnf;have hi1:=c_index (nodeAt p m) (arrE m) (by omega);have hi2:=c_index (nodeAt p m) (leaE k) (by omega);have hb1:=idxE_bd (nodeAt p m) (arrE m);have hb2:=idxE_bd (nodeAt p m) (leaE k);have hlt:=fun h1 h2=>c_rlets (nodeAt p m) (idxE (nodeAt p m) (arrE m)) (idxE (nodeAt p m) (leaE k)) ⟨h1,by omega⟩ ⟨h2,by omega⟩ hnf.1;have hrf:rFoll p m k=(decide (0≤idxE (nodeAt p m) (arrE m))&&(decide (0≤idxE (nodeAt p m) (leaE k))&&letsB (nodeAt p m) (idxE (nodeAt p m) (arrE m)) (idxE (nodeAt p m) (leaE k)))):=rfl;rw[hrf];generalize letsB (nodeAt p m) (idxE (nodeAt p m) (arrE m)) (idxE (nodeAt p m) (leaE k))=lt at hlt ⊢;generalize nodeAt p m=n at*
 refine PureCall.of_body Tryz.func136 rfl (by decide) (by simp[Tryz.ntmps136]) ?_;simp only[Tryz.ntmps136,Tryz.results136];refine aS fun K hK=>?_;simp -dsimp;apply hK;clear hK K;refine awp_sd mixed rfl fun K hK=>?_;simp -dsimp;refine callK_intro _ (c_rarr m) (by simp) ?_;simp -dsimp;refine callK_intro _ (hca) (by simp) ?_;simp -dsimp;refine hK _ _ _ (by decide+kernel) ?_;clear hK K;refine aS fun K hK=>?_;simp -dsimp [hnode,ha.1];apply hK;clear hK K;refine awp_sd mixed rfl fun K hK=>?_;simp -dsimp;refine callK_intro _ (c_rarr m) (by simp) ?_;simp -dsimp;refine callK_intro _ (hi1) (by simp) ?_;simp -dsimp;refine callK_intro _ (c_rlea k) (by simp) ?_;simp -dsimp;refine callK_intro _ (hi2) (by simp) ?_;simp -dsimp;refine hK _ _ _ (by decide+kernel) ?_;clear hK K;refine aS fun K hK=>?_;simp -dsimp;refine callK_may _ (fun hm=>hlt (by simp at hm;exact hm.1) (by simp at hm;exact hm.2)) (by simp) ?_;simp -dsimp;apply hK;clear hK K;exact awp_ret (by simp[Bool.and_assoc])
def rNx (p:Plan) (m:Move) (j:Nat):List Move:=((List.range j).filter (fun(i:Nat)=>rFoll p m (moveM i))).map fun(i:Nat)=>moveM i
@[simp] theorem rNx_zero (p:Plan) (m:Move):rNx p m 0=[]:=rfl
theorem rNx_succ (p:Plan) (m:Move) (j:Nat):rNx p m (j+1)=rNx p m j++if rFoll p m (moveM j)then [moveM j]else []:=by
 unfold rNx;rw[List.range_succ,List.filter_append,List.map_append]
 cases h:rFoll p m (moveM j)<;>simp[h]
theorem rNx_len (p:Plan) (m:Move) (j:Nat):(rNx p m j).length≤j:=by
 unfold rNx;have:=List.length_filter_le (fun(i:Nat)=>rFoll p m (moveM i)) (List.range j);simpa using this
theorem c_rNext (p:Plan) (m:Move) (hv:validB p=true) (hm:movB p m=true):PureCall Tryz.prog 95 [p.av,m.av] (mLst (nextL p m)):=by
 have hR:=(valid_parts hv).2.1;have w2:IntKind.i64.wrap (2*(p.Rails.length:Int))=2*(p.Rails.length:Int):=wrap_in (by omega) (by omega);have hfo:=fun k=>c_rFollows p m k hv hm;have hsu:=rNx_succ p m;rw[next_eq hv hm];show PureCall _ _ _ (mLst (rNx p m (2*p.Rails.length)));refine PureCall.of_body Tryz.func95 rfl (by decide) (by simp[Tryz.ntmps95]) ?_;simp only[Tryz.ntmps95,Tryz.results95];refine aS fun K hK=>?_;simp -dsimp;apply hK;clear hK K;refine aS fun K hK=>?_;simp -dsimp;apply hK;clear hK K;refine awp_seq_k fun K1 hK1=>?_;refine aS fun K hK=>?_;simp -dsimp;apply hK;clear hK K;refine awp_block ?_;refine awp_prune [2,3,5,6] ?_;simp only[zP,Nat.reduceEqDiff,reduceIte];refine awp_loop_l [2,3] (α:=Nat) (fun j=>[(6,I j),(5, .row 2 0 (rNx p m j).length)]) (fun j=>[some (.els 2 [p.cells]),some (.els 2 [m.cells]),some (.els 2 ((rNx p m j).map Move.cells))]) (fun j=>j≤2*p.Rails.length) (fun j=>2*p.Rails.length-j) 0 ?_ ?_ ?_
 ·simp
 ·exact(sub_nil 5 2 (by simp)).trans (sub_rb [some 0,some 1,some 2] rfl (by simp) (by simp))
 rintro j j1;have hsj:=hsu j;have hlj:=rNx_len p m j;have hfj:=hfo (moveM j);generalize hA:rNx p m j=A at hsj hlj ⊢;have f1:Fits (A.length+1) 17:=fits_of (by omega) (by omega);have wj:=zW j (by omega);simp only[zP,Nat.reduceEqDiff,reduceIte];refine awp_seq_k fun K2 hK2=>?_;refine aS fun K hK=>?_;simp -dsimp [w2];apply hK;clear hK K;refine awp_cond rfl (fun hc0=>?_) (fun hc0=>?_)
 ·skip
  try simp at hc0
  refine awp_skip ?_;simp only[zT,reduceIte,Nat.reduceEqDiff];refine hK2 _ _ ?_;refine awp_prune [2,3,5,6] ?_;simp only[zP,Nat.reduceEqDiff,reduceIte];refine awp_seq_k fun K3 hK3=>?_;refine awp_block ?_;refine awp_sd mixed rfl fun K hK=>?_;simp -dsimp;refine callK_intro _ (c_rOf j (by omega) (by omega)) (by simp) ?_;simp -dsimp;refine callK_intro _ (hfj) (by simp) ?_;simp -dsimp;refine hK _ _ _ (by decide+kernel) ?_;clear hK K;refine awp_cond rfl (fun hc1=>?_) (fun hc1=>?_)
  ·skip
   try simp at hc1
   rw[hc1,if_pos rfl]at hsj;refine aR fun K hK=>?_;simp -dsimp [f1];refine callK_intro _ (c_rOf j (by omega) (by omega)) (by simp) ?_;simp -dsimp [f1];apply hK;clear hK K;simp only[zT,reduceIte,Nat.reduceEqDiff];refine hK3 _ _ ?_;refine awp_prune [2,3,5,6] ?_;simp only[zP,Nat.reduceEqDiff,reduceIte];refine aR fun K hK=>?_;simp -dsimp [wj];apply hK;clear hK K;simp only[zT,reduceIte,Nat.reduceEqDiff];exact⟨j+1,by omega,by omega,sub_rb [some 0,some 1,some 3] rfl (by simp[hsj]) (by simp[hsj])⟩
  ·skip
   try simp at hc1
   rw[hc1,if_neg (by simp)]at hsj;refine awp_skip ?_;simp only[zT,reduceIte,Nat.reduceEqDiff];refine hK3 _ _ ?_;refine awp_prune [2,3,5,6] ?_;simp only[zP,Nat.reduceEqDiff,reduceIte];refine aR fun K hK=>?_;simp -dsimp [wj];apply hK;clear hK K;simp only[zT,reduceIte,Nat.reduceEqDiff];exact⟨j+1,by omega,by omega,sub_rb [some 0,some 1,some 2] rfl (by simp[hsj]) (by simp[hsj])⟩
 ·skip
  try simp at hc0
  have hje:j=2*p.Rails.length:=by omega
  subst hje;refine awp_exit ?_;simp only[zT,reduceIte,Nat.reduceEqDiff];refine hK1 _ _ ?_;refine awp_prune [5] ?_;simp only[zP,Nat.reduceEqDiff,reduceIte];refine aS fun K hK=>?_;simp -dsimp;apply hK;clear hK K;exact awp_ret (by simp[hA])
structure Setg where
 Node:Int
 Leg:Int
 deriving DecidableEq,Inhabited
@[simp] def Setg.cells (s:Setg):List AV:=[I s.Node,I s.Leg]
def isSet (p:Plan) (m:Move):Bool:=decide ((nodeAt p m).Kind=4)
end Go.Tram
end
section
namespace Go.Tram
open Go.AM Go.Proofs
def pBetw (p:Plan) (m k:Move):Setg:=⟨p.at (arrE m),maxI (plc p (arrE m)) (plc p (leaE k))⟩
theorem c_tleaves (m:Move):PureCall Tryz.prog 124 [m.av] (.agg [I m.Rail,Bo m.Back]):=by
 refine PureCall.of_body Tryz.func124 rfl (by decide) (by simp[Tryz.ntmps124]) ?_;simp only[Tryz.ntmps124,Tryz.results124];refine aS fun K hK=>?_;simp -dsimp;apply hK;clear hK K;refine aS fun K hK=>?_;simp -dsimp;apply hK;clear hK K;exact awp_ret (by simp)
theorem c_tbetween (p:Plan) (m k:Move) (hv:validB p=true) (hm:movB p m=true):PureCall Tryz.prog 81 [.iptr (net p),m.av,k.av] (.tup [.agg (if isSet p m then pBetw p m k else⟨0,0⟩).cells,Bo (isSet p m)]):=by
 have hm':=movB_iff.1 hm;have ha:=at_in hv (e:=arrE m) hm'.1 hm'.2;have hnode:=p.node_get ha.1 ha.2;have hce:=c_ending p (arrE m) hm'.1 hm'.2;have hna:p.node (p.at (arrE m))=nodeAt p m:=rfl;rw[hna]at hnode;have hp1:=plc_val hv (arrE m);have hp2:=plc_val hv (leaE k);have hrb:pBetw p m k=⟨p.at (arrE m),maxI (plc p (arrE m)) (plc p (leaE k))⟩:=rfl;have his:isSet p m=decide ((nodeAt p m).Kind=4):=rfl;rw[hrb,his];generalize nodeAt p m=n at*
 unfold net;refine PureCall.of_body Tryz.func81 rfl (by decide) (by simp[Tryz.ntmps81]) ?_;simp only[Tryz.ntmps81,Tryz.results81];refine aS fun K hK=>?_;simp -dsimp;apply hK;clear hK K;refine awp_sd mixed rfl fun K hK=>?_;simp -dsimp;refine callK_intro _ (c_arrives m) (by simp) ?_;simp -dsimp;refine callK_intro _ (hce) (by simp) ?_;simp -dsimp;refine hK _ _ _ (by decide+kernel) ?_;clear hK K;refine awp_seq_k fun K1 hK1=>?_;refine aS fun K hK=>?_;simp -dsimp [hnode,ha.1];apply hK;clear hK K;refine awp_cond rfl (fun hc0=>?_) (fun hc0=>?_)
 ·skip
  try simp at hc0
  refine aS fun K hK=>?_;simp -dsimp;apply hK;clear hK K;exact awp_ret (by simp_all)
 ·skip
  try simp at hc0
  refine awp_skip ?_;simp only[zT,reduceIte,Nat.reduceEqDiff];refine hK1 _ _ ?_;refine awp_prune [0,4,5,6,8] ?_;simp only[zP,Nat.reduceEqDiff,reduceIte];refine awp_sd mixed rfl fun K hK=>?_;simp -dsimp;refine callK_intro _ (c_arrives m) (by simp) ?_;simp -dsimp;refine valK_intro (I (plc p (arrE m))) (fun hm=>congrArg AV.v hp1.1) ?_;simp -dsimp;refine callK_intro _ (c_tleaves k) (by simp) ?_;simp -dsimp;refine valK_intro (I (plc p (leaE k))) (fun hm=>congrArg AV.v hp2.1) ?_;simp -dsimp;refine hK _ _ _ (by decide+kernel) ?_;clear hK K;exact awp_ret (by simp_all)
theorem c_tBetween_t (p:Plan) (m k:Move) (hv:validB p=true) (hm:movB p m=true) (hk:movB p k=true):PureCall Tryz.prog 34 [p.av,m.av,k.av] (.tup [.agg (if follB p m k&&isSet p m then pBetw p m k else⟨0,0⟩).cells,I (if follB p m k&&isSet p m then 0 else 4)]):=by
 have hop:=c_open_t p hv;have hh:=c_nhas p m.Rail m.Back hv;have hhk:=c_nhas p k.Rail k.Back hv;rw[show inr m.Rail 0 (p.Rails.length-1)=true from hm]at hh;rw[show inr k.Rail 0 (p.Rails.length-1)=true from hk]at hhk;have hf:=c_follows p m k hv hm;have hb:=c_tbetween p m k hv hm;generalize net p=sh at hop hh hhk hf hb;refine PureCall.of_body Tryz.func34 rfl (by decide) (by simp[Tryz.ntmps34]) ?_;simp only[Tryz.ntmps34,Tryz.results34];refine aS fun K hK=>?_;simp -dsimp;apply hK;clear hK K;refine aS fun K hK=>?_;simp -dsimp;refine callK_intro _ (hop) (by simp) ?_;simp -dsimp;apply hK;clear hK K;refine awp_seq_k fun K1 hK1=>?_;refine aS fun K hK=>?_;simp -dsimp;refine callK_may _ (fun hm=>hh) (by simp) ?_;simp -dsimp;refine callK_may _ (fun hm=>hhk) (by simp) ?_;simp -dsimp;apply hK;clear hK K;refine awp_cond rfl (fun hc0=>?_) (fun hc0=>?_)
 ·simp at hc0
 ·refine awp_skip ?_;simp only[zT,reduceIte,Nat.reduceEqDiff];refine hK1 _ _ ?_;refine awp_prune [4,5,6,8] ?_;simp only[zP,Nat.reduceEqDiff,reduceIte];refine awp_seq_k fun K2 hK2=>?_;refine aS fun K hK=>?_;simp -dsimp;refine callK_intro _ (hf) (by simp) ?_;simp -dsimp;apply hK;clear hK K;refine awp_cond rfl (fun hc1=>?_) (fun hc1=>?_)
  ·skip
   try simp at hc1
   refine aS fun K hK=>?_;simp -dsimp;refine callK_intro _ (hb) (by simp) ?_;simp -dsimp;apply hK;clear hK K;refine aS fun K hK=>?_;simp -dsimp;apply hK;clear hK K;refine awp_cond rfl (fun hc2=>?_) (fun hc2=>?_)
   ·skip
    try simp at hc2
    refine aS fun K hK=>?_;simp -dsimp;apply hK;clear hK K;exact awp_ret (by simp_all)
   ·skip
    try simp at hc2
    refine awp_skip ?_;simp only[zT,reduceIte,Nat.reduceEqDiff];refine hK2 _ _ ?_;refine awp_prune [6] ?_;simp only[zP,Nat.reduceEqDiff,reduceIte];refine aS fun K hK=>?_;simp -dsimp;apply hK;clear hK K;exact awp_ret (by simp_all)
  ·skip
   try simp at hc1
   refine awp_skip ?_;simp only[zT,reduceIte,Nat.reduceEqDiff];refine hK2 _ _ ?_;refine awp_prune [6] ?_;simp only[zP,Nat.reduceEqDiff,reduceIte];refine aS fun K hK=>?_;simp -dsimp;apply hK;clear hK K;exact awp_ret (by simp_all)
end Go.Tram
end
section
namespace Go.Tram
open Go.AM Go.Proofs
theorem c_ExLit1:PureCall Tryz.prog 31 [] exLit:=by
 refine PureCall.of_body Tryz.func31 rfl (by decide) (by simp[Tryz.ntmps31]) ?_;simp only[Tryz.ntmps31,Tryz.results31];refine aS fun K hK=>?_;simp -dsimp;apply hK;clear hK K;refine aS fun K hK=>?_;simp -dsimp;apply hK;clear hK K;exact awp_ret (by simp[exLit])
theorem c_Example1:PureCall Tryz.prog 31 [] exPlan.av:=by
 have e:wkN 2 6 exLit=exPlan.av:=by rfl
 refine c_ExLit1.res fun w S y h=>?_;rw[←e];exact wkN_rep 2 6 _ _ h
theorem exd1:dStep exPlan (dInit exPlan 4)=⟨[-1,-1,-1,-1,0,-1],[0,0,0,0,0,0],[⟨0,1240,1⟩]⟩:=by
 have h1:dInit exPlan 4=⟨[-1,-1,-1,-1,-1,-1],[0,0,0,0,0,0],[⟨4,0,0⟩]⟩:=by rfl
 have h2:popX [⟨4,0,0⟩]=⟨4,0,0⟩:=by decide+kernel
 have h3:popQ [⟨4,0,0⟩]=[]:=by decide+kernel
 have h4:befL exPlan 4=[0]:=by decide+kernel
 have h5:nxF exPlan ⟨4,0,0⟩ 0=⟨0,1240,1⟩:=by simp[nxF,ex_len2]
 have h6:gd [(-1:Int),-1,-1,-1,-1,-1] 4=-1:=by decide+kernel
 rw[h1];simp only[dStep,h2,h3,h4];rw[show((4:Int).toNat)=4 from rfl,h6,if_neg (by omega)];simp only[pushTo,List.foldl_cons,List.foldl_nil,h5]
 rfl
theorem exd2:dStep exPlan ⟨[-1,-1,-1,-1,0,-1],[0,0,0,0,0,0],[⟨0,1240,1⟩]⟩=⟨[1240,-1,-1,-1,0,-1],[1,0,0,0,0,0],[]⟩:=by
 have h2:popX [⟨0,1240,1⟩]=⟨0,1240,1⟩:=by decide+kernel
 have h3:popQ [⟨0,1240,1⟩]=[]:=by decide+kernel
 have h4:befL exPlan 0=[]:=by decide+kernel
 have h6:gd [(-1:Int),-1,-1,-1,0,-1] 0=-1:=by decide+kernel
 simp only[dStep,h2,h3,h4];rw[show((0:Int).toNat)=0 from rfl,h6,if_neg (by omega)]
 rfl
theorem exd:(dEnd exPlan 4).ln=[1240,-1,-1,-1,0,-1]:=by
 have h:dMu exPlan (dInit exPlan 4)=43:=by decide+kernel
 unfold dEnd;rw[h];have hq:(dInit exPlan 4).q≠[]:=by simp[dInit]
 show(dRun exPlan (42+1) (dInit exPlan 4)).ln=_;rw[dRun,if_neg hq,exd1];show(dRun exPlan (41+1) _).ln=_;rw[dRun,if_neg (by simp),exd2,dRun_nil rfl]
theorem ex_cov:cvTo exPlan [⟨2,true⟩,⟨0,true⟩] 1500 800 2=[⟨2,0,540⟩,⟨0,740,1000⟩]:=by
 simp[cvTo,List.range_succ,cvStep,begTo,mvAt,cvF,cvT,ex_len0,ex_len2]
theorem ex_beg:begTo exPlan [⟨2,true⟩,⟨0,true⟩] 2=2240:=by simp[begTo,mvAt,ex_len0,ex_len2]
theorem c_known1:PureCall Tryz.prog 11 [] (Bo true):=by
 have hv:=ex_valid;have hR:exPlan.Rails.length=3:=by decide+kernel
 have h1:=c_tLength exPlan 2 hv (by omega) (by omega);rw[ex_len2]at h1;have m0:movB exPlan ⟨0,false⟩=true:=by decide+kernel
 have m2:movB exPlan ⟨2,false⟩=true:=by decide+kernel
 have h2:=c_tNext_t exPlan ⟨0,false⟩ hv m0;rw[show nextL exPlan ⟨0,false⟩=[⟨1,false⟩,⟨2,false⟩]by decide+kernel]at h2;have h3:=c_tBetween_t exPlan ⟨0,false⟩ ⟨2,false⟩ hv m0 m2;rw[show follB exPlan ⟨0,false⟩ ⟨2,false⟩=true by decide+kernel,show isSet exPlan ⟨0,false⟩=true by decide+kernel,show pBetw exPlan ⟨0,false⟩ ⟨2,false⟩=⟨1,2⟩by decide+kernel]at h3;have hw:wayB exPlan [⟨2,true⟩,⟨0,true⟩]=true:=by decide+kernel
 have h4:=c_tCovers_t exPlan [⟨2,true⟩,⟨0,true⟩] 1500 800 hv hw (by omega) (by omega) (by show(1500:Int)≤begTo exPlan [⟨2,true⟩,⟨0,true⟩] 2;rw[ex_beg];omega);rw[show cvTo exPlan [⟨2,true⟩,⟨0,true⟩] 1500 800 ([⟨2,true⟩,⟨0,true⟩]:List Move).length=[⟨2,0,540⟩,⟨0,740,1000⟩]from ex_cov]at h4;have h4':=h4.wk (args:=[exPlan.av, .full 2 [[I 2,Bo true],[I 0,Bo true]],I 1500,I 800]) (by rfl);have h5:=c_tDistances_t exPlan ⟨2,false⟩ hv m2;rw[show numM ⟨2,false⟩=4 by decide,exd]at h5;have s1:=c_SameM_full [⟨1,false⟩,⟨2,false⟩] (by simp);have s2:=c_SameC_full [⟨2,0,540⟩,⟨0,740,1000⟩] (by simp);have s3:=c_SameI_full [1240,-1,-1,-1,0,-1] (by simp);have h0:=c_Example1;generalize exPlan=p at*
 simp only[List.map_cons,List.map_nil]at h2 h4' h5 s1 s2 s3;refine PureCall.of_body Tryz.func11 rfl (by decide) (by simp[Tryz.ntmps11]) ?_;simp only[Tryz.ntmps11,Tryz.results11];refine aS fun K hK=>?_;simp -dsimp;apply hK;clear hK K;refine aS fun K hK=>?_;simp -dsimp;refine callK_intro _ (h0) (by simp) ?_;simp -dsimp;apply hK;clear hK K;refine aS fun K hK=>?_;simp -dsimp;refine callK_intro _ (h1) (by simp) ?_;simp -dsimp;apply hK;clear hK K;refine aS fun K hK=>?_;simp -dsimp;refine callK_intro _ (h2) (by simp) ?_;simp -dsimp;apply hK;clear hK K;refine aS fun K hK=>?_;simp -dsimp;refine callK_intro _ (h3) (by simp) ?_;simp -dsimp;apply hK;clear hK K;refine aS fun K hK=>?_;simp -dsimp;refine callK_intro _ (h4') (by simp) ?_;simp -dsimp;apply hK;clear hK K;refine aS fun K hK=>?_;simp -dsimp;refine callK_intro _ (h5) (by simp) ?_;simp -dsimp;apply hK;clear hK K;refine awp_seq_k fun K1 hK1=>?_;refine aS fun K hK=>?_;simp -dsimp;apply hK;clear hK K;refine awp_cond rfl (fun hc0=>?_) (fun hc0=>?_)
 ·simp at hc0
 ·refine awp_skip ?_;simp only[zT,reduceIte,Nat.reduceEqDiff];refine hK1 _ _ ?_;refine awp_prune [2,4,6,8,10] ?_;simp only[zP,Nat.reduceEqDiff,reduceIte];refine aS fun K hK=>?_;simp -dsimp;refine callK_may _ (fun hm=>s1) (by simp) ?_;simp -dsimp;refine callK_may _ (fun hm=>s2) (by simp) ?_;simp -dsimp;refine callK_may _ (fun hm=>s3) (by simp) ?_;simp -dsimp;apply hK;clear hK K;exact awp_ret (by simp)
end Go.Tram
end
section
namespace Go.Tram
open Go.AM Go.Proofs
def smallB (p:Plan):Bool:=(p.Nodes.all (fun n=>decide (n.Ends.length≤8))&&p.Rails.all (fun r=>decide (r.Shape.length≤40)))&&
 !((decide (12<p.Nodes.length)&&decide (p.Nodes.length≤300))||((decide (14<p.Rails.length)&&decide (p.Rails.length≤400))||(decide (400<p.Nodes.length)||decide (500<p.Rails.length))))
theorem c_small (p:Plan) (hf:p.Fit):PureCall Tryz.prog 29 [p.av] (Bo (smallB p)):=by
 have hn:=hf.n;have hr:=hf.r;refine PureCall.of_body Tryz.func29 rfl (by decide) (by simp[Tryz.ntmps29]) ?_;simp only[Tryz.ntmps29,Tryz.results29];refine aS fun K hK=>?_;simp -dsimp;apply hK;clear hK K;refine awp_seq_k fun K1 hK1=>?_;refine aS fun K hK=>?_;simp -dsimp;apply hK;clear hK K;refine awp_cond rfl (fun hc0=>?_) (fun hc0=>?_)
 ·skip
  try simp at hc0
  have hv:smallB p=false:=by simp only[smallB,Bool.and_eq_false_iff,Bool.not_eq_false'];right;simp;omega
  refine aS fun K hK=>?_;simp -dsimp;apply hK;clear hK K;exact awp_ret (by simp[hv])
 ·skip
  try simp at hc0
  have hc9:(!((decide (12<p.Nodes.length)&&decide (p.Nodes.length≤300))||((decide (14<p.Rails.length)&&decide (p.Rails.length≤400))||(decide (400<p.Nodes.length)||decide (500<p.Rails.length)))))=true:=by simp;omega
  refine awp_skip ?_;simp only[zT,reduceIte,Nat.reduceEqDiff];refine hK1 _ _ ?_;refine awp_prune [1] ?_;simp only[zP,Nat.reduceEqDiff,reduceIte];refine awp_seq_k fun K2 hK2=>?_;refine aS fun K hK=>?_;simp -dsimp;apply hK;clear hK K;refine awp_block ?_;refine awp_prune [1,3] ?_;simp only[zP,Nat.reduceEqDiff,reduceIte];refine awp_loop_l [1] (α:=Nat) (fun k=>[(3,I k)]) (fun _=>[some (.els 2 [p.cells])]) (fun k=>k≤p.Nodes.length∧(p.Nodes.take k).all (fun n=>decide (n.Ends.length≤8))=true) (fun k=>p.Nodes.length-k) 0 ?_ ?_ ?_
  ·simp
  ·exact sub_same (by simp)
  rintro k ⟨k1,k2⟩;simp only[zP,Nat.reduceEqDiff,reduceIte];refine awp_seq_k fun K3 hK3=>?_;refine aS fun K hK=>?_;simp -dsimp;apply hK;clear hK K;refine awp_cond rfl (fun hc1=>?_) (fun hc1=>?_)
  ·skip
   try simp at hc1
   have g0:=p.node_get (i:=(k:Int)) (by omega) (by omega);simp only[Int.toNat_natCast]at g0;have wk:=zW k (by omega);refine awp_skip ?_;simp only[zT,reduceIte,Nat.reduceEqDiff];refine hK3 _ _ ?_;refine awp_prune [1,3] ?_;simp only[zP,Nat.reduceEqDiff,reduceIte];refine awp_seq_k fun K4 hK4=>?_;refine awp_block ?_;refine aS fun K hK=>?_;simp -dsimp [g0];apply hK;clear hK K;refine awp_cond rfl (fun hc2=>?_) (fun hc2=>?_)
   ·skip
    try simp at hc2
    have hv:smallB p=false:=by simp only[smallB];rw[all_ff g0 (by simp;omega)];simp
    refine aS fun K hK=>?_;simp -dsimp;apply hK;clear hK K;exact awp_ret (by simp[hv])
   ·skip
    try simp at hc2
    refine awp_skip ?_;simp only[zT,reduceIte,Nat.reduceEqDiff];refine hK4 _ _ ?_;refine awp_prune [1,3] ?_;simp only[zP,Nat.reduceEqDiff,reduceIte];refine aR fun K hK=>?_;simp -dsimp [wk];apply hK;clear hK K;simp only[zT,reduceIte,Nat.reduceEqDiff];exact⟨k+1,⟨by omega,by rw[take_all' g0,k2];simp;omega⟩,by omega,sub_same (by simp)⟩
  ·skip
   try simp at hc1
   have hN:=all_of_take (by omega) k2;refine awp_exit ?_;simp only[zT,reduceIte,Nat.reduceEqDiff];refine hK2 _ _ ?_;refine awp_prune [1] ?_;simp only[zP,Nat.reduceEqDiff,reduceIte];refine awp_seq_k fun K5 hK5=>?_;refine aS fun K hK=>?_;simp -dsimp;apply hK;clear hK K;refine awp_block ?_;refine awp_prune [1,4] ?_;simp only[zP,Nat.reduceEqDiff,reduceIte];refine awp_loop_l [1] (α:=Nat) (fun k=>[(4,I k)]) (fun _=>[some (.els 2 [p.cells])]) (fun k=>k≤p.Rails.length∧(p.Rails.take k).all (fun r=>decide (r.Shape.length≤40))=true) (fun k=>p.Rails.length-k) 0 ?_ ?_ ?_
   ·simp
   ·exact sub_same (by simp)
   rintro j ⟨j1,j2⟩;simp only[zP,Nat.reduceEqDiff,reduceIte];refine awp_seq_k fun K6 hK6=>?_;refine aS fun K hK=>?_;simp -dsimp;apply hK;clear hK K;refine awp_cond rfl (fun hc3=>?_) (fun hc3=>?_)
   ·skip
    try simp at hc3
    have g0:=p.rail_get (i:=(j:Int)) (by omega) (by omega);simp only[Int.toNat_natCast]at g0;have wk:=zW j (by omega);refine awp_skip ?_;simp only[zT,reduceIte,Nat.reduceEqDiff];refine hK6 _ _ ?_;refine awp_prune [1,4] ?_;simp only[zP,Nat.reduceEqDiff,reduceIte];refine awp_seq_k fun K7 hK7=>?_;refine awp_block ?_;refine aS fun K hK=>?_;simp -dsimp [g0];apply hK;clear hK K;refine awp_cond rfl (fun hc4=>?_) (fun hc4=>?_)
    ·skip
     try simp at hc4
     have hv:smallB p=false:=by simp only[smallB];rw[all_ff g0 (by simp;omega)];simp
     refine aS fun K hK=>?_;simp -dsimp;apply hK;clear hK K;exact awp_ret (by simp[hv])
    ·skip
     try simp at hc4
     refine awp_skip ?_;simp only[zT,reduceIte,Nat.reduceEqDiff];refine hK7 _ _ ?_;refine awp_prune [1,4] ?_;simp only[zP,Nat.reduceEqDiff,reduceIte];refine aR fun K hK=>?_;simp -dsimp [wk];apply hK;clear hK K;simp only[zT,reduceIte,Nat.reduceEqDiff];exact⟨j+1,⟨by omega,by rw[take_all' g0,j2];simp;omega⟩,by omega,sub_same (by simp)⟩
   ·skip
    try simp at hc3
    have hR:=all_of_take (by omega) j2;have hv:smallB p=true:=by simp only[smallB,hN,hR,hc9];rfl
    refine awp_exit ?_;simp only[zT,reduceIte,Nat.reduceEqDiff];refine hK5 _ _ ?_;refine awp_prune [] ?_;simp only[zP,Nat.reduceEqDiff,reduceIte];refine aS fun K hK=>?_;simp -dsimp;apply hK;clear hK K;exact awp_ret (by simp[hv])
def fineB (p:Plan) (m n:Move):Bool:=smallB p&&(validB p&&(movB p m&&movB p n))
theorem c_fine (p:Plan) (m n:Move) (hf:p.Fit):PureCall Tryz.prog 10 [p.av,m.av,n.av] (Bo (fineB p m n)):=by
 have hs:=c_small p hf;have hva:=c_Valid p;have hl:validB p=true→p.Rails.length≤100000:=fun h=>by have:=(valid_parts h).2.1;omega
 have h1:=fun h=>c_rMove p m (hl h);have h2:=fun h=>c_rMove p n (hl h);refine PureCall.of_body Tryz.func10 rfl (by decide) (by simp[Tryz.ntmps10]) ?_;simp only[Tryz.ntmps10,Tryz.results10];refine aS fun K hK=>?_;simp -dsimp;apply hK;clear hK K;refine aS fun K hK=>?_;simp -dsimp;refine callK_intro _ (hs) (by simp) ?_;simp -dsimp;refine callK_may _ (fun hm=>hva) (by simp) ?_;simp -dsimp;refine callK_may _ (fun hm=>(h1 (by simp at hm;exact hm.2))) (by simp) ?_;simp -dsimp;refine callK_may _ (fun hm=>(h2 (by simp at hm;exact hm.1.2))) (by simp) ?_;simp -dsimp;apply hK;clear hK K;exact awp_ret (by simp[fineB,Bool.and_assoc])
end Go.Tram
end
section
namespace Go.Tram
open Go.AM Go.Proofs
def nxI (p:Plan) (k:Int):List Int:=srt (nxTo p (moveM k) (nodeAt p (moveM k)).Ends.length)
theorem nxI_next (p:Plan) (k:Int):nextL p (moveM k)=(nxI p k).map moveM:=rfl
theorem mov_of {p:Plan} {k:Int} (h0:0≤k) (h1:k<2*p.Rails.length):movB p (moveM k)=true:=by
 rw[movB_iff];simp only[moveM];omega
theorem nxI_bd {p:Plan} (hv:validB p=true) {k:Int} (h0:0≤k) (h1:k<2*p.Rails.length) {y:Int} (hy:y∈nxI p k):0≤y∧y<2*p.Rails.length:=by
 have:=(nx_mem hv (mov_of h0 h1)).1 (ins_mem'.1 hy);exact⟨this.1,this.2.1⟩
end Go.Tram
end
section
namespace Go.Tram
open Go.AM Go.Proofs
def MvB (p:Plan) (s:DSt):Prop:=∀k:Nat,k<2*p.Rails.length→0≤gd s.ln k→gd s.mv k≤2*p.Rails.length∧gd s.ln k≤2*p.Rails.length*31000000
theorem mvb_step {p:Plan} {s:DSt} (ok:DOk p s) (h:MvB p s) (hq:s.q≠[]):MvB p (dStep p s):=by
 have hx:=ok.q _ (popX_mem hq);unfold dStep;generalize popX s.q=x at hx ⊢
 split
 ·exact h
 ·intro k hk hk0;simp only at hk0 ⊢;have hil:x.Move.toNat<s.ln.length:=by rw[ok.ln];omega
  have him:x.Move.toNat<s.mv.length:=by rw[ok.mv];omega
  rw[gd_setI hil]at hk0;rw[gd_setI him,gd_setI hil]
  split
  ·omega
  ·rename_i e;rw[if_neg e]at hk0;exact h k hk hk0
theorem mvb_run {p:Plan} (hv:validB p=true):∀(k:Nat) (s:DSt),DOk p s→MvB p s→MvB p (dRun p k s)
 |0,s,_,h=>h
 |k+1,s,ok,h=>by
  simp only[dRun]
  by_cases hq:s.q=[]
  ·rw[if_pos hq];exact h
  ·rw[if_neg hq];exact mvb_run hv k _ (dStep_ok hv ok hq).1 (mvb_step ok h hq)
theorem mvb_end {p:Plan} {to:Int} (hv:validB p=true) (h0:0≤to) (h1:to<2*p.Rails.length):MvB p (dEnd p to):=by
 refine mvb_run hv _ _ (dInit_ok h0 h1) ?_;intro k hk hk0;rw[show gd (dInit p to).ln k=-1 from gd_rep hk]at hk0;omega
theorem foll_mem {p:Plan} (hv:validB p=true) {k j:Int} (h0:0≤k) (h1:k<2*p.Rails.length):(0≤j∧follB p (moveM k) (moveM j)=true)↔j∈nxI p k:=by
 constructor
 ·rintro⟨hj,h⟩;unfold follB at h;obtain⟨x,hx,he⟩:=List.any_eq_true.1 h;obtain rfl:x=moveM j:=by simpa using he
  rw[nxI_next]at hx;obtain⟨y,hy,e⟩:=List.mem_map.1 hx;have hb:=nxI_bd hv h0 h1 hy;have:=congrArg numM e;rw[numM_moveM hb.1,numM_moveM hj]at this;rw[←this];exact hy
 ·intro h;refine⟨(nxI_bd hv h0 h1 h).1,?_⟩;unfold follB;rw[nxI_next,List.any_eq_true];exact⟨moveM j,List.mem_map.2 ⟨j,h,rfl⟩,by simp⟩
theorem len_nx {p:Plan} (hv:validB p=true) {k y:Int} (h0:0≤k) (h1:k<2*p.Rails.length) (hy:y∈nxI p k):1≤p.len (y/2)∧p.len (y/2)≤31000000:=by
 have:=nxI_bd hv h0 h1 hy;exact len_bd hv (r:=y/2) (by omega) (by omega)
theorem Pth.step {p:Plan} (hv:validB p=true) {to k y L n:Int} (h0:0≤k) (h1:k<2*p.Rails.length) (hy:y∈nxI p k) (h:Pth p to y L n):Pth p to k (L+p.len (y/2)) (n+1):=
 .cons h0 h1 ((foll_mem hv h0 h1).2 hy).2 h
def sOk (p:Plan) (ln mv:List Int) (k y:Int):Bool:=decide (0≤gd ln y.toNat)&&(decide (gd ln y.toNat+p.len (y/2)=gd ln k.toNat)&&decide (gd mv y.toNat+1=gd mv k.toNat))
def sNext (p:Plan) (ln mv:List Int) (k:Int):Int:=((nxI p k).find? (sOk p ln mv k)).getD k
def shL (p:Plan) (ln mv:List Int):Nat→Int→List Int
 |0,k=>[k]
 |n+1,k=>k::shL p ln mv n (sNext p ln mv k)
theorem sNext_ok {p:Plan} {to:Int} (hv:validB p=true) (t0:0≤to) (t1:to<2*p.Rails.length) {ln mv:List Int} (hE:DEnd p to ln mv) {k:Int} (h0:0≤k) (h1:k<2*p.Rails.length) (hk:0≤gd ln k.toNat) (hne:k≠to):
  ∃y,(nxI p k).find? (sOk p ln mv k)=some y∧sNext p ln mv k=y∧y∈nxI p k∧sOk p ln mv k y=true:=by
 have hex:∃y∈nxI p k,sOk p ln mv k y=true:=by
  have hp:=hE.sp k.toNat (by omega) hk;rw[show((k.toNat:Nat):Int)=k by omega]at hp;generalize hL:gd ln k.toNat=L at hp;generalize hM:gd mv k.toNat=n at hp
  cases hp with
  |nil=>exact absurd rfl hne
  | @cons _ j L n g0 g1 hf hp=>
   have hb:=hp.bd hv t0 t1;have hy:=(foll_mem hv g0 g1).1 ⟨hb.1.1,hf⟩;have hm:=hE.mn _ _ _ hp;have hpj:=hE.sp j.toNat (by omega) hm.1;rw[show((j.toNat:Nat):Int)=j by omega]at hpj;have hm2:=hE.mn _ _ _ (hpj.step hv g0 g1 hy);refine⟨j,hy,?_⟩;simp only[sOk,Bool.and_eq_true,decide_eq_true_eq];omega
 obtain⟨y,hy,hs⟩:=hex
 cases hf:(nxI p k).find? (sOk p ln mv k)with
 |none=>exact absurd hs (by have:=List.find?_eq_none.1 hf y hy;simpa using this)
 |some z=>exact⟨z,rfl,by simp[sNext,hf],List.mem_of_find?_eq_some hf,List.find?_some hf⟩
theorem mv_zero {p:Plan} {to:Int} (hv:validB p=true) (t0:0≤to) (t1:to<2*p.Rails.length) {ln mv:List Int} (hE:DEnd p to ln mv) {k:Int} (h0:0≤k) (h1:k<2*p.Rails.length) (hk:0≤gd ln k.toNat):0≤gd mv k.toNat∧(gd mv k.toNat=0↔k=to):=by
 have hp:=hE.sp k.toNat (by omega) hk;rw[show((k.toNat:Nat):Int)=k by omega]at hp;have hb:=hp.bd hv t0 t1;refine⟨hb.2.2,fun e=>?_,fun e=>?_⟩
 ·generalize gd ln k.toNat=L at hp;rw[e]at hp;generalize hz:(0:Int)=z at hp
  cases hp with
  |nil=>rfl
  |cons g0 g1 hf hp=>have:=hp.bd hv t0 t1;omega
 ·have:=hE.mn _ _ _ (.nil:Pth p to to 0 0);rw[←e]at this;omega
end Go.Tram
end
section
namespace Go.Tram
open Go.AM Go.Proofs
section
variable {α:Type} [Inhabited α] (lt:α→α→Bool)
def insK (l:List α) (x:α):Nat→Nat
 |0=>0
 |k+1=>if lt x (gd l k)=true then insK l x k else k+1
def insB (l:List α) (x:α):List α:=l.take (insK lt l x l.length)++x::l.drop (insK lt l x l.length)
def sortB (l:List α):List α:=l.foldl (insB lt) []
theorem insK_le (l:List α) (x:α):∀k,insK lt l x k≤k
 |0=>Nat.le_refl _
 |k+1=>by unfold insK;split;exact Nat.le_succ_of_le (insK_le l x k);exact Nat.le_refl _
theorem insK_hi (l:List α) (x:α):∀k j,insK lt l x k≤j→j<k→lt x (gd l j)=true
 |0,j,_,h=>absurd h (Nat.not_lt_zero _)
 | k+1,j,h,hj=>by
  unfold insK at h
  split at h
  ·rename_i hx
   rcases Nat.lt_or_ge j k with h1|h1
   ·exact insK_hi l x k j h h1
   ·obtain rfl:j=k:=by omega
    exact hx
  ·omega
theorem insK_lo (l:List α) (x:α):∀k,0<insK lt l x k→lt x (gd l (insK lt l x k-1))=false
 |0,h=>absurd h (Nat.lt_irrefl _)
 |k+1,h=>by
  unfold insK at h ⊢
  split
  ·rename_i hx;rw[if_pos hx]at h;exact insK_lo l x k h
  ·rename_i hx;simpa using hx
theorem insB_perm (l:List α) (x:α):(insB lt l x).Perm (l++[x]):=by
 unfold insB;refine List.perm_middle.trans ?_;rw[List.take_append_drop];exact(List.perm_append_singleton x l).symm
theorem sortB_permG:∀l s:List α,(l.foldl (insB lt) s).Perm (s++l)
 |[],s=>by simp
 |x::l,s=>by
  rw[List.foldl_cons];refine(sortB_permG l (insB lt s x)).trans ?_;have:=(insB_perm lt s x).append_right l;rw[List.append_assoc]at this;exact this
theorem sortB_perm (l:List α):(sortB lt l).Perm l:=by have:=sortB_permG lt l [];simpa [sortB]using this
variable {lt}
theorem insB_sorted (hO:LOrd lt) {l:List α} (h:l.Pairwise fun a b=>lt b a=false) (x:α):(insB lt l x).Pairwise fun a b=>lt b a=false:=by
 have hk:=insK_le lt l x l.length;have hhi:=insK_hi lt l x l.length;have hlo:=insK_lo lt l x l.length;unfold insB;generalize insK lt l x l.length=k at*
 have hgd:∀i (hi:i<l.length),gd l i=l[i]:=fun i hi=>by
  have:=getD_at hi;rw[List.getElem?_eq_getElem hi]at this;exact(Option.some.inj this).symm
 have ht:∀a∈l.take k,lt x a=false:=by
  intro a ha;obtain⟨i,hi,rfl⟩:=List.mem_iff_getElem.1 ha;rw[List.length_take]at hi;rw[List.getElem_take];have h1:=hlo (by omega)
  rcases Nat.lt_or_ge i (k-1)with h2|h2
  ·rw[hgd _ (by omega)]at h1;exact hO.tr _ _ _ (List.pairwise_iff_getElem.1 h i (k-1) (by omega) (by omega) h2) h1
  ·have e:i=k-1:=by omega
   rw[hgd _ (by omega)]at h1;subst e;exact h1
 have hd:∀b∈l.drop k,lt x b=true:=by
  intro b hb;obtain⟨i,hi,rfl⟩:=List.mem_iff_getElem.1 hb;rw[List.length_drop]at hi;rw[List.getElem_drop,←hgd (k+i) (by omega)];exact hhi _ (by omega) (by omega)
 rw[List.pairwise_append,List.pairwise_cons];have hp:(l.take k++l.drop k).Pairwise fun a b=>lt b a=false:=by rw[List.take_append_drop];exact h
 rw[List.pairwise_append]at hp;refine⟨hp.1,⟨fun b hb=>hO.asy _ _ (hd b hb),hp.2.1⟩,fun a ha b hb=>?_⟩
 rcases List.mem_cons.1 hb with rfl|hb
 ·exact ht a ha
 ·exact hp.2.2 a ha b hb
theorem sortB_sorted (hO:LOrd lt) (l:List α):(sortB lt l).Pairwise fun a b=>lt b a=false:=by
 have gen:∀l s:List α,s.Pairwise (fun a b=>lt b a=false)→(l.foldl (insB lt) s).Pairwise fun a b=>lt b a=false:=by
  intro l
  induction l with
  |nil=>intro s h;exact h
  |cons x l ih=>intro s h;exact ih _ (insB_sorted hO h x)
 exact gen l [] (by simp)
end
def bfrB (p:Plan) (a b:List Move):Bool:=ltP (keyW p a) (keyW p b)
theorem bfrB_ord (p:Plan):LOrd (bfrB p):=⟨fun a b c=>ordP.tr _ _ _,fun a b=>ordP.asy _ _⟩
theorem nums_inj:∀{a b:List Move},(∀m∈a,0≤m.Rail)→(∀m∈b,0≤m.Rail)→nums a=nums b→a=b
 |[],[],_,_,_=>rfl
 |[],_::_,_,_,h=>by cases h
 |_::_,[],_,_,h=>by cases h
 |x::a,y::b,h1,h2,h=>by
  unfold nums at h;rw[List.map_cons,List.map_cons,List.cons.injEq]at h;have e:x=y:=by rw[←moveM_numM (h1 x (by simp)),←moveM_numM (h2 y (by simp)),h.1]
  rw[e,nums_inj (fun m hm=>h1 m (by simp[hm])) (fun m hm=>h2 m (by simp[hm])) h.2]
theorem bfrB_anti {p:Plan} {a b:List Move} (ha:∀m∈a,0≤m.Rail) (hb:∀m∈b,0≤m.Rail) (h1:bfrB p a b=false) (h2:bfrB p b a=false):a=b:=by
 unfold bfrB at h1 h2;rw[ltP_false]at h1 h2;simp only[keyW]at h1 h2;refine nums_inj ha hb (lexB_tot ?_ ?_)
 ·rcases h1 with h|⟨h,h1|⟨h1,h3⟩⟩
  ·omega
  ·omega
  ·exact h3
 ·rcases h2 with h|⟨h,h2|⟨h2,h3⟩⟩
  ·omega
  ·omega
  ·exact h3
def allW (p:Plan) (fr to:Move):List (List Move):=onW p to (2*p.Rails.length) [fr]
def refW (p:Plan) (fr to:Move):List (List Move):=sortB (bfrB p) (allW p fr to)
theorem beg_one {p:Plan} {m:Move} (h:movB p m=true):BegW p [m]:=⟨by simp,by simp,fun x hx=>by simp only[List.mem_singleton]at hx;subst hx;exact h,fun i h0 hi=>by simp at hi;omega⟩
theorem allW_beg {p:Plan} {fr to:Move} (hv:validB p=true) (hf:movB p fr=true) {c:List Move} (hc:c∈allW p fr to):BegW p c∧lastM c=to∧∃s,c=fr::s:=by
 obtain⟨s,L,n,e1,e2,e3,_⟩:=on_path hv _ _ c (beg_one hf) hc;exact⟨e2,e3,s,e1⟩
theorem mov_rail {p:Plan} {m:Move} (h:movB p m=true):0≤m.Rail:=(movB_iff.1 h).1
theorem refW_uniq {p:Plan} {fr to:Move} (hv:validB p=true) (hf:movB p fr=true) {l:List (List Move)} (hs:l.Pairwise fun a b=>bfrB p b a=false) (hp:l.Perm (allW p fr to)):l=refW p fr to:=by
 have h2:=(sortB_perm (bfrB p) (allW p fr to));have hr:∀a∈allW p fr to,∀m∈a,0≤m.Rail:=fun a ha m hm=>mov_rail ((allW_beg hv hf ha).1.mv m hm);exact List.Perm.eq_of_pairwise (fun a b ha hb h1 h3=>bfrB_anti (hr a (hp.subset ha)) (hr b (h2.subset hb)) h3 h1) hs (sortB_sorted (bfrB_ord p) _) (hp.trans h2.symm)
section
variable {p:Plan} {fr to:Move} (hv:validB p=true) (hf:movB p fr=true) (hto:movB p to=true)
include hv hf hto
theorem bf_res {q:List Prt} {out:List (List Move)} (h:BsInv (bfP hv hto) q out (allW p fr to)):out=(refW p fr to).take out.length∧out.length≤(refW p fr to).length∧(q=[]→out=refW p fr to):=by
 have hS:=sortB_perm (bfrB p) (q.flatMap (bfP hv hto).C);have e:out++sortB (bfrB p) (q.flatMap (bfP hv hto).C)=refW p fr to:=by
  refine refW_uniq hv hf ?_ ((List.Perm.append_left _ hS).trans h.perm);rw[List.pairwise_append];exact⟨h.sort,sortB_sorted (bfrB_ord p) _,fun a ha b hb=>h.le a ha b (hS.subset hb)⟩
 rw[←e];refine⟨by simp,by simp,?_⟩;rintro rfl;simp[sortB]
def q0 (p:Plan) (fr to:Move):List Prt:=if opnB p to fr=true then [mkP p to [fr]]else []
omit hv hf hto in
theorem lastM_one (m:Move):lastM [m]=m:=rfl
theorem bf_init:BsInv (bfP hv hto) (q0 p fr to) [] (allW p fr to):=by
 unfold q0
 split
 ·rename_i h;refine⟨fun i h0 hi=>?_,fun x hx=>?_,?_,List.Pairwise.nil,fun o ho=>by cases ho⟩
  ·simp only[List.length_singleton]at hi;omega
  ·simp only[List.mem_singleton]at hx;subst hx;exact⟨rfl,beg_one hf⟩
  ·rw[List.nil_append,List.flatMap_singleton];exact List.Perm.refl _
 ·rename_i h;refine⟨fun i h0 hi=>?_,fun x hx=>(by cases hx),?_,List.Pairwise.nil,fun o ho=>by cases ho⟩
  ·simp only[List.length_nil]at hi;omega
  ·have:allW p fr to=[]:=by
    rw[List.eq_nil_iff_forall_not_mem];intro c hc;exact h (on_open hv hto (beg_one hf) hc)
   rw[this];exact List.Perm.refl _
end
theorem lex_between:∀{w c:List Int} {m:Int},lexB c (w++[m])=true→lexB c w=false→c=w∨∃x s,c=w++x::s∧x<m
 |[],[],_,_,_=>Or.inl rfl
 |[],x::s,m,h,_=>by
  right
  refine⟨x,s,rfl,?_⟩;simp only[List.nil_append,lexB,Bool.or_eq_true,Bool.and_eq_true,decide_eq_true_eq]at h
  rcases h with h|⟨h1,h2⟩
  ·exact h
  ·cases s<;>cases h2
 |_::_,[],_,_,h=>by cases h
 |a::w,y::c,m,h1,h2=>by
  simp only[List.cons_append,lexB,Bool.or_eq_true,Bool.and_eq_true,decide_eq_true_eq,Bool.or_eq_false_iff,Bool.and_eq_false_iff,decide_eq_false_iff_not]at h1 h2;obtain⟨h1,h1'⟩:y=a∧lexB c (w++[m])=true:=by rcases h1 with h|h;exact absurd h h2.1;exact h
  subst h1;have h3:=h2.2.resolve_left (by simp)
  rcases lex_between h1' h3 with h|⟨x,s,h,hx⟩
  ·exact Or.inl (by rw[h])
  ·exact Or.inr ⟨x,s,by rw[h];rfl,hx⟩
theorem path_of {p:Plan} {to:Move} (hv:validB p=true):∀(s w:List Move) (m:Move),BegW p (w++m::s)→lastM (w++m::s)=to→∃L n,Pth p (numM to) (numM m) L n∧wlen p (w++m::s)=wlen p (w++[m])+L∧(s.length:Int)=n
 |[],w,m,hb,hl=>by
  rw[lastM_snoc]at hl;subst hl;exact⟨0,0, .nil,by omega,rfl⟩
 |m2::s,w,m,hb,hl=>by
  have e:w++m::m2::s=(w++[m])++m2::s:=by simp
  obtain⟨L,n,h1,h2,h3⟩:=path_of (to:=to) hv s (w++[m]) m2 (by rw[←e];exact hb) (by rw[←e];exact hl);have hf:=hb.st (w.length+1) (by omega) (by simp);have hm:=hb.mv m (by simp);have hm2:=hb.mv m2 (by simp);have e1:mvAt (w++m::m2::s) (w.length+1-1)=m:=by unfold mvAt;rw[List.getElem?_append_right (by omega)];simp
  have e2:mvAt (w++m::m2::s) (w.length+1)=m2:=by unfold mvAt;rw[List.getElem?_append_right (by omega)];simp
  rw[e1,e2]at hf;have hbm:=num_bdU hm;have:=Pth.cons (p:=p) (to:=numM to) (k:=numM m) (j:=numM m2) hbm.1 hbm.2 (by rw[moveM_numM (mov_rail hm),moveM_numM (mov_rail hm2)];exact hf) h1;have er:numM m2/2=m2.Rail:=by unfold numM;split<;>omega
  rw[er]at this;exact⟨_,_,this,by rw[e,h2,wlen_snoc];omega,by rw[List.length_cons];omega⟩
theorem find_le {f:Int→Bool}:∀{l:List Int} {x y:Int},l.Pairwise (· ≤ ·)→l.find? f=some y→x∈l→f x=true→y≤x
 |[],_,_,_,h,_,_=>by cases h
 | a::l,x,y,hp,h,hx,hf=>by
  rw[List.pairwise_cons]at hp;rw[List.find?_cons]at h
  split at h
  ·cases h
   rcases List.mem_cons.1 hx with rfl|hx
   ·exact Int.le_refl _
   ·exact hp.1 x hx
  ·rename_i ha
   rcases List.mem_cons.1 hx with rfl|hx
   ·rw[hf]at ha;cases ha
   ·exact find_le hp.2 h hx hf
theorem onW_succ {p:Plan} {to:Move} {f:Nat} {w c:List Move} {m:Move} (hne:lastM w≠to) (hm:m∈nextL p (lastM w)) (hw:m∉w) (hc:c∈onW p to f (w++[m])):c∈onW p to (f+1) w:=by
 rw[onW,if_neg hne,List.mem_flatMap];exact⟨m,hm,by rw[if_neg hw];exact hc⟩
section
variable {p:Plan} {fr to:Move} (hv:validB p=true) (hf:movB p fr=true) (hto:movB p to=true)
include hv hf hto
theorem sh_run:∀(n:Nat) (w:List Move) (f:Nat),BegW p w→n≤f→0≤gd (dEnd p (numM to)).ln (numM (lastM w)).toNat→gd (dEnd p (numM to)).mv (numM (lastM w)).toNat=n→
  (∀m∈w,(n:Int)≤gd (dEnd p (numM to)).mv (numM m).toNat)→(∀c∈allW p fr to,ltP (keyW p c) (mkP p to w)=false)→
  ∃s,shL p (dEnd p (numM to)).ln (dEnd p (numM to)).mv n (numM (lastM w))=numM (lastM w)::nums s∧w++s∈onW p to f w∧∀c∈allW p fr to,bfrB p c (w++s)=false:=by
 intro n;have hb:=num_bdU hto;have hD:=dEnd_ok hv hb.1 hb.2
 induction n with
 | zero=>
  intro w f hw hnf ho hn hge hmin;have hlm:=hw.mv _ (lastM_mem hw.ne);have hbl:=num_bdU hlm;have hz:=(mv_zero hv hb.1 hb.2 hD hbl.1 hbl.2 ho).2.1 hn;have hl:lastM w=to:=by rw[←moveM_numM (mov_rail hlm),←moveM_numM (mov_rail hto),hz]
  refine⟨[],rfl,?_,?_⟩
  ·cases f<;>rw[onW,if_pos hl]<;>simp
  ·intro c hc;have h:=hmin c hc;rw[List.append_nil];obtain⟨e1,e2⟩:=hD.mn _ _ _ Pth.nil;have e3:=(hD.sp (numM to).toNat (by omega) e1).bd hv hb.1 hb.2;have:mkP p to w=keyW p w:=by
    unfold mkP keyW;simp only[hl,Prt.mk.injEq,true_and];omega
   rw[this]at h;exact h
 | succ n ih=>
  intro w f hw hnf ho hn hge hmin;have hlm:=hw.mv _ (lastM_mem hw.ne);have hbl:=num_bdU hlm;have hne:numM (lastM w)≠numM to:=fun e=>by
   have:=(mv_zero hv hb.1 hb.2 hD hbl.1 hbl.2 ho).2.2 e;omega
  have hl:lastM w≠to:=fun e=>hne (by rw[e]);obtain⟨y,hy1,hy2,hy3,hy4⟩:=sNext_ok hv hb.1 hb.2 hD hbl.1 hbl.2 ho hne;have hyb:=nxI_bd hv hbl.1 hbl.2 hy3;obtain⟨m,rfl⟩:∃m,m=moveM y:=⟨_,rfl⟩;have hny:numM (moveM y)=y:=numM_moveM hyb.1;have hmn:moveM y∈nextL p (lastM w):=by
   have:=nxI_next p (numM (lastM w));rw[moveM_numM (mov_rail hlm)]at this;rw[this];exact List.mem_map.2 ⟨y,hy3,rfl⟩
  obtain⟨k1,k2⟩:=next_ok hv hlm hmn;simp only[sOk,Bool.and_eq_true,decide_eq_true_eq]at hy4;have hmw:moveM y∉w:=fun h=>by have:=hge _ h;rw[hny]at this;omega
  have hw2:=hw.snoc k1 k2 hmw;obtain⟨f,rfl⟩:∃g,f=g+1:=⟨f-1,by omega⟩;have hyr:(moveM y).Rail=y/2:=rfl;obtain⟨s,i1,i2,i3⟩:=ih (w++[moveM y]) f hw2 (by omega) (by rw[lastM_snoc,hny];exact hy4.1) (by rw[lastM_snoc,hny];omega)
   (fun x hx=>by
    rw[List.mem_append]at hx
    rcases hx with hx|hx
    ·have:=hge x hx;omega
    ·simp only[List.mem_singleton]at hx;subst hx;rw[hny];omega)
   (fun c hc=>by
    have h:=hmin c hc;obtain⟨hc1,hc2,_⟩:=allW_beg hv hf hc
    cases hlt:ltP (keyW p c) (mkP p to (w++[moveM y]))with
    |false=>rfl
    | true=>
     exfalso;rw[ltP_false]at h;simp only[ltP,Bool.or_eq_true,Bool.and_eq_true,decide_eq_true_eq]at hlt;simp only[keyW,mkP,lastM_snoc,wlen_snoc,hny,hyr,List.length_append,List.length_singleton]at h hlt;have hL:wlen p c=wlen p w+gd (dEnd p (numM to)).ln (numM (lastM w)).toNat:=by omega
     have hN:(c.length:Int)=w.length+gd (dEnd p (numM to)).mv (numM (lastM w)).toNat:=by omega
     have hx1:lexB (nums c) (nums (w++[moveM y]))=true:=by
      rcases hlt with h|⟨_,h|⟨_,h⟩⟩
      ·omega
      ·omega
      ·exact h
     have hx2:lexB (nums c) (nums w)=false:=by
      rcases h with h|⟨_,h|⟨_,h⟩⟩
      ·omega
      ·omega
      ·exact h
     have e:nums (w++[moveM y])=nums w++[y]:=by unfold nums;rw[List.map_append];simp[hny]
     rw[e]at hx1
     rcases lex_between hx1 hx2 with h|⟨x,t,h,hxy⟩
     ·have:=nums_inj (fun m hm=>mov_rail (hc1.mv m hm)) (fun m hm=>mov_rail (hw.mv m hm)) h;rw[this]at hc2;exact hl hc2
     ·obtain⟨c1,c2,hcc,hcw,hct⟩:∃c1 c2,c=c1++c2∧nums c1=nums w∧nums c2=x::t:=by
       have:=List.map_eq_append_iff.1 (show c.map numM=nums w++x::t from h);obtain⟨c1,c2,a1,a2,a3⟩:=this;exact⟨c1,c2,a1,a2,a3⟩
      have hc1w:=nums_inj (fun m hm=>mov_rail (hc1.mv m (by rw[hcc];simp[hm]))) (fun m hm=>mov_rail (hw.mv m hm)) hcw;subst hc1w
      cases c2 with
      |nil=>cases hct
      | cons m1 s1=>
       unfold nums at hct;rw[List.map_cons,List.cons.injEq]at hct;have hxm:=hct.1;subst hcc;obtain⟨L,n',p1,p2,p3⟩:=path_of hv s1 c1 m1 hc1 hc2;have hst:=hc1.st c1.length (List.length_pos_iff.2 hw.ne) (by simp);have e1:mvAt (c1++m1::s1) (c1.length-1)=lastM c1:=by
        have:=List.length_pos_iff.2 hw.ne;rw[lastM_at hw.ne];unfold mvAt;rw[List.getElem?_append_left (by omega)]
       have e2:mvAt (c1++m1::s1) c1.length=m1:=by unfold mvAt;rw[List.getElem?_append_right (by omega)];simp
       rw[e1,e2]at hst;have hm1:=hc1.mv m1 (by simp);have hb1:=num_bdU hm1;have hf1:follB p (moveM (numM (lastM c1))) (moveM (numM m1))=true:=by
        rw[moveM_numM (mov_rail hlm),moveM_numM (mov_rail hm1)];exact hst
       have hmem:=(foll_mem hv hbl.1 hbl.2).1 ⟨hb1.1,hf1⟩;have er:numM m1/2=m1.Rail:=by unfold numM;split<;>omega
       have m1':=hD.mn _ _ _ p1;have hp1:=hD.sp (numM m1).toNat (by omega) m1'.1;rw[show((numM m1).toNat:Int)=numM m1 by omega]at hp1;have m2':=hD.mn _ _ _ (Pth.cons hbl.1 hbl.2 hf1 hp1);rw[wlen_snoc]at p2;simp only[List.length_append,List.length_cons]at hN;rw[er]at m2';have hok:sOk p (dEnd p (numM to)).ln (dEnd p (numM to)).mv (numM (lastM c1)) (numM m1)=true:=by
        simp only[sOk,Bool.and_eq_true,decide_eq_true_eq,er];refine⟨m1'.1,?_,?_⟩<;>omega
       have:=find_le (srt_sorted _) hy1 hmem hok;omega)
  refine⟨moveM y::s,?_,?_,?_⟩
  ·rw[shL,hy2];rw[lastM_snoc,hny]at i1;rw[i1];show _=_::(numM (moveM y)::nums s);rw[hny]
  ·have:w++moveM y::s=(w++[moveM y])++s:=by simp
   rw[this];exact onW_succ hl hmn hmw i2
  ·intro c hc;have:=i3 c hc;rw[List.append_assoc]at this;exact this
theorem refW_head:(opnB p to fr=false→refW p fr to=[])∧(opnB p to fr=true→(refW p fr to)[0]?=some ((shL p (dEnd p (numM to)).ln (dEnd p (numM to)).mv (gd (dEnd p (numM to)).mv (numM fr).toNat).toNat (numM fr)).map moveM)):=by
 have hb:=num_bdU hto;have hD:=dEnd_ok hv hb.1 hb.2;have hbf:=num_bdU hf;refine⟨fun h=>?_,fun h=>?_⟩
 ·have:allW p fr to=[]:=by
   rw[List.eq_nil_iff_forall_not_mem];intro c hc;have:=on_open hv hto (beg_one hf) hc;rw[lastM_one,h]at this
   cases this
  unfold refW;rw[this];rfl
 ·have ho:0≤gd (dEnd p (numM to)).ln (numM fr).toNat:=by simpa [opnB]using h
  have hz:=(mv_zero hv hb.1 hb.2 hD hbf.1 hbf.2 ho).1;have hmb:=(mvb_end hv hb.1 hb.2 (numM fr).toNat (by omega) ho);have hrun:=sh_run hv hf hto (gd (dEnd p (numM to)).mv (numM fr).toNat).toNat [fr] (2*p.Rails.length) (beg_one hf) (by omega) ho (by rw[lastM_one];omega)
   (fun m hm=>by simp only[List.mem_singleton]at hm;subst hm;omega)
   (fun c hc=>(bfP hv hto).hmin (mkP p to [fr]) ⟨rfl,beg_one hf⟩ c hc)
  obtain⟨s,h1,h2,h3⟩:=hrun;rw[lastM_one]at h1;have hmem:[fr]++s∈allW p fr to:=h2;have hbw:=(allW_beg hv hf hmem).1;have e:(shL p (dEnd p (numM to)).ln (dEnd p (numM to)).mv (gd (dEnd p (numM to)).mv (numM fr).toNat).toNat (numM fr)).map moveM=[fr]++s:=by
   rw[h1];have:numM fr::nums s=nums ([fr]++s):=rfl;rw[this];unfold nums;rw[List.map_map];have:∀l:List Move,(∀m∈l,0≤m.Rail)→l.map (moveM∘numM)=l:=by
    intro l hl
    induction l with
    |nil=>rfl
    |cons x l ih=>rw[List.map_cons,ih (fun m hm=>hl m (by simp[hm]))];simp only[Function.comp_apply];rw[moveM_numM (hl x (by simp))]
   exact this _ fun m hm=>mov_rail (hbw.mv m hm)
  rw[e];have hpm:=sortB_perm (bfrB p) (allW p fr to);have hso:=sortB_sorted (bfrB_ord p) (allW p fr to);unfold refW;generalize sortB (bfrB p) (allW p fr to)=R at hpm hso;have hin:[fr]++s∈R:=hpm.symm.subset hmem
  cases R with
  |nil=>cases hin
  |cons r R=>
   rw[List.pairwise_cons]at hso;have hr:r∈allW p fr to:=hpm.subset (by simp);show some r=some ([fr]++s)
   congr 1
   rcases List.mem_cons.1 hin with h|h
   ·exact h.symm
   ·exact bfrB_anti (fun m hm=>mov_rail ((allW_beg hv hf hr).1.mv m hm)) (fun m hm=>mov_rail (hbw.mv m hm)) (h3 r hr) (hso.1 _ h)
end
end Go.Tram
end
section
namespace Go.Tram
open Go.AM Go.Proofs
def lets4 (K N f t:Int):Bool:=
 if K=1 then false else if K=2 then decide (f≠t)else if K=3 then decide (f≠t)&&decide ((f+t) % 2=0)
 else if K=4 then decide (f≠t)&&(decide (f=0)||decide (t=0))else if K=5 then(decide (f≠0)&&decide (t=0))||(decide (f=0)&&decide (t=N))
 else(decide (f=0)&&decide (t=N))||(decide (f=N)&&decide (t=0))
theorem lets4_eq (n:Node) (f t:Int):letsB n f t=lets4 n.Kind n.Normal f t:=rfl
def cnt4 (K N:Int) (len a:Nat):Nat:=((List.range len).filter fun(t:Nat)=>lets4 K N a t).length
theorem cnt_all:∀K∈[(1,1),(2,2),(3,4),(4,3),(5,3),(6,3)],∀N∈[0,1,2],∀a∈List.range K.2,cnt4 (K:Nat×Nat).1 (N:Nat) K.2 a≤2∧(1<cnt4 K.1 (N:Nat) K.2 a→K.1=4):=by decide+kernel
theorem nxTo_cnt {p:Plan} {m:Move} {a:Nat} (ha:plc p (arrE m)=a):∀j,j≤(nodeAt p m).Ends.length→(nxTo p m j).length=cnt4 (nodeAt p m).Kind (nodeAt p m).Normal j a
 |0,_=>rfl
 |j+1,hj=>by
  have ih:=nxTo_cnt ha j (by omega);rw[nxTo_succ,List.length_append,ih];unfold cnt4;rw[List.range_succ,List.filter_append,List.length_append];unfold nxK;rw[List.getElem?_eq_getElem (by omega),ha,lets4_eq];simp only
  cases h:lets4 (nodeAt p m).Kind (nodeAt p m).Normal a j<;>simp[h]
theorem next_two {p : Plan} (hv :validB p=true) {m:Move} (hm:movB p m=true):(nextL p m).length≤2∧(1<(nextL p m).length→(nodeAt p m).Kind=4):=by
  obtain⟨i,hi,ha,hn,j,hj,hp,hx⟩:=node_of hv hm
  have hl:(nextL p m).length=cnt4 (nodeAt p m).Kind (nodeAt p m).Normal (nodeAt p m).Ends.length j:=by
    unfold nextL
    rw[List.length_map,srt_len,nxTo_cnt hp _ (Nat.le_refl _)]
  rw[hl]
  have hjl:j<(nodeAt p m).Ends.length:=by rw[hn];exact(List.getElem?_eq_some_iff.1 hj).1
  have hm':=movB_iff.1 hm
  have hat:=at_in hv (e:=arrE m) hm'.1 hm'.2
  have hnf:=node_fine hv hat.1 hat.2
  have hna:p.node (p.at (arrE m))=nodeAt p m:=rfl
  rw[hna]at hnf
  have hk:=node_kind hnf
  have he:((nodeAt p m).Ends.length:Int)=endsN (nodeAt p m).Kind:=by
    simp only[nodeB,Bool.and_eq_true,decide_eq_true_eq]at hnf
    exact hnf.2.2.2
  generalize nodeAt p m=n at*
  obtain⟨N,hN⟩:∃N:Nat,n.Normal=N:=⟨n.Normal.toNat,by omega⟩
  have hN2 : N ∈ [0, 1, 2] := by have:N=0∨N=1∨N=2:=by omega
                                 simpa using this
  have key:∀K L:Nat,n.Kind=K→n.Ends.length=L→(K,L)∈[(1,1),(2,2),(3,4),(4,3),(5,3),(6,3)]→cnt4 n.Kind n.Normal n.Ends.length j≤2∧(1<cnt4 n.Kind n.Normal n.Ends.length j→n.Kind=4):=by
    intro K L hK hL hmem
    have hj4:j∈List.range L:=List.mem_range.2 (by omega)
    have:=cnt_all (K,L) hmem N hN2 j hj4
    rw[hK,hN,hL]
    exact⟨this.1,fun h=>by have:=this.2 h;simp only at this;omega⟩
  have:n.Kind=1∨n.Kind=2∨n.Kind=3∨n.Kind=4∨n.Kind=5∨n.Kind=6:=by omega
  rcases this with h|h|h|h|h|h<;>rw[h]at he<;>simp[endsN]at he
  · exact key 1 1 h (by omega) (by simp)
  · exact key 2 2 h (by omega) (by simp)
  · exact key 3 4 h (by omega) (by simp)
  · exact key 4 3 h (by omega) (by simp)
  · exact key 5 3 h (by omega) (by simp)
  · exact key 6 3 h (by omega) (by simp)
end Go.Tram
end
section
namespace Go.Tram
open Go.AM Go.Proofs
def wgt (p:Plan) (x:Prt):Nat:=3^(2*p.Rails.length+1-x.way.length)
def muP (p:Plan) (q:List Prt):Nat:=(q.map (wgt p)).sum
theorem muP_perm {p:Plan} {a b:List Prt} (h:a.Perm b):muP p a=muP p b:=(h.map (wgt p)).sum_nat
theorem muP_app (p:Plan) (a b:List Prt):muP p (a++b)=muP p a+muP p b:=by unfold muP;rw[List.map_append,List.sum_append]
theorem wgt_pos (p:Plan) (x:Prt):1≤wgt p x:=Nat.one_le_pow _ _ (by omega)
theorem mu_len (p:Plan):∀q:List Prt,q.length≤muP p q
 |[]=>Nat.le_refl _
 |x::q=>by
  have h1:=mu_len p q;have h2:=wgt_pos p x;have:muP p (x::q)=wgt p x+muP p q:=by unfold muP;rw[List.map_cons,List.sum_cons]
  rw[this,List.length_cons];omega
def kidsT (p:Plan) (to:Move) (x:Prt) (n:Nat):List Prt:=(((nextL p (lastM x.way)).take n).filter fun m=> !decide (m∈x.way)&&opnB p to m).map fun m=>mkP p to (x.way++[m])
theorem kidsT_all (p:Plan) (to:Move) (x:Prt) (n:Nat) (h:(nextL p (lastM x.way)).length≤n):kidsT p to x n=kidsP p to x:=by unfold kidsT kidsP;rw[List.take_of_length_le h]
theorem kidsT_len (p:Plan) (to:Move) (x:Prt) (n:Nat):(kidsT p to x n).length≤(nextL p (lastM x.way)).length:=by
 unfold kidsT;rw[List.length_map];refine Nat.le_trans (List.length_filter_le _ _) ?_;rw[List.length_take];omega
theorem kidsT_succ {p:Plan} {to:Move} {x:Prt} {n:Nat} {m:Move} (h:(nextL p (lastM x.way))[n]?=some m):kidsT p to x (n+1)=kidsT p to x n++if (!decide (m∈x.way)&&opnB p to m)=true then [mkP p to (x.way++[m])]else []:=by
 unfold kidsT;rw[List.take_add_one,h];simp only[Option.toList_some,List.filter_append,List.map_append]
 congr 1
 rw[List.filter_cons]
 split<;>rfl
theorem mu_map (p:Plan) (to:Move) (w:List Move) (ms:List Move):muP p (ms.map fun m=>mkP p to (w++[m]))=ms.length*3^(2*p.Rails.length+1-(w.length+1)):=by
 induction ms with
 |nil=>simp[muP]
 |cons m ms ih=>
  have:muP p ((m::ms).map fun m=>mkP p to (w++[m]))=wgt p (mkP p to (w++[m]))+muP p (ms.map fun m=>mkP p to (w++[m])):=by unfold muP;rw[List.map_cons,List.map_cons,List.sum_cons]
  rw[this,ih,List.length_cons,Nat.add_mul,Nat.one_mul];have:wgt p (mkP p to (w++[m]))=3^(2*p.Rails.length+1-(w.length+1)):=by unfold wgt mkP;simp
  omega
theorem mu_kids {p:Plan} {to:Move} (hv:validB p=true) (hto:movB p to=true) {x:Prt} (hx:BegW p x.way):muP p (kidsP p to x)+1≤wgt p x:=by
 have hl:=beg_len hv hx;have hn:=(next_two hv (hx.mv _ (lastM_mem hx.ne))).1;unfold kidsP;rw[mu_map];have h1:=List.length_filter_le (fun m=> !decide (m∈x.way)&&opnB p to m) (nextL p (lastM x.way));generalize ((nextL p (lastM x.way)).filter fun m=> !decide (m∈x.way)&&opnB p to m).length=k at h1 ⊢;unfold wgt;obtain⟨e,he⟩:∃e,2*p.Rails.length+1-x.way.length=e+1:=⟨2*p.Rails.length-x.way.length,by omega⟩;rw[show 2*p.Rails.length+1-(x.way.length+1)=e by omega,he,Nat.pow_succ];have h3:k*3^e≤2*3^e:=Nat.mul_le_mul (by omega) (Nat.le_refl _);have h4:1≤3^e:=Nat.one_le_pow _ _ (by omega);omega
theorem mu_pop {p:Plan} {q:List Prt} (h:q≠[]):muP p (pQ q)+wgt p (pX q)=muP p q:=by
 rw[←muP_perm (p_perm h),muP_app];simp[muP]
theorem mu_all (p:Plan) (q l:List Prt):muP p (pAll q l)=muP p q+muP p l:=by rw[muP_perm (pAll_perm l q),muP_app]
theorem pAll_len (q l:List Prt):(pAll q l).length=q.length+l.length:=by rw[(pAll_perm l q).length_eq,List.length_append]
theorem mu_q0 {p:Plan} {fr to:Move}:muP p (q0 p fr to)≤3^(2*p.Rails.length):=by
 unfold q0
 split
 ·have:muP p [mkP p to [fr]]=3^(2*p.Rails.length+1-1):=by unfold muP wgt mkP;simp
  rw[this];exact Nat.le_refl _
 ·simp[muP]
theorem pow_bd {n:Nat} (h:n≤16):3^n≤43046721:=by
 have:=Nat.pow_le_pow_right (n:=3) (by omega) h;exact this
theorem way_beg {p:Plan} (hv:validB p=true) {w:List Move} (hw:BegW p w):wayB p w=true:=by
 have hR:=(valid_parts hv).2.1;have hl:=beg_len hv hw;have hp:=List.length_pos_iff.2 hw.ne;unfold wayB;rw[Bool.and_eq_true];refine⟨List.all_eq_true.2 fun i hi=>?_,inr_iff.2 (by omega)⟩;rw[List.mem_range]at hi;unfold stepB;have hm:mvAt w i∈w:=by unfold mvAt;rw[List.getElem?_eq_getElem hi];exact List.getElem_mem hi
 rw[Bool.and_eq_true];refine⟨hw.mv _ hm,?_⟩;rw[Bool.or_eq_true]
 rcases Nat.eq_zero_or_pos i with h|h
 ·left;simpa using h
 ·right;exact hw.st i h hi
theorem onW_len {p:Plan} (hv:validB p=true) (to:Move):∀(f:Nat) (w:List Move),BegW p w→(onW p to f w).length≤2^f
 |0,w,_=>by rw[onW];split<;>simp
 | f +1,w,hw=>by
  rw[onW]
  split
  ·simp;exact Nat.one_le_pow _ _ (by omega)
  ·have hlm:=hw.mv _ (lastM_mem hw.ne);have hn:=(next_two hv hlm).1;have gen:∀N:List Move,(∀m∈N,m∈nextL p (lastM w))→(N.flatMap fun m=>if m∈w then []else onW p to f (w++[m])).length≤N.length*2^f:=by
    intro N
    induction N with
    |nil=>intro _;simp
    | cons m N ih=>
     intro hN;rw[List.flatMap_cons,List.length_append,List.length_cons,Nat.add_mul,Nat.one_mul];have h1:=ih fun k hk=>hN k (by simp[hk]);have h2:(if m∈w then []else onW p to f (w++[m])).length≤2^f:=by
      split
      ·simp
      ·rename_i hm;obtain⟨k1,k2⟩:=next_ok hv hlm (hN m (by simp));exact onW_len hv to f _ (hw.snoc k1 k2 hm)
     omega
   have h1:=gen _ fun _ h=>h;have h2:(nextL p (lastM w)).length*2^f≤2*2^f:=Nat.mul_le_mul hn (Nat.le_refl _);rw[Nat.pow_succ];omega
end Go.Tram
end
section
namespace Go.Tram
open Go.AM Go.Proofs
theorem mv_eqd (x y:Move):(decide (x.Rail=y.Rail)&&decide (x.Back=y.Back))=decide (x=y):=by
 cases x;cases y;simp only[Move.mk.injEq,Bool.decide_and]
@[simp] theorem sb_mvs:sliceB Tryz.prog 32=true:=by kernel_rfl
def idxM (l:List Move) (x:Move):Int:=if x∈l then((l.findIdx (fun y=>decide (y=x)):Nat):Int)else-1
theorem idxM_nn (l:List Move) (x:Move):decide (0≤idxM l x)=decide (x∈l):=by
 unfold idxM
 split<;>rename_i h
 ·rw[decide_eq_true (by omega),decide_eq_true h]
 ·rw[decide_eq_false (by omega),decide_eq_false h]
theorem idxM_hit {l:List Move} {x:Move} {k:Nat} (h:l[k]?=some x) (hn:x∉l.take k):idxM l x=k:=by
 have hk:=(List.getElem?_eq_some_iff.1 h).1;have he:=(List.getElem?_eq_some_iff.1 h).2;unfold idxM;rw[if_pos (List.mem_of_getElem? h)]
 congr 1
 rw[List.findIdx_eq hk];refine⟨by simp[he],fun j hj=>?_⟩;rw[decide_eq_false_iff_not];intro e;apply hn;rw[List.mem_take_iff_getElem];exact⟨j,by omega,e⟩
theorem c_IndexM (l:List Move) (x:Move) (hn:l.length≤100000):PureCall Tryz.prog 94 [mLst l,x.av] (I (idxM l x)):=by
 refine PureCall.of_body Tryz.func94 rfl (by decide) (by simp[Tryz.ntmps94]) ?_;simp only[Tryz.ntmps94,Tryz.results94];refine aS fun K hK=>?_;simp -dsimp;apply hK;clear hK K;refine awp_seq_k fun K1 hK1=>?_;refine aS fun K hK=>?_;simp -dsimp;apply hK;clear hK K;refine awp_block ?_;refine awp_prune [0,3,7,8] ?_;simp only[zP,Nat.reduceEqDiff,reduceIte];refine awp_loop_l [0,3,7] (α:=Nat) (fun k=>[(8,I k)]) (fun _=>[some (.els 2 [x.cells])]) (fun k=>k≤l.length∧x∉l.take k) (fun k=>l.length-k) 0 ?_ ?_ ?_
 ·exact⟨Nat.zero_le _,by simp⟩
 ·exact sub_rb [some 0] rfl (by simp) (by simp)
 rintro k ⟨k1,k2⟩;simp only[zP,Nat.reduceEqDiff,reduceIte];refine aS fun K hK=>?_;simp -dsimp;apply hK;clear hK K;refine awp_seq_k fun K2 hK2=>?_;refine awp_cond rfl (fun hc0=>?_) (fun hc0=>?_)
 ·have hk:k<l.length:=by simpa using hc0
  obtain⟨y,hx⟩:∃y,l[k]?=some y:=⟨_,List.getElem?_eq_getElem hk⟩;have wk:=zW k (by omega);refine awp_skip ?_;simp only[zT,reduceIte,Nat.reduceEqDiff];refine hK2 _ _ ?_;refine awp_prune [0,3,7,8] ?_;simp only[zP,Nat.reduceEqDiff,reduceIte];refine awp_seq_k fun K3 hK3=>?_;refine awp_block ?_;refine aS fun K hK=>?_;simp -dsimp;apply hK;clear hK K;refine awp_sd mixed rfl fun K hK=>?_;simp -dsimp [hx];refine hK _ _ _ (by decide+kernel) ?_;clear hK K;refine awp_cond rfl (fun hc1=>?_) (fun hc1=>?_)
  ·simp only[mv_eqd,decide_eq_true_eq,decide_eq_false_iff_not]at hc1;subst hc1;refine aS fun K hK=>?_;simp -dsimp;apply hK;clear hK K;exact awp_ret (by simp[idxM_hit hx k2])
  ·simp only[mv_eqd,decide_eq_true_eq,decide_eq_false_iff_not]at hc1;refine awp_skip ?_;simp only[zT,reduceIte,Nat.reduceEqDiff];refine hK3 _ _ ?_;refine awp_prune [0,3,7,8] ?_;simp only[zP,Nat.reduceEqDiff,reduceIte];refine aR fun K hK=>?_;simp -dsimp [wk];apply hK;clear hK K;simp only[zT,reduceIte,Nat.reduceEqDiff];exact⟨k+1,⟨by omega,by rw[List.take_add_one,hx];simp;exact⟨k2,hc1⟩⟩,by omega,sub_rb [some 0] rfl (by simp) (by simp)⟩
 ·have hke:k=l.length:=by have:¬k<l.length:=(by simpa using hc0);omega
  rw[hke,List.take_length]at k2;refine awp_exit ?_;simp only[zT,reduceIte,Nat.reduceEqDiff];refine hK1 _ _ ?_;refine awp_prune [] ?_;simp only[zP,Nat.reduceEqDiff,reduceIte];refine aS fun K hK=>?_;simp -dsimp;apply hK;clear hK K;exact awp_ret (by simp[idxM,k2])
theorem c_ContainsM (l:List Move) (x:Move) (hn:l.length≤100000):PureCall Tryz.prog 50 [mLst l,x.av] (Bo (decide (x∈l))):=by
 refine PureCall.of_body Tryz.func50 rfl (by decide) (by simp[Tryz.ntmps50]) ?_;simp only[Tryz.ntmps50,Tryz.results50];refine aS fun K hK=>?_;simp -dsimp;apply hK;clear hK K;refine aS fun K hK=>?_;simp -dsimp;refine callK_intro _ (c_IndexM l x hn) (by simp) ?_;simp -dsimp;apply hK;clear hK K;exact awp_ret (by simp[idxM_nn])
theorem m_CloneM (t:List Move) (hne:t≠[]) (hn:t.length≤1000):MutCall Tryz.prog 51 [mLst t] [] [] (.row 0 0 t.length) [] [some (.els 2 (t.map Move.cells))]:=by
 have f1:Fits t.length 17:=fits_of (by omega) (by omega);refine MutCall.of_bodyG [] Tryz.func51 rfl (by decide) (by simp[Tryz.ntmps51]) rfl rfl ?_;intro J hJ;simp only[Tryz.ntmps51,Tryz.results51];refine gS fun K hK=>?_;simp -dsimp;apply hK;clear hK K;refine gwp_seq_k fun K1 hK1=>?_;refine gS fun K hK=>?_;simp -dsimp [hne];apply hK;clear hK K;refine gwp_cond rfl (fun hc0=>?_) (fun hc0=>?_)
 ·simp at hc0
 ·refine gwp_skip ?_;simp only[zT,reduceIte,Nat.reduceEqDiff];refine hK1 _ _ ?_;refine gwp_prune [0] (Or.inr (by simp)) ?_;simp only[zP,Nat.reduceEqDiff,reduceIte];refine gS fun K hK=>?_;simp -dsimp [hne,f1];apply hK;clear hK K;exact gwp_ret ⟨[some 0],rfl,by simp,by simp,by simp,by simp[resP,tupOf]⟩
theorem m_pHush1 (q:List Prt) (x:Prt) (hb:q.length≤90000000) (hw:∀y∈q,WOk y) (hx:WOk x):
  MutCall Tryz.prog 46 [qAVp,pAV x] [hrow 1 q.length] [prow q] (.tup []) [hrow 1 (pushL ltP q x).length] [prow (pushL ltP q x)]:=by
 have h:=m_pHush q q.length x (Nat.le_refl _) hb hw hx;rw[pushL_len]
 rwa [List.take_length]at h
theorem m_pHop1 (q:List Prt) (h:q≠[]) (hb:q.length≤90000000) (hw:∀y∈q,WOk y):
  MutCall Tryz.prog 49 [qAVp] [hrow 1 q.length] [prow q] (pAV (pX q)) [hrow 1 (q.length-1)] [prow (popPE q q.length)]:=
 m_pHop q q.length (List.length_pos_iff.2 h) (Nat.le_refl _) hb hw
theorem c_pLenQ (q:List Prt):PureCall Tryz.prog 48 [.lst 3 (List.take q.length (q.map Prt.cells))] (I q.length):=by
 rw[List.take_of_length_le (by simp)];exact c_pLen q
def pAdd (p:Plan) (to:Move) (q:List Prt) (w:List Move):List Prt:=if opnB p to (lastM w)=true then pushL ltP q (mkP p to w)else q
abbrev iLs (l:List Int):AV:= .lst 1 (l.map nCell)
abbrev oRow (r:Nat):Option ARow:=some (.els 1 [[.ptr r 0 0]])
theorem beg_wok {p:Plan} (hv:validB p=true) {w:List Move} (hw:BegW p w):w.length≤800∧∀m∈w,0≤m.Rail∧m.Rail≤1000:=by
 have hR:=(valid_parts hv).2.1;have hl:=beg_len hv hw;refine⟨by omega,fun m hm=>?_⟩;have:=movB_iff.1 (hw.mv m hm);omega
def capR (p:Plan) (to:Move):Hp:=[some (.els 1 [[iLs (dEnd p (numM to)).ln]]),oRow 4,some (.els 1 [[.iptr (net p)]]),some (.els 1 [[iLs (dEnd p (numM to)).mv]])]
theorem m_push (p:Plan) (to:Move) (q:List Prt) (w:List Move) (hv:validB p=true) (hto:movB p to=true) (hw:BegW p w) (hq:∀x∈q,WOk x) (hb:q.length≤90000000):
  MutCall Tryz.prog 45 [mLst w, .ptr 0 0 0, .ptr 1 0 0, .ptr 2 0 0, .ptr 3 0 0] (capR p to) [hrow 5 q.length,prow q] (.tup []) (capR p to) [hrow 5 (pAdd p to q w).length,prow (pAdd p to q w)]:=by
 unfold capR;have hR:=(valid_parts hv).2.1;have hbt:=num_bdU hto;have hE:=dEnd_ok hv hbt.1 hbt.2;have hmb:=mvb_end hv hbt.1 hbt.2;have hok:=beg_wok hv hw;have hwy:=way_beg hv hw;have hwl:=c_wayLength p w hv hwy;have hbd:=begTo_bd hv hwy w.length (Nat.le_refl _);have hpos:=List.length_pos_iff.2 hw.ne;have hlm:=hw.mv _ (lastM_mem hw.ne);have hbl:=num_bdU hlm;have hlr:=movB_iff.1 hlm;have hnum:=c_number (lastM w) hlr.1 (by omega);have hgw:w[w.length-1]?=some (lastM w):=by rw[lastM_at hw.ne];unfold mvAt;rw[List.getElem?_eq_getElem (by omega)];rfl
 have w1:IntKind.i64.wrap ((w.length:Int)-1)=((w.length-1:Nat):Int):=by rw[wrap_in (by omega) (by omega)];omega
 have hgl:(dEnd p (numM to)).ln[(numM (lastM w)).toNat]?=some (gd (dEnd p (numM to)).ln (numM (lastM w)).toNat):=getD_at (by rw[hE.ll];omega);have hgm:(dEnd p (numM to)).mv[(numM (lastM w)).toNat]?=some (gd (dEnd p (numM to)).mv (numM (lastM w)).toNat):=getD_at (by rw[hE.lm];omega);have hob:opnB p to (lastM w)=decide (0≤gd (dEnd p (numM to)).ln (numM (lastM w)).toNat):=rfl;have hmk:mkP p to w=⟨w,begTo p w w.length+gd (dEnd p (numM to)).ln (numM (lastM w)).toNat,w.length+gd (dEnd p (numM to)).mv (numM (lastM w)).toNat⟩:=rfl;have hmx:=hmb (numM (lastM w)).toNat (by omega);have hsp:=fun h=>(hE.sp (numM (lastM w)).toNat (by omega) h).bd hv hbt.1 hbt.2;have hp:=m_pHush1 q (mkP p to w) hb hq ⟨by show w.length≤1000;omega,hok.2⟩;unfold pAdd;have h0:=hbl.1;rw[hmk]at hp ⊢;generalize gd (dEnd p (numM to)).ln (numM (lastM w)).toNat=Y at*
 generalize gd (dEnd p (numM to)).mv (numM (lastM w)).toNat=M at*
 generalize (dEnd p (numM to)).ln=ln at*
 generalize (dEnd p (numM to)).mv=mv at*
 generalize hNN:numM (lastM w)=N at*
 refine MutCall.of_bodyG [1,2,3,4] Tryz.func45 rfl (by decide) (by simp[Tryz.ntmps45]) rfl rfl ?_;intro J hJ;simp only[Tryz.ntmps45,Tryz.results45];refine gS fun K hK=>?_;simp -dsimp [w1,hgw];refine callK_intro _ (hnum) (by simp) ?_;simp -dsimp [w1,hgw];apply hK;clear hK K;refine gS fun K hK=>?_;simp -dsimp [hgl,h0];apply hK;clear hK K;refine gwp_cond rfl (fun hc0=>?_) (fun hc0=>?_)
 ·have hY:0≤Y:=by simpa using hc0
  have hs:=hsp hY;have hx:=hmx hY;have wl:IntKind.i64.wrap (begTo p w w.length+Y)=begTo p w w.length+Y:=wrap_in (by omega) (by omega);have wm:IntKind.i64.wrap ((w.length:Int)+M)=(w.length:Int)+M:=wrap_in (by omega) (by omega);rw[decide_eq_true hY]at hob;refine gwp_draw mixed rfl (by decide) rfl rfl fun K hK=>?_;simp -dsimp [hgl,hgm,h0,wl,wm];refine callK_intro _ (hwl) (by simp) ?_;simp -dsimp [hgl,hgm,h0,wl,wm];refine callK_mut [4] [5] [none,none,none,none,some 0,none,some 1] (hp) (by decide) rfl (by simp) (by simp) rfl (by simp) ?_;simp -dsimp [hgl,hgm,h0,wl,wm];refine hK _ _ _ (by decide+kernel) ?_;clear hK K
  try simp only[zT,reduceIte,Nat.reduceEqDiff]
  exact⟨[some 0,some 1,some 2,some 3,some 4,some 6],rfl,by simp,by simp[hob],by simp,by simp[resP,tupOf]⟩
 ·have hY:¬0≤Y:=by simpa using hc0
  rw[decide_eq_false hY]at hob;refine gwp_skip ?_
  try simp only[zT,reduceIte,Nat.reduceEqDiff]
  exact⟨[some 0,some 1,some 2,some 3,some 4,some 5],rfl,by simp,by simp[hob],by simp,by simp[resP,tupOf]⟩
theorem m_pushE (p:Plan) (to:Move) (q:List Prt) (w:List Move) (hv:validB p=true) (hto:movB p to=true) (hw:BegW p w) (hq:∀x∈q,WOk x) (hb:q.length≤90000000):
  MutCall Tryz.prog 45 [.row 6 0 w.length, .ptr 0 0 0, .ptr 1 0 0, .ptr 2 0 0, .ptr 3 0 0] (capR p to) [hrow 5 q.length,prow q,some (.els 2 (w.map Move.cells))] (.tup []) (capR p to) [hrow 5 (pAdd p to q w).length,prow (pAdd p to q w)]:=by
 refine MutCall.eat2 (Hd1:=[hrow 5 q.length,prow q]) 40 6 rfl ?_ ?_ (m_push p to q w hv hto hw hq hb)
 ·simp[List.range,List.range.loop,capR]
 ·simp[List.range,List.range.loop,capR]
end Go.Tram
end
section
namespace Go.Tram
open Go.AM Go.Proofs
attribute [-simp] minI maxI
end Go.Tram
end
section
namespace Go.Tram
open Go.AM Go.Proofs
theorem c_rLength (p:Plan) (r:Int) (h0:0≤r) (h1:r<p.Rails.length) (ro:RailOk p r):PureCall Tryz.prog 21 [p.av,I r] (I (p.len r)):=
 c_Length p r h0 h1 ro.f ro.t (by have:=ro.s;omega) ro.spots
end Go.Tram
end
section
namespace Go.Tram
open Go.AM Go.Proofs
theorem c_rWayLength (p:Plan) (l:List Move) (hv:validB p=true) (hw:wayB p l=true):PureCall Tryz.prog 96 [p.av,mLst l] (I (begTo p l l.length)):=by
 have hl:=way_len hw;refine PureCall.of_body Tryz.func96 rfl (by decide) (by simp[Tryz.ntmps96]) ?_;simp only[Tryz.ntmps96,Tryz.results96];refine aS fun K hK=>?_;simp -dsimp;apply hK;clear hK K;refine aS fun K hK=>?_;simp -dsimp;apply hK;clear hK K;refine awp_seq_k fun K1 hK1=>?_;refine aS fun K hK=>?_;simp -dsimp;apply hK;clear hK K;refine awp_block ?_;refine awp_prune [1,2,5,6] ?_;simp only[zP,Nat.reduceEqDiff,reduceIte];refine awp_loop_l [1,2] (α:=Nat) (fun i=>[(6,I i),(5,I (begTo p l i))]) (fun i=>[some (.els 2 [p.cells])]) (fun i=>i≤l.length) (fun i=>l.length-i) 0 ?_ ?_ ?_
 ·simp
 ·exact sub_same (by simp[begTo])
 rintro i i1;simp only[zP,Nat.reduceEqDiff,reduceIte];refine awp_seq_k fun K2 hK2=>?_;refine aS fun K hK=>?_;simp -dsimp;apply hK;clear hK K;refine awp_cond rfl (fun hc0=>?_) (fun hc0=>?_)
 ·skip
  try simp at hc0
  obtain⟨m,hgm⟩:∃m,l[i]?=some m:=⟨_,List.getElem?_eq_getElem hc0⟩;have wi:=zW i (by omega);have hma:mvAt l i=m:=by simp[mvAt,hgm]
  have hmv:=way_mov hw i hc0;have hb1:=begTo_bd hv hw (i+1) (by omega);have hbs:begTo p l (i+1)=begTo p l i+p.len m.Rail:=by simp only[begTo];rw[hma]
  rw[hma]at hmv;have hmr:=movB_iff.1 hmv;have ro:=rail_ok hv hmr.1 hmr.2;have ws:IntKind.i64.wrap (begTo p l i+p.len m.Rail)=begTo p l (i+1):=by rw[←hbs];exact wrap_in (by omega) (by omega)
  refine awp_skip ?_;simp only[zT,reduceIte,Nat.reduceEqDiff];refine hK2 _ _ ?_;refine awp_prune [1,2,5,6] ?_;simp only[zP,Nat.reduceEqDiff,reduceIte];refine awp_seq_k fun K3 hK3=>?_;refine awp_block ?_;refine awp_draw mixed rfl fun K hK=>?_;simp -dsimp [hgm,ws];refine callK_intro _ (c_rLength p m.Rail hmr.1 hmr.2 ro) (by simp) ?_;simp -dsimp [hgm,ws];refine hK _ _ _ (by decide+kernel) ?_;clear hK K;simp only[zT,reduceIte,Nat.reduceEqDiff];refine hK3 _ _ ?_;refine awp_prune [1,2,5,6] ?_;simp only[zP,Nat.reduceEqDiff,reduceIte];refine aR fun K hK=>?_;simp -dsimp [wi];apply hK;clear hK K;simp only[zT,reduceIte,Nat.reduceEqDiff];exact⟨i+1,by omega,by omega,sub_same (by simp)⟩
 ·skip
  try simp at hc0
  have hie:i=l.length:=by omega
  subst hie;refine awp_exit ?_;simp only[zT,reduceIte,Nat.reduceEqDiff];refine hK1 _ _ ?_;refine awp_prune [5] ?_;simp only[zP,Nat.reduceEqDiff,reduceIte];refine aS fun K hK=>?_;simp -dsimp;apply hK;clear hK K;exact awp_ret (by simp)
end Go.Tram
end
section
namespace Go.Tram
open Go.AM Go.Proofs
theorem lexB_refl:∀a:List Int,lexB a a=false
 |[]=>rfl
 |x::a=>by simp only[lexB,lexB_refl a,Bool.and_false,Bool.or_false,decide_eq_false_iff_not];omega
theorem lexB_diff:∀(i:Nat) {a b:List Move} {x y:Move},a.take i=b.take i→a[i]?=some x→b[i]?=some y→numM x≠numM y→lexB (nums a) (nums b)=decide (numM x<numM y)
 |0,[],_,_,_,_,h,_,_=>by cases h
 |0,_::_,[],_,_,_,_,h,_=>by cases h
 |0,u::a,v::b,x,y,_,h1,h2,h3=>by
  simp only[List.getElem?_cons_zero,Option.some.injEq]at h1 h2;subst h1 h2;simp only[nums,List.map_cons,lexB,decide_eq_false h3,Bool.false_and,Bool.or_false]
 |i+1,[],_,_,_,_,h,_,_=>by cases h
 |i+1,_::_,[],_,_,_,_,h,_=>by cases h
 |i+1,u::a,v::b,x,y,ht,h1,h2,h3=>by
  rw[List.take_succ_cons,List.take_succ_cons,List.cons.injEq]at ht;obtain⟨rfl,ht⟩:=ht;have ih:=lexB_diff i ht h1 h2 h3;simp only[nums,List.map_cons,lexB,decide_true,Bool.true_and]at ih ⊢;rw[ih,decide_eq_false (Int.lt_irrefl _),Bool.false_or]
theorem mv_neqd (x y:Move):(!decide (x.Rail=y.Rail)|| !decide (x.Back=y.Back))= !decide (x=y):=by
 cases x;cases y;simp only[Move.mk.injEq,Bool.decide_and,Bool.not_and]
theorem mv_eqd2 (x y:Move):(decide (x.Rail=y.Rail)&&decide (x.Back=y.Back))=decide (x=y):=by
 cases x;cases y;simp only[Move.mk.injEq,Bool.decide_and]
theorem beg_bd {p:Plan} (hv:validB p=true) {w:List Move} (hw:BegW p w):w.length≤800∧∀m∈w,0≤m.Rail∧m.Rail≤1000:=by
 have hR:=(valid_parts hv).2.1;have hl:=beg_len hv hw;refine⟨by omega,fun m hm=>?_⟩;have:=movB_iff.1 (hw.mv m hm);omega
theorem c_rBefore (p:Plan) (a b:List Move) (hv:validB p=true) (ha:BegW p a) (hb:BegW p b):PureCall Tryz.prog 53 [p.av,mLst a,mLst b] (Bo (bfrB p a b)):=by
 have hwa:=c_rWayLength p a hv (way_beg hv ha);have hwb:=c_rWayLength p b hv (way_beg hv hb);have hla:=beg_bd hv ha;have hlb:=beg_bd hv hb;have hbf:bfrB p a b=(decide (begTo p a a.length<begTo p b b.length)||(decide (begTo p a a.length=begTo p b b.length)&&(decide ((a.length:Int)<b.length)||(decide ((a.length:Int)=b.length)&&lexB (nums a) (nums b))))):=rfl;generalize begTo p a a.length=X at*
 generalize begTo p b b.length=Y at*
 refine PureCall.of_body Tryz.func53 rfl (by decide) (by simp[Tryz.ntmps53]) ?_;simp only[Tryz.ntmps53,Tryz.results53];refine aS fun K hK=>?_;simp -dsimp;apply hK;clear hK K;refine awp_sd mixed rfl fun K hK=>?_;simp -dsimp;refine callK_intro _ (hwa) (by simp) ?_;simp -dsimp;refine callK_intro _ (hwb) (by simp) ?_;simp -dsimp;refine hK _ _ _ (by decide+kernel) ?_;clear hK K;refine awp_seq_k fun K1 hK1=>?_;refine aS fun K hK=>?_;simp -dsimp;apply hK;clear hK K;refine awp_cond rfl (fun hc0=>?_) (fun hc0=>?_)
 ·have hne:X≠Y:=by simpa using hc0
  refine aS fun K hK=>?_;simp -dsimp;apply hK;clear hK K;exact awp_ret (by simp[hbf,hne])
 ·have he:X=Y:=by simpa using hc0
  refine awp_skip ?_;simp only[zT,reduceIte,Nat.reduceEqDiff];refine hK1 _ _ ?_;refine awp_prune [1,2] ?_;simp only[zP,Nat.reduceEqDiff,reduceIte];refine awp_seq_k fun K2 hK2=>?_;refine aS fun K hK=>?_;simp -dsimp;apply hK;clear hK K;refine awp_cond rfl (fun hc1=>?_) (fun hc1=>?_)
  ·have hn1:¬(a.length:Int)=b.length:=by simpa using hc1
   refine aS fun K hK=>?_;simp -dsimp;apply hK;clear hK K;exact awp_ret (by simp[hbf,he,hn1])
  ·have hn1:(a.length:Int)=b.length:=by simpa using hc1
   rw[decide_eq_false (by omega:¬X<Y),decide_eq_true he,decide_eq_false (by omega:¬(a.length:Int)<b.length),decide_eq_true hn1]at hbf;simp only[Bool.false_or,Bool.true_and]at hbf;refine awp_skip ?_;simp only[zT,reduceIte,Nat.reduceEqDiff];refine hK2 _ _ ?_;refine awp_prune [1,2] ?_;simp only[zP,Nat.reduceEqDiff,reduceIte];refine awp_seq_k fun K3 hK3=>?_;refine aS fun K hK=>?_;simp -dsimp;apply hK;clear hK K;refine awp_block ?_;refine awp_prune [1,2,9] ?_;simp only[zP,Nat.reduceEqDiff,reduceIte];refine awp_loop_l [1,2] (α:=Nat) (fun i=>[(9,I i)]) (fun _=>[some (.els 2 [p.cells])]) (fun i=>i≤a.length∧a.take i=b.take i) (fun i=>a.length-i) 0 ?_ ?_ ?_
   ·exact⟨Nat.zero_le _,by simp⟩
   ·exact sub_rb [some 0] rfl (by simp) (by simp)
   rintro i ⟨i1,i2⟩;simp only[zP,Nat.reduceEqDiff,reduceIte];refine awp_seq_k fun K4 hK4=>?_;refine aS fun K hK=>?_;simp -dsimp;apply hK;clear hK K;refine awp_cond rfl (fun hc2=>?_) (fun hc2=>?_)
   ·have hi:i<a.length:=by simpa using hc2
    obtain⟨x,hx⟩:∃x,a[i]?=some x:=⟨_,List.getElem?_eq_getElem hi⟩;obtain⟨y,hy⟩:∃y,b[i]?=some y:=⟨_,List.getElem?_eq_getElem (by omega)⟩;have hmx:=hla.2 x (List.mem_of_getElem? hx);have hmy:=hlb.2 y (List.mem_of_getElem? hy);have wi:=zW i (by omega);have hnx:=c_rNumber x (by omega) (by omega);have hny:=c_rNumber y (by omega) (by omega);refine awp_skip ?_;simp only[zT,reduceIte,Nat.reduceEqDiff];refine hK4 _ _ ?_;refine awp_prune [1,2,9] ?_;simp only[zP,Nat.reduceEqDiff,reduceIte];refine awp_seq_k fun K5 hK5=>?_;refine awp_block ?_;refine awp_sd mixed rfl fun K hK=>?_;simp -dsimp [hx,hy];refine hK _ _ _ (by decide+kernel) ?_;clear hK K;refine awp_cond rfl (fun hc3=>?_) (fun hc3=>?_)
    ·simp only[mv_neqd,Bool.not_eq_true',Bool.not_eq_false',decide_eq_true_eq,decide_eq_false_iff_not]at hc3;refine awp_sd mixed rfl fun K hK=>?_;simp -dsimp [hx,hy];refine callK_intro _ (hnx) (by simp) ?_;simp -dsimp [hx,hy];refine callK_intro _ (hny) (by simp) ?_;simp -dsimp [hx,hy];refine hK _ _ _ (by decide+kernel) ?_;clear hK K;exact awp_ret (by simp[hbf,lexB_diff i i2 hx hy (fun e=>hc3 (by rw[←moveM_numM hmx.1,←moveM_numM hmy.1,e]))])
    ·simp only[mv_neqd,Bool.not_eq_true',Bool.not_eq_false',decide_eq_true_eq,decide_eq_false_iff_not]at hc3;refine awp_skip ?_;simp only[zT,reduceIte,Nat.reduceEqDiff];refine hK5 _ _ ?_;refine awp_prune [1,2,9] ?_;simp only[zP,Nat.reduceEqDiff,reduceIte];refine aR fun K hK=>?_;simp -dsimp [wi];apply hK;clear hK K;simp only[zT,reduceIte,Nat.reduceEqDiff];exact⟨i+1,⟨by omega,by rw[List.take_add_one,List.take_add_one,i2,hx,hy,hc3]⟩,by omega,sub_rb [some 0] rfl (by simp) (by simp)⟩
   ·have hi:i=a.length:=by have:¬i<a.length:=(by simpa using hc2);omega
    have hab:a=b:=by rw[hi,List.take_length,show a.length=b.length by omega,List.take_length]at i2;exact i2
    refine awp_exit ?_;simp only[zT,reduceIte,Nat.reduceEqDiff];refine hK3 _ _ ?_;refine awp_prune [] ?_;simp only[zP,Nat.reduceEqDiff,reduceIte];refine aS fun K hK=>?_;simp -dsimp;apply hK;clear hK K;have hbf2:bfrB p a b=false:=by rw[hbf,hab,lexB_refl]
    exact awp_ret (by simp[hbf2])
abbrev wCell (c:List Move):List AV:=[mLst c]
abbrev wL (l:List (List Move)):AV:= .lst 1 (l.map wCell)
theorem flat_w (l:List (List Move)):(l.map wCell).all (fun e=>e.all flatC)=true:=by simp[flatC]
@[simp high] theorem flat_w_ren (l:List (List Move)) (g:List (Option Nat)) (n:Nat):(l.map wCell).map (fun e=>e.map (renAV g n))=l.map wCell:=map_flatC (fun x h=>flatC_ren h g n) (flat_w l)
@[simp high] theorem flat_w_renF (l:List (List Move)) (H:Nat→Option ARow) (g:List (Option Nat)) (n:Nat):(l.map wCell).map (fun e=>e.map (renF H g n))=l.map wCell:=map_flatC (fun x h=>flatC_renF h H g n) (flat_w l)
@[simp high] theorem flat_w_frzP (l:List (List Move)) (H:Hp) (n:Nat):(l.map wCell).map (fun e=>e.map (frzP H n))=l.map wCell:=map_flatC (fun x h=>flatC_frzP h H n) (flat_w l)
def onN (p:Plan) (g:List Move→List (List Move)) (w:List Move) (n:Nat):List (List Move):=((nextL p (lastM w)).take n).flatMap fun m=>if m∈w then []else g (w++[m])
theorem onN_succ {p:Plan} {g:List Move→List (List Move)} {w:List Move} {n:Nat} {m:Move} (h:(nextL p (lastM w))[n]?=some m):onN p g w (n+1)=onN p g w n++if m∈w then []else g (w++[m]):=by
 unfold onN;rw[List.take_add_one,h,List.flatMap_append];simp
theorem onN_len {p:Plan} {g:List Move→List (List Move)} {w:List Move} {B:Nat} (hg:∀m,m∈nextL p (lastM w)→m∉w→(g (w++[m])).length≤B):∀n,(onN p g w n).length≤n*B:=by
 intro n
 induction n with
 |zero=>simp[onN]
 | succ n ih=>
  cases h:(nextL p (lastM w))[n]? with
  |none=>
   have:onN p g w (n+1)=onN p g w n:=by unfold onN;rw[List.take_add_one,h];simp
   rw[this,Nat.add_mul];omega
  |some m=>
   rw[onN_succ h,List.length_append,Nat.add_mul,Nat.one_mul]
   split
   ·simp;omega
   ·have:=hg m (List.mem_of_getElem? h) (by assumption);omega
abbrev wRow (l:List (List Move)):Option ARow:=some (.els 1 (l.map wCell))
def OnC (p:Plan) (w:List Move) (to:Move) (l:List (List Move)):Prop:=MutCall Tryz.prog 52 [p.av,mLst w,to.av] [] [] (.row 0 0 l.length) [] [wRow l]
theorem on_eat {p:Plan} {w:List Move} {to:Move} {l:List (List Move)} (h:OnC p w to l):MutCall Tryz.prog 52 [p.av, .row 0 0 w.length,to.av] [] [some (.els 2 (w.map Move.cells))] (.row 0 0 l.length) [] [wRow l]:=by
 refine MutCall.eat 40 0 rfl ?_ ?_ h
 ·simp[List.range,List.range.loop]
 ·simp[List.range,List.range.loop]
theorem m_on_t (p:Plan) (w:List Move) (hv:validB p=true) (hw:BegW p w):OnC p w (lastM w) [w]:=by
 have hb:=beg_bd hv hw;have hpos:=List.length_pos_iff.2 hw.ne;have hlm:=hw.mv _ (lastM_mem hw.ne);have hgw:w[w.length-1]?=some (lastM w):=by rw[lastM_at hw.ne];unfold mvAt;rw[List.getElem?_eq_getElem (by omega)];rfl
 have w1:IntKind.i64.wrap ((w.length:Int)-1)=((w.length-1:Nat):Int):=by rw[wrap_in (by omega) (by omega)];omega
 have hnx:=c_rNext p (lastM w) hv hlm;have hnl:=nextL_len p (lastM w) hv hlm;have f1:Fits w.length 17:=fits_of (by omega) (by omega);have hne:¬w=[]:=hw.ne;have f3:Fits 1 25:=fits_of (by omega) (by omega);have htw:List.take w.length (w.map Move.cells)=w.map Move.cells:=List.take_of_length_le (by simp);generalize lastM w=z at*
 generalize nextL p z=N at*
 unfold OnC;refine MutCall.of_bodyG [] Tryz.func52 rfl (by decide) (by simp[Tryz.ntmps52]) rfl rfl ?_;intro J hJ;simp only[Tryz.ntmps52,Tryz.results52];refine gS fun K hK=>?_;simp -dsimp;apply hK;clear hK K;refine gS fun K hK=>?_;simp -dsimp [w1,hgw];apply hK;clear hK K;refine gS fun K hK=>?_;simp -dsimp;apply hK;clear hK K;refine gwp_seq_k fun K1 hK1=>?_;refine gS fun K hK=>?_;simp -dsimp;apply hK;clear hK K;refine gwp_cond rfl (fun hc0=>?_) (fun hc0=>?_)
 ·refine gwp_flag (by decide) ?_;refine gR fun K hK=>?_;simp -dsimp [f1,hne,f3];apply hK;clear hK K;simp only[zT,reduceIte,Nat.reduceEqDiff];refine hK1 _ _ ?_;refine gwp_prune [1,3,5,7,8] (Or.inr (by simp)) ?_;simp only[zP,Nat.reduceEqDiff,reduceIte];refine gS fun K hK=>?_;simp -dsimp;refine callK_intro _ (hnx) (by simp) ?_;simp -dsimp;apply hK;clear hK K;refine gwp_seq_k fun K2 hK2=>?_;refine gS fun K hK=>?_;simp -dsimp;apply hK;clear hK K;refine gwp_block ?_;refine gwp_prune [1,3,5,7,8,9,10] (Or.inr (by simp)) ?_;simp only[zP,Nat.reduceEqDiff,reduceIte];refine gwp_loop_l [1,3,5,7,9] (α:=Nat) (fun i=>[(8, .row 3 0 1),(10,I i)]) (fun _=>[some (.els 2 [p.cells]),some (.els 2 [z.cells]),some (.els 2 [z.cells]),some (.els 1 [wCell w])]) (fun i=>i≤N.length) (fun i=>N.length-i) 0 ?_ ?_ ?_
  ·exact Nat.zero_le _
  ·exact gsub (sub_rf (T':=[(8, .row 3 0 1),(10,I ((0:Nat):Int)),(1,mLst w),(3, .ptr 0 0 0),(5, .ptr 1 0 0),(7, .ptr 2 0 0),(9,mLst N)]) (H':=[some (.els 2 [p.cells]),some (.els 2 [z.cells]),some (.els 2 [z.cells]),some (.els 1 [wCell w])]) [some 0,some 1,some 2,some 5] rfl ⟨.inr (by simp), .inr (by simp), .inr (by simp), .inr (by simp), .inr (by simp), .inr (by simp), .inr (by simp),trivial⟩ (by simp[htw])) (by simp)
  rintro i i1;simp only[zP,Nat.reduceEqDiff,reduceIte];refine gwp_seq_k fun K3 hK3=>?_;refine gS fun K hK=>?_;simp -dsimp;apply hK;clear hK K;refine gwp_cond rfl (fun hc1=>?_) (fun hc1=>?_)
  ·have hi:i<N.length:=by simpa using hc1
   obtain⟨m,hgm⟩:∃m,N[i]?=some m:=⟨_,List.getElem?_eq_getElem hi⟩;have wi:=zW i (by omega);refine gwp_skip ?_;simp only[zT,reduceIte,Nat.reduceEqDiff];refine hK3 _ _ ?_;refine gwp_prune [1,3,5,7,8,9,10] (Or.inr (by simp)) ?_;simp only[zP,Nat.reduceEqDiff,reduceIte];refine gwp_seq_k fun K4 hK4=>?_;refine gwp_block ?_;refine gS fun K hK=>?_;simp -dsimp;apply hK;clear hK K;refine gwp_seq_k fun K5 hK5=>?_;refine gS fun K hK=>?_;simp -dsimp;apply hK;clear hK K;refine gwp_block ?_;refine gwp_prune [1,3,5,7,8,9,10,11,12] (Or.inr (by simp)) ?_;simp only[zP,Nat.reduceEqDiff,reduceIte];refine gwp_loop_l [1,3,5,7,8,9,10] (α:=Nat) (fun k=>[(11,Bo (decide (m∈w.take k))),(12,I k)]) (fun _=>[some (.els 2 [p.cells]),some (.els 2 [z.cells]),some (.els 2 [z.cells]),some (.els 1 [wCell w])]) (fun k=>k≤w.length) (fun k=>w.length-k) 0 ?_ ?_ ?_
   ·exact Nat.zero_le _
   ·exact gsub (sub_rb [some 0,some 1,some 2,some 3] rfl (by simp) (by simp)) (by simp)
   rintro k k1;simp only[zP,Nat.reduceEqDiff,reduceIte];refine gwp_seq_k fun K6 hK6=>?_;refine gS fun K hK=>?_;simp -dsimp;apply hK;clear hK K;refine gwp_cond rfl (fun hc2=>?_) (fun hc2=>?_)
   ·have hk:k<w.length:=by simpa using hc2
    obtain⟨y,hy⟩:∃y,w[k]?=some y:=⟨_,List.getElem?_eq_getElem hk⟩;have wk:=zW k (by omega);have hin:decide (m∈w.take (k+1))=(decide (m∈w.take k)||(decide (y.Rail=m.Rail)&&decide (y.Back=m.Back))):=by rw[mv_eqd2,List.take_add_one,hy];simp[eq_comm]
    refine gwp_skip ?_;simp only[zT,reduceIte,Nat.reduceEqDiff];refine hK6 _ _ ?_;refine gwp_prune [1,3,5,7,8,9,10,11,12] (Or.inr (by simp)) ?_;simp only[zP,Nat.reduceEqDiff,reduceIte];refine gwp_seq_k fun K7 hK7=>?_;refine gwp_block ?_;refine gwp_draw mixed rfl (by decide) rfl rfl fun K hK=>?_;simp -dsimp;refine idxK_intro y.cells (fun hm=>by rw[List.getElem?_map,hy];rfl) ?_;simp -dsimp;refine idxK_intro m.cells (fun hm=>by rw[List.getElem?_map,hgm];rfl) ?_;simp -dsimp;refine hK _ _ _ (by decide+kernel) ?_;clear hK K;simp only[zT,reduceIte,Nat.reduceEqDiff];refine hK7 _ _ ?_;refine gwp_prune [1,3,5,7,8,9,10,11,12] (Or.inr (by simp)) ?_;simp only[zP,Nat.reduceEqDiff,reduceIte];refine gR fun K hK=>?_;simp -dsimp [wk];apply hK;clear hK K;simp only[zT,reduceIte,Nat.reduceEqDiff];exact⟨k+1,by omega,by omega,gsub (sub_rb [some 0,some 1,some 2,some 3] rfl (by simp[hin]) (by simp)) (by simp)⟩
   ·have hk:k=w.length:=by have:¬k<w.length:=(by simpa using hc2);omega
    rw[hk,List.take_length];refine gwp_exit ?_;simp only[zT,reduceIte,Nat.reduceEqDiff];refine hK5 _ _ ?_;refine gwp_prune [1,3,5,7,8,9,10,11] (Or.inr (by simp)) ?_;simp only[zP,Nat.reduceEqDiff,reduceIte];refine gS fun K hK=>?_;simp -dsimp;apply hK;clear hK K;refine gwp_cond rfl (fun hc3=>?_) (fun hc3=>?_)
    ·simp at hc3
    ·refine gwp_skip ?_;simp only[zT,reduceIte,Nat.reduceEqDiff];refine hK4 _ _ ?_;refine gwp_prune [1,3,5,7,8,9,10] (Or.inr (by simp)) ?_;simp only[zP,Nat.reduceEqDiff,reduceIte];refine gR fun K hK=>?_;simp -dsimp [wi];apply hK;clear hK K;simp only[zT,reduceIte,Nat.reduceEqDiff];exact⟨i+1,by omega,by omega,gsub (sub_rb [some 0,some 1,some 2,some 3] rfl (by simp) (by simp)) (by simp)⟩
  ·have hi:i=N.length:=by have:¬i<N.length:=(by simpa using hc1);omega
   refine gwp_exit ?_;simp only[zT,reduceIte,Nat.reduceEqDiff];refine hK2 _ _ ?_;refine gwp_prune [8] (Or.inr (by simp)) ?_;simp only[zP,Nat.reduceEqDiff,reduceIte];refine gS fun K hK=>?_;simp -dsimp;apply hK;clear hK K;exact gwp_ret ⟨[some 3],rfl,by simp,by simp,by simp,by simp[resP,tupOf]⟩
 ·simp at hc0
theorem m_on_f (p:Plan) (w:List Move) (to:Move) (g:List Move→List (List Move)) (hv:validB p=true) (hw:BegW p w) (hlt:lastM w≠to)
  (hih:∀m∈nextL p (lastM w),m∉w→OnC p (w++[m]) to (g (w++[m]))) (hgl:∀m∈nextL p (lastM w),m∉w→(g (w++[m])).length≤70000):
  OnC p w to (onN p g w (nextL p (lastM w)).length):=by
 have hb:=beg_bd hv hw;have hpos:=List.length_pos_iff.2 hw.ne;have hlm:=hw.mv _ (lastM_mem hw.ne);have hgw:w[w.length-1]?=some (lastM w):=by rw[lastM_at hw.ne];unfold mvAt;rw[List.getElem?_eq_getElem (by omega)];rfl
 have w1:IntKind.i64.wrap ((w.length:Int)-1)=((w.length-1:Nat):Int):=by rw[wrap_in (by omega) (by omega)];omega
 have hnx:=c_rNext p (lastM w) hv hlm;have hnl:=nextL_len p (lastM w) hv hlm;have f1:Fits w.length 17:=fits_of (by omega) (by omega);have f2:Fits (w.length+1) 17:=fits_of (by omega) (by omega);have hne:¬w=[]:=hw.ne;have htw:List.take w.length (w.map Move.cells)=w.map Move.cells:=List.take_of_length_le (by simp);have hOs:=fun i m=>onN_succ (p:=p) (g:=g) (w:=w) (n:=i) (m:=m);have hOl:=onN_len (p:=p) (g:=g) (w:=w) hgl;have hO0:onN p g w 0=[]:=by simp[onN]
 generalize onN p g w=O at*
 generalize lastM w=z at*
 generalize nextL p z=N at*
 unfold OnC;refine MutCall.of_bodyG [] Tryz.func52 rfl (by decide) (by simp[Tryz.ntmps52]) rfl rfl ?_;intro J hJ;simp only[Tryz.ntmps52,Tryz.results52];refine gS fun K hK=>?_;simp -dsimp;apply hK;clear hK K;refine gS fun K hK=>?_;simp -dsimp [w1,hgw];apply hK;clear hK K;refine gS fun K hK=>?_;simp -dsimp;apply hK;clear hK K;refine gwp_seq_k fun K1 hK1=>?_;refine gS fun K hK=>?_;simp -dsimp;apply hK;clear hK K;refine gwp_cond rfl (fun hc0=>?_) (fun hc0=>?_)
 ·simp only[mv_eqd2,decide_eq_true_eq,decide_eq_false_iff_not]at hc0;exact absurd hc0 hlt
 ·simp only[mv_eqd2,decide_eq_true_eq,decide_eq_false_iff_not]at hc0;refine gwp_skip ?_;simp only[zT,reduceIte,Nat.reduceEqDiff];refine hK1 _ _ ?_;refine gwp_prune [1,3,5,7,8] (Or.inr (by simp)) ?_;simp only[zP,Nat.reduceEqDiff,reduceIte];refine gS fun K hK=>?_;simp -dsimp;refine callK_intro _ (hnx) (by simp) ?_;simp -dsimp;apply hK;clear hK K;refine gwp_seq_k fun K2 hK2=>?_;refine gS fun K hK=>?_;simp -dsimp;apply hK;clear hK K;refine gwp_block ?_;refine gwp_prune [1,3,5,7,8,9,10] (Or.inr (by simp)) ?_;simp only[zP,Nat.reduceEqDiff,reduceIte];refine gwp_loop_l [1,3,5,7,9] (α:=Nat) (fun i=>[(8, .row 3 0 (O i).length),(10,I i)]) (fun i=>[some (.els 2 [p.cells]),some (.els 2 [to.cells]),some (.els 2 [z.cells]),some (.els 1 ((O i).map wCell))]) (fun i=>i≤N.length) (fun i=>N.length-i) 0 ?_ ?_ ?_
  ·exact Nat.zero_le _
  ·exact gsub ((sub_nil 8 1 (by simp)).trans (sub_rb [some 0,some 1,some 2,some 3] rfl (by simp[hO0]) (by simp[hO0]))) (by simp)
  rintro i i1;simp only[zP,Nat.reduceEqDiff,reduceIte];refine gwp_seq_k fun K3 hK3=>?_;refine gS fun K hK=>?_;simp -dsimp;apply hK;clear hK K;refine gwp_cond rfl (fun hc1=>?_) (fun hc1=>?_)
  ·have hi:i<N.length:=by simpa using hc1
   obtain⟨m,hgm⟩:∃m,N[i]?=some m:=⟨_,List.getElem?_eq_getElem hi⟩;have wi:=zW i (by omega);have hos:=hOs i m hgm;have hol:=hOl i;generalize O i=Q at hos hol ⊢;refine gwp_skip ?_;simp only[zT,reduceIte,Nat.reduceEqDiff];refine hK3 _ _ ?_;refine gwp_prune [1,3,5,7,8,9,10] (Or.inr (by simp)) ?_;simp only[zP,Nat.reduceEqDiff,reduceIte];refine gwp_seq_k fun K4 hK4=>?_;refine gwp_block ?_;refine gS fun K hK=>?_;simp -dsimp;apply hK;clear hK K;refine gwp_seq_k fun K5 hK5=>?_;refine gS fun K hK=>?_;simp -dsimp;apply hK;clear hK K;refine gwp_block ?_;refine gwp_prune [1,3,5,7,8,9,10,11,12] (Or.inr (by simp)) ?_;simp only[zP,Nat.reduceEqDiff,reduceIte];refine gwp_loop_l [1,3,5,7,8,9,10] (α:=Nat) (fun k=>[(11,Bo (decide (m∈w.take k))),(12,I k)]) (fun _=>[some (.els 2 [p.cells]),some (.els 2 [to.cells]),some (.els 2 [z.cells]),some (.els 1 (Q.map wCell))]) (fun k=>k≤w.length) (fun k=>w.length-k) 0 ?_ ?_ ?_
   ·exact Nat.zero_le _
   ·exact gsub (sub_rb [some 0,some 1,some 2,some 3] rfl (by simp) (by simp)) (by simp)
   rintro k k1;simp only[zP,Nat.reduceEqDiff,reduceIte];refine gwp_seq_k fun K6 hK6=>?_;refine gS fun K hK=>?_;simp -dsimp;apply hK;clear hK K;refine gwp_cond rfl (fun hc2=>?_) (fun hc2=>?_)
   ·have hk:k<w.length:=by simpa using hc2
    obtain⟨y,hy⟩:∃y,w[k]?=some y:=⟨_,List.getElem?_eq_getElem hk⟩;have wk:=zW k (by omega);have hin:decide (m∈w.take (k+1))=(decide (m∈w.take k)||(decide (y.Rail=m.Rail)&&decide (y.Back=m.Back))):=by rw[mv_eqd2,List.take_add_one,hy];simp[eq_comm]
    refine gwp_skip ?_;simp only[zT,reduceIte,Nat.reduceEqDiff];refine hK6 _ _ ?_;refine gwp_prune [1,3,5,7,8,9,10,11,12] (Or.inr (by simp)) ?_;simp only[zP,Nat.reduceEqDiff,reduceIte];refine gwp_seq_k fun K7 hK7=>?_;refine gwp_block ?_;refine gwp_draw mixed rfl (by decide) rfl rfl fun K hK=>?_;simp -dsimp;refine idxK_intro y.cells (fun hm=>by rw[List.getElem?_map,hy];rfl) ?_;simp -dsimp;refine idxK_intro m.cells (fun hm=>by rw[List.getElem?_map,hgm];rfl) ?_;simp -dsimp;refine hK _ _ _ (by decide+kernel) ?_;clear hK K;simp only[zT,reduceIte,Nat.reduceEqDiff];refine hK7 _ _ ?_;refine gwp_prune [1,3,5,7,8,9,10,11,12] (Or.inr (by simp)) ?_;simp only[zP,Nat.reduceEqDiff,reduceIte];refine gR fun K hK=>?_;simp -dsimp [wk];apply hK;clear hK K;simp only[zT,reduceIte,Nat.reduceEqDiff];exact⟨k+1,by omega,by omega,gsub (sub_rb [some 0,some 1,some 2,some 3] rfl (by simp[hin]) (by simp)) (by simp)⟩
   ·have hk:k=w.length:=by have:¬k<w.length:=(by simpa using hc2);omega
    rw[hk,List.take_length];refine gwp_exit ?_;simp only[zT,reduceIte,Nat.reduceEqDiff];refine hK5 _ _ ?_;refine gwp_prune [1,3,5,7,8,9,10,11] (Or.inr (by simp)) ?_;simp only[zP,Nat.reduceEqDiff,reduceIte];refine gS fun K hK=>?_;simp -dsimp;apply hK;clear hK K;refine gwp_cond rfl (fun hc3=>?_) (fun hc3=>?_)
    ·have hmw:m∉w:=by simp at hc3;exact hc3.1
     have hcall:=hih m (List.mem_of_getElem? hgm) hmw;have hgll:=hgl m (List.mem_of_getElem? hgm) hmw;rw[if_neg hmw]at hos;generalize g (w++[m])=G at hcall hgll hos;have f4:Fits (Q.length+G.length) 25:=by unfold Fits;have:=Nat.mul_le_mul (Nat.le_trans i1 hnl) (Nat.le_refl 70000);omega
     have hcall2:=on_eat hcall;rw[List.length_append,List.map_append]at hcall2;simp only[List.length_singleton,List.map_cons,List.map_nil]at hcall2;have htq:List.take Q.length (Q.map wCell)=Q.map wCell:=List.take_of_length_le (by simp);have htg:List.take G.length (G.map wCell)=G.map wCell:=List.take_of_length_le (by simp);have htk:List.take (w.length+1) (w.map Move.cells++[[I m.Rail,Bo m.Back]])=w.map Move.cells++[[I m.Rail,Bo m.Back]]:=List.take_of_length_le (by simp);refine gwp_draw mixed rfl (by decide) rfl rfl fun K hK=>?_;simp -dsimp [f1,f2,hne,hgm,f4,htw,htq,htk,htg];refine callK_mut [] [5] [none,none,none,none,none,none,some 0] (hcall2) (by decide) rfl (by simp) (by simp) rfl (by simp) ?_;simp -dsimp [f1,f2,hne,hgm,f4,htw,htq,htk,htg];refine hK _ _ _ (by decide+kernel) ?_;clear hK K;simp only[zT,reduceIte,Nat.reduceEqDiff];refine hK4 _ _ ?_;refine gwp_prune [1,3,5,7,8,9,10] (Or.inr (by simp)) ?_;simp only[zP,Nat.reduceEqDiff,reduceIte];refine gR fun K hK=>?_;simp -dsimp [wi];apply hK;clear hK K;simp only[zT,reduceIte,Nat.reduceEqDiff];exact⟨i+1,by omega,by omega,gsub (sub_rb [some 0,some 1,some 2,some 7] rfl (by simp[hos]) (by simp[hos])) (by simp)⟩
    ·have hmw:m∈w:=by have h2:=hc3;rw[mv_neqd,decide_eq_false hlt]at h2;simpa using h2
     rw[if_pos hmw,List.append_nil]at hos;refine gwp_skip ?_;simp only[zT,reduceIte,Nat.reduceEqDiff];refine hK4 _ _ ?_;refine gwp_prune [1,3,5,7,8,9,10] (Or.inr (by simp)) ?_;simp only[zP,Nat.reduceEqDiff,reduceIte];refine gR fun K hK=>?_;simp -dsimp [wi];apply hK;clear hK K;simp only[zT,reduceIte,Nat.reduceEqDiff];exact⟨i+1,by omega,by omega,gsub (sub_rb [some 0,some 1,some 2,some 3] rfl (by simp[hos]) (by simp[hos])) (by simp)⟩
  ·have hi:i=N.length:=by have:¬i<N.length:=(by simpa using hc1);omega
   subst hi;refine gwp_exit ?_;simp only[zT,reduceIte,Nat.reduceEqDiff];refine hK2 _ _ ?_;refine gwp_prune [8] (Or.inr (by simp)) ?_;simp only[zP,Nat.reduceEqDiff,reduceIte];refine gS fun K hK=>?_;simp -dsimp;apply hK;clear hK K;exact gwp_ret ⟨[some 3],rfl,by simp,by simp,by simp,by simp[resP,tupOf]⟩
end Go.Tram
end
section
namespace Go.Tram
open Go.AM Go.Proofs
theorem m_on {p:Plan} {to:Move} (hv:validB p=true) (h8:p.Rails.length≤8):∀(f:Nat) (w:List Move),BegW p w→f≤16→2*p.Rails.length≤w.length+f→OnC p w to (onW p to f w):=by
 intro f
 induction f with
 | zero=>
  intro w hw _ hl;rw[onW]
  split
  ·rename_i h;subst h;exact m_on_t p w hv hw
  ·rename_i h;have:=m_on_f p w to (fun _=>[]) hv hw h (fun m hm hmw=>by
    obtain⟨k1,k2⟩:=next_ok hv (hw.mv _ (lastM_mem hw.ne)) hm;have:=beg_len hv (hw.snoc k1 k2 hmw);rw[List.length_append,List.length_singleton]at this;omega) (fun _ _ _=>by simp)
   have e:onN p (fun _=>[]) w (nextL p (lastM w)).length=[]:=by unfold onN;simp
   rw[e]at this;exact this
 | succ f ih=>
  intro w hw hf hl;rw[onW]
  split
  ·rename_i h;subst h;exact m_on_t p w hv hw
  ·rename_i h;have key:∀m∈nextL p (lastM w),m∉w→BegW p (w++[m]):=fun m hm hmw=>by
    obtain⟨k1,k2⟩:=next_ok hv (hw.mv _ (lastM_mem hw.ne)) hm;exact hw.snoc k1 k2 hmw
   have:=m_on_f p w to (onW p to f) hv hw h (fun m hm hmw=>ih _ (key m hm hmw) (by omega) (by rw[List.length_append,List.length_singleton];omega)) (fun m hm hmw=>by
    have h1:=onW_len hv to f _ (key m hm hmw);have h2:2^f≤2^16:=Nat.pow_le_pow_right (by omega) (by omega);have h3:2^16=65536:=rfl;omega)
   unfold onN at this;rw[List.take_length]at this;exact this
theorem gd_at {l:List (List Move)} {k:Nat} (h:k<l.length):l[k]?=some (gd l k):=getD_at h
theorem insK_stop {α:Type} [Inhabited α] {lt:α→α→Bool} {l:List α} {x:α} {k:Nat} (h:(decide (0<k)&&lt x (gd l (k-1)))=false):insK lt l x k=k:=by
 cases k with
 |zero=>rfl
 |succ k=>
  unfold insK;simp only[Nat.add_sub_cancel,Nat.zero_lt_succ,decide_true,Bool.true_and]at h;rw[h];simp
theorem insK_on {α:Type} [Inhabited α] {lt:α→α→Bool} {l:List α} {x:α} {k:Nat} (h:(decide (0<k)&&lt x (gd l (k-1)))=true):0<k∧insK lt l x k=insK lt l x (k-1):=by
 rw[Bool.and_eq_true,decide_eq_true_eq]at h;obtain⟨k,rfl⟩:∃q,k=q+1:=⟨k-1,by omega⟩;refine⟨by omega,?_⟩;have h2:=h.2;simp only[Nat.add_sub_cancel]at h2 ⊢;show(if lt x (gd l k)=true then insK lt l x k else k+1)=insK lt l x k;rw[if_pos h2]
def sortN (p:Plan) (l:List (List Move)) (i:Nat):List (List Move):=sortB (bfrB p) (l.take i)
theorem sortN_succ {p:Plan} {l:List (List Move)} {i:Nat} {x:List Move} (h:l[i]?=some x):sortN p l (i+1)=insB (bfrB p) (sortN p l i) x:=by
 unfold sortN sortB;rw[List.take_add_one,h,List.foldl_append];rfl
theorem c_rWays (p:Plan) (fr to:Move) (hv:validB p=true) (h8:p.Rails.length≤8) (hf:movB p fr=true) (hto:movB p to=true):PureCall Tryz.prog 14 [p.av,fr.av,to.av] (wL (refW p fr to)):=by
 have hR:=(valid_parts hv).2.1;have hon:=on_eat (m_on (to:=to) hv h8 (2*p.Rails.length) [fr] (beg_one hf) (by omega) (by simp));have hL:∀c∈allW p fr to,BegW p c:=fun c hc=>(allW_beg hv hf hc).1;have hLl:(allW p fr to).length≤65536:=by
  have h1:=onW_len hv to (2*p.Rails.length) [fr] (beg_one hf);have h2:2^(2*p.Rails.length)≤2^16:=Nat.pow_le_pow_right (by omega) (by omega);have h3:2^16=65536:=rfl;have h4:(allW p fr to).length=(onW p to (2*p.Rails.length) [fr]).length:=rfl;omega
 have hon2:MutCall Tryz.prog 52 [p.av, .row 0 0 1,to.av] [] [some (.els 2 [fr.cells])] (.row 0 0 (allW p fr to).length) [] [wRow (allW p fr to)]:=hon;have hre:refW p fr to=sortN p (allW p fr to) (allW p fr to).length:=by unfold sortN refW;rw[List.take_length]
 rw[hre];generalize allW p fr to=L at*
 have hSs:=fun i x=>sortN_succ (p:=p) (l:=L) (i:=i) (x:=x);have hSm:∀i,∀c∈sortN p L i,BegW p c:=fun i c hc=>hL c (List.mem_of_mem_take ((sortB_perm (bfrB p) (L.take i)).subset hc));have hSl:∀i,(sortN p L i).length≤L.length:=fun i=>by
  have:=(sortB_perm (bfrB p) (L.take i)).length_eq;unfold sortN;rw[this,List.length_take];omega
 have hS0:sortN p L 0=[]:=by simp[sortN,sortB]
 generalize sortN p L=S at*
 have htl:List.take L.length (L.map wCell)=L.map wCell:=List.take_of_length_le (by simp);refine PureCall.of_bodyG Tryz.func14 rfl (by decide) (by simp[Tryz.ntmps14]) ?_;intro J hJ;simp only[Tryz.ntmps14,Tryz.results14];refine gS fun K hK=>?_;simp -dsimp;apply hK;clear hK K;refine gwp_flag (by decide) ?_;refine gS fun K hK=>?_;simp -dsimp;refine callK_mut [] [3] [none,none,none,none,some 0] (hon2) (by decide) rfl (by simp) (by simp) rfl (by simp) ?_;simp -dsimp;apply hK;clear hK K;refine gS fun K hK=>?_;simp -dsimp;apply hK;clear hK K;refine gwp_seq_k fun K1 hK1=>?_;refine gS fun K hK=>?_;simp -dsimp;apply hK;clear hK K;refine gwp_block ?_;refine gwp_prune [3,7,8,9] (Or.inr (by simp)) ?_;simp only[zP,Nat.reduceEqDiff,reduceIte];refine gwp_loop_l [3,7] (α:=Nat) (fun i=>[(8,wL (S i)),(9,I i)]) (fun i=>[some (.els 2 [p.cells]),none,none,none,wRow L]) (fun i=>i≤L.length) (fun i=>L.length-i) 0 ?_ ?_ ?_
 ·exact Nat.zero_le _
 ·refine gsub (AM.Sub.trans (sub_nil 8 1 (by simp)) ?_) (by simp);exact sub_rf (T':=[(8,wL (S 0)),(9,I ((0:Nat):Int)),(3, .ptr 0 0 0),(7, .row 4 0 L.length)]) (H':=[some (.els 2 [p.cells]),none,none,none,wRow L]) [some 0,none,none,none,some 4] rfl ⟨.inr (by simp[hS0]), .inr (by simp), .inr (by simp), .inr (by simp),trivial⟩ (by simp)
 rintro i i1;simp only[zP,Nat.reduceEqDiff,reduceIte];refine gwp_seq_k fun K2 hK2=>?_;refine gS fun K hK=>?_;simp -dsimp;apply hK;clear hK K;refine gwp_cond rfl (fun hc0=>?_) (fun hc0=>?_)
 ·have hi:i<L.length:=by simpa using hc0
  obtain⟨x,hx⟩:∃x,L[i]?=some x:=⟨_,List.getElem?_eq_getElem hi⟩;have wi:=zW i (by omega);have hss:=hSs i x hx;obtain⟨_,hxe⟩:=List.getElem?_eq_some_iff.1 hx;have hsm:=hSm i;have hsl:=hSl i;have hbx:=hL x (List.mem_of_getElem? hx);generalize S i=Q at hss hsm hsl ⊢;refine gwp_skip ?_;simp only[zT,reduceIte,Nat.reduceEqDiff];refine hK2 _ _ ?_;refine gwp_prune [3,7,8,9] (Or.inr (by simp)) ?_;simp only[zP,Nat.reduceEqDiff,reduceIte];refine gwp_seq_k fun K3 hK3=>?_;refine gwp_block ?_;refine gS fun K hK=>?_;simp -dsimp;apply hK;clear hK K;refine gwp_seq_k fun K4 hK4=>?_;refine gwp_block ?_;refine gwp_prune [3,7,8,9,10] (Or.inr (by simp)) ?_;simp only[zP,Nat.reduceEqDiff,reduceIte];refine gwp_loop_l [3,7,8,9] (α:=Nat) (fun k=>[(10,I k)]) (fun _=>[some (.els 2 [p.cells]),none,none,none,wRow L]) (fun k=>k≤Q.length∧insK (bfrB p) Q x k=insK (bfrB p) Q x Q.length) (fun k=>k) Q.length ?_ ?_ ?_
  ·exact⟨Nat.le_refl _,rfl⟩
  ·exact gsub (sub_rb [some 0,none,none,none,some 4] rfl (by simp) (by simp)) (by simp)
  rintro k ⟨k1,k2⟩;have hgq:0<k→Q[k-1]?=some (gd Q (k-1)):=fun h=>gd_at (by omega);have hwk:0<k→IntKind.i64.wrap ((k:Int)-1)=((k-1:Nat):Int):=fun h=>by rw[wrap_in (by omega) (by omega)];omega
  simp only[zP,Nat.reduceEqDiff,reduceIte];refine gwp_seq_k fun K5 hK5=>?_;refine gwp_sd mixed rfl (by decide) rfl rfl fun K hK=>?_;simp -dsimp [hx,hi,hxe];refine⟨fun h=>by rw[hwk h];omega,?_⟩;refine idxK_intro (wCell (gd Q (k-1))) (fun hm=>by have h:0<k:=(by simpa using hm);rw[hwk h,Int.toNat_natCast,List.getElem?_map,hgq h];rfl) ?_;simp -dsimp [hx,hi,hxe];refine callK_may _ (fun hm=>c_rBefore p x (gd Q (k-1)) hv hbx (hsm _ (List.mem_of_getElem? (hgq (by simpa using hm))))) (by simp) ?_;simp -dsimp [hx,hi,hxe];refine hK _ _ _ (by decide+kernel) ?_;clear hK K;refine gwp_cond rfl (fun hc1=>?_) (fun hc1=>?_)
  ·have hcc:=insK_on (lt:=bfrB p) (l:=Q) (x:=x) (k:=k) (by simpa using hc1);have hw1:=hwk hcc.1;refine gwp_skip ?_;simp only[zT,reduceIte,Nat.reduceEqDiff];refine hK5 _ _ ?_;refine gwp_prune [3,7,8,9,10] (Or.inr (by simp)) ?_;simp only[zP,Nat.reduceEqDiff,reduceIte];refine gwp_block ?_;refine gR fun K hK=>?_;simp -dsimp [hw1];apply hK;clear hK K;simp only[zT,reduceIte,Nat.reduceEqDiff];exact⟨k-1,⟨by omega,by rw[←hcc.2];exact k2⟩,by omega,gsub (sub_rb [some 0,none,none,none,some 4] rfl (by simp) (by simp)) (by simp)⟩
  ·have hst:=insK_stop (lt:=bfrB p) (l:=Q) (x:=x) (k:=k) (by simpa using hc1);have hins:S (i+1)=Q.take k++x::Q.drop k:=by rw[hss];unfold insB;rw[←k2,hst]
   have f1:Fits (1+Q.length) 25:=fits_of (by omega) (by omega);have f2:Fits (k+1) 25:=fits_of (by omega) (by omega);have f3:Fits k 25:=fits_of (by omega) (by omega);have f4:Fits (k+1+(Q.length-k)) 25:=fits_of (by omega) (by omega);have f5:Fits 1 25:=fits_of (by omega) (by omega);have hl1:(S (i+1)).length=Q.length+1:=by rw[hins];simp;omega
   have hmk:min k Q.length=k:=by omega
   refine gwp_exit ?_;simp only[zT,reduceIte,Nat.reduceEqDiff];refine hK4 _ _ ?_;refine gwp_prune [3,7,8,9,10] (Or.inr (by simp)) ?_;simp only[zP,Nat.reduceEqDiff,reduceIte];refine gwp_draw mixed rfl (by decide) rfl rfl fun K hK=>?_;simp -dsimp [hx,hi,hxe,f1,f2,f3,f4,f5,k1,hmk];refine hK _ _ _ (by decide+kernel) ?_;clear hK K;simp only[zT,reduceIte,Nat.reduceEqDiff];refine hK3 _ _ ?_;refine gwp_prune [3,7,8,9] (Or.inr (by simp)) ?_;simp only[zP,Nat.reduceEqDiff,reduceIte];refine gR fun K hK=>?_;simp -dsimp [wi];apply hK;clear hK K;simp only[zT,reduceIte,Nat.reduceEqDiff];have hcon:List.take (k+1) (List.take k (List.take k (List.map wCell Q))++[[AV.lst 2 (List.map Move.cells x)]])++List.drop k (List.take Q.length (List.map wCell Q))=(S (i+1)).map wCell:=by
    rw[hins,List.take_take,Nat.min_self,List.take_of_length_le (by simp[hmk]:(List.take k (List.map wCell Q)++[[AV.lst 2 (List.map Move.cells x)]]).length≤k+1),List.take_of_length_le (by simp:(List.map wCell Q).length≤Q.length)];simp[List.map_append,List.map_take,List.map_drop]
   have hlen:k+1+(Q.length-k)=(S (i+1)).length:=by omega
   have htt:List.take (S (i+1)).length ((S (i+1)).map wCell)=(S (i+1)).map wCell:=List.take_of_length_le (by simp);rw[hcon,hlen];refine⟨i+1,by omega,by omega,?_⟩;exact gsub (sub_rf (T':=[(8,wL (S (i+1))),(9,I ((i+1:Nat):Int)),(3, .ptr 0 0 0),(7, .row 4 0 L.length)]) (H':=[some (.els 2 [p.cells]),none,none,none,wRow L]) [some 0,none,none,none,some 4] rfl ⟨.inr (by simp[htt]), .inr (by simp), .inr (by simp), .inr (by simp),trivial⟩ (by simp)) (by simp)
 ·have hi:i=L.length:=by have:¬i<L.length:=(by simpa using hc0);omega
  subst hi;refine gwp_exit ?_;simp only[zT,reduceIte,Nat.reduceEqDiff];refine hK1 _ _ ?_;refine gwp_prune [8] (Or.inr (by simp)) ?_;simp only[zP,Nat.reduceEqDiff,reduceIte];refine gS fun K hK=>?_;simp -dsimp;apply hK;clear hK K;exact gwp_ret (by simp)
end Go.Tram
end
section
namespace Go
section
variable {P:Program} {b:Frame} {a:Act} {k:List Item} {cs:List Frame} {w:World}
theorem stepR_scope {c:Code}:step P (lone (b.atR a (.code (.scope c)::k)) cs w)= .next (lone (b.atR a (.code c:: .inScope c::k)) cs w):=
 step_lone_go (by simp[stepG,stepG.exec,Frame.atR])
theorem stepR_inScope {c:Code}:step P (lone (b.atR a (.inScope c::k)) cs w)= .next (lone (b.atR a k) cs w):=
 step_lone_go (by simp[stepG,stepG.exec,Frame.atR])
theorem wpIn_scope_straight {F:Fence} {n:Nat} {Q:Exit→Act→World→Prop} {c:Code} (h:c.wpIn F n P (Exit.noGoto Q) a w):(Code.scope c).wpIn F n P Q a w:=by
 intro b k cs hro hb hr;have h0:(lone (b.atR a (.code (.scope c)::k)) cs w).fenced P F:=fenced_calm hb hr rfl;obtain⟨e,a₁,w₁,hq,harr⟩:=h b (.inScope c::k) cs hro hb hr
 cases e with
 |normal=>exact⟨.normal,a₁,w₁,hq, .head h0 stepR_scope (StepsIn.trans harr (.one (fenced_calm hb hr rfl) stepR_inScope))⟩
 | exit id'=>
  have hx:exitTo id' (.inScope c::k)=exitTo id' k:=by simp[exitTo]
  exact⟨.exit id',a₁,w₁,hq,fun k' hk=> .head h0 stepR_scope (harr.1 k' (by rw[hx];exact hk)),
   fun hr' hk=>let ⟨k₁,h1,h2⟩:=harr.2 hr' (by rw[hx];exact hk);⟨k₁,h1, .head h0 stepR_scope h2⟩⟩
 |goto l=>exact hq.elim
 |ret=>exact⟨_,a₁,w₁,hq, .of_steps (.one h0 stepR_scope) harr⟩
 |panic ch=>exact⟨_,a₁,w₁,hq, .of_steps (.one h0 stepR_scope) harr⟩
 |outgrown=>exact⟨_,a₁,w₁,hq, .of_steps (.one h0 stepR_scope) harr⟩
end
end Go
namespace Go.AM
theorem gwp_scope {P:Program} {ro:Option Nat} {J:Jt} {nt:Nat} {kp:List Nat} {c:Code} {T:Tm} {H:Hp} {Q:Exit→Tm→Hp→Prop} (h:GWp P ro J nt kp c T H (noGotoA Q)):GWp P ro J nt kp (.scope c) T H Q:=by
 intro hJ kv a w hs;refine wpIn_scope_straight (wpIn_mono (h hJ kv a w hs) ?_);rintro e a' w' ⟨T',H',q,s⟩
 cases e with
 |goto l=>exact q.elim
 |normal=>exact⟨T',H',q,s⟩
 |exit id=>exact⟨T',H',q,s⟩
 |ret=>exact⟨T',H',q,s⟩
 |panic c=>exact⟨T',H',q,s⟩
 |outgrown=>exact⟨T',H',q,s⟩
theorem gwp_sl {P:Program} {ro:Option Nat} {J:Jt} {nt l:Nat} {kp:List Nat} {c:Code} {T:Tm} {H:Hp} {Q:Exit→Tm→Hp→Prop} (h:GWp P ro J nt kp c T H Q):GWp P ro J nt kp (.seq (.label l) c) T H Q:=by
 intro hJ kv a w hs;exact wpIn_seq (wpIn_label (h hJ kv a w hs))
end Go.AM
end
section
namespace Go.Tram
open Go.AM Go.Proofs
theorem c_tWays_m (p:Plan) (a b:Move) (most:Int) (hv:validB p=true) (ha:movB p a=true) (hb:movB p b=true) (h:inr most 1 200=false):PureCall Tryz.prog 13 [p.av,a.av,b.av,I most] (.tup [nilS,I 2]):=by
 have hop:=c_open_t p hv;have hh:=c_nhas p a.Rail a.Back hv;have hk:=c_nhas p b.Rail b.Back hv;have hw:=c_within most 1 200;rw[show inr a.Rail 0 (p.Rails.length-1)=true from ha]at hh;rw[show inr b.Rail 0 (p.Rails.length-1)=true from hb]at hk;rw[h]at hw;generalize net p=sh at hop hh hk;refine PureCall.of_bodyG Tryz.func13 rfl (by decide) (by simp[Tryz.ntmps13]) ?_;intro J hJ;simp only[Tryz.ntmps13,Tryz.results13];refine gS fun K hK=>?_;simp -dsimp;apply hK;clear hK K;refine gwp_scope ?_;refine gS fun K hK=>?_;simp -dsimp;refine callK_intro _ (hop) (by simp) ?_;simp -dsimp;apply hK;clear hK K;refine gwp_seq_k fun K1 hK1=>?_;refine gS fun K hK=>?_;simp -dsimp;refine callK_may _ (fun hm=>hh) (by simp) ?_;simp -dsimp;refine callK_may _ (fun hm=>hk) (by simp) ?_;simp -dsimp;refine callK_may _ (fun hm=>hw) (by simp) ?_;simp -dsimp;apply hK;clear hK K;refine gwp_cond rfl (fun hc0=>?_) (fun hc0=>?_)
 ·refine gS fun K hK=>?_;simp -dsimp;apply hK;clear hK K;exact gwp_ret (by simp)
 ·simp at hc0
abbrev cloP:AV:= .clo 45 [.ptr 4 0 0, .ptr 8 0 0, .ptr 3 0 0, .ptr 5 0 0]
theorem c_tWays_t (p:Plan) (a b:Move) (most:Int) (hv:validB p=true) (h8:p.Rails.length≤8) (ha:movB p a=true) (hb:movB p b=true) (h:inr most 1 200=true):PureCall Tryz.prog 13 [p.av,a.av,b.av,I most] (.tup [wL ((refW p a b).take most.toNat),I 0]):=by
 have hR:=(valid_parts hv).2.1;have hmo:=inr_iff.1 h;have hop:=c_open_t p hv;have hh:=c_nhas p a.Rail a.Back hv;have hk:=c_nhas p b.Rail b.Back hv;have hw:=c_within most 1 200;rw[show inr a.Rail 0 (p.Rails.length-1)=true from ha]at hh;rw[show inr b.Rail 0 (p.Rails.length-1)=true from hb]at hk;rw[h]at hw;have hb':=movB_iff.1 hb;have hnb:=num_bdU hb;have hd:=c_distances p (numM b) hv hnb.1 hnb.2;have hcb:=c_number b hb'.1 (by omega);have hpush:=m_pushE p b [] [a] hv hb (beg_one ha) (by simp) (by simp);have hq0:pAdd p b [] [a]=q0 p a b:=by unfold pAdd q0;rw[lastM_one];split<;>rfl
 rw[hq0]at hpush;have hB0:=bf_init hv ha hb;have hM0:=mu_q0 (p:=p) (fr:=a) (to:=b);have hpw:=pow_bd (n:=2*p.Rails.length) (by omega);have hres:=fun q out=>bf_res (q:=q) (out:=out) hv ha hb;have hbeg:∀(q:List Prt) out,BsInv (bfP hv hb) q out (allW p a b)→∀x∈q,x=mkP p b x.way∧BegW p x.way:=fun q out h=>h.good;have hwok:∀(q:List Prt) out,BsInv (bfP hv hb) q out (allW p a b)→∀x∈q,WOk x:=fun q out h x hx=>by
  have:=beg_wok hv (h.good x hx).2;exact⟨by omega,this.2⟩
 have hgo:=fun q out h1 h2 h3=>bf_goal (B:=bfP hv hb) (q:=q) (out:=out) (all:=allW p a b) h1 h2 h3;have hon:=fun q out h1 h2 h3=>bf_on (B:=bfP hv hb) (q:=q) (out:=out) (all:=allW p a b) h1 h2 h3;have hgl:∀x,(bfP hv hb).goal x=decide (lastM x.way=b):=fun _=>rfl;have hki:∀x,(bfP hv hb).kids x=kidsP p b x:=fun _=>rfl;obtain⟨mo,hmoe⟩:∃mo:Nat,most=mo:=⟨most.toNat,by omega⟩;subst hmoe;simp only[Int.toNat_natCast];unfold capR at hpush;refine PureCall.of_bodyG Tryz.func13 rfl (by decide) (by simp[Tryz.ntmps13]) ?_;intro J hJ;simp only[Tryz.ntmps13,Tryz.results13];refine gS fun K hK=>?_;simp -dsimp;apply hK;clear hK K;refine gwp_scope ?_;refine gS fun K hK=>?_;simp -dsimp;refine callK_intro _ (hop) (by simp) ?_;simp -dsimp;apply hK;clear hK K;refine gwp_seq_k fun K1 hK1=>?_;refine gS fun K hK=>?_;simp -dsimp;refine callK_may _ (fun hm=>hh) (by simp) ?_;simp -dsimp;refine callK_may _ (fun hm=>hk) (by simp) ?_;simp -dsimp;refine callK_may _ (fun hm=>hw) (by simp) ?_;simp -dsimp;apply hK;clear hK K;refine gwp_cond rfl (fun hc0=>?_) (fun hc0=>?_)
 ·simp at hc0
 ·refine gwp_skip ?_;simp only[zT,reduceIte,Nat.reduceEqDiff];refine hK1 _ _ ?_;refine gwp_prune [3,5,6,10] (Or.inr (by simp)) ?_;simp only[zP,Nat.reduceEqDiff,reduceIte];refine gwp_sd mixed rfl (by decide) rfl rfl fun K hK=>?_;simp -dsimp;refine callK_intro _ (hcb) (by simp) ?_;simp -dsimp;refine callK_intro _ (hd) (by simp) ?_;simp -dsimp;refine hK _ _ _ (by decide+kernel) ?_;clear hK K;refine gS fun K hK=>?_;simp -dsimp;apply hK;clear hK K;refine gS fun K hK=>?_;simp -dsimp;apply hK;clear hK K;refine gS fun K hK=>?_;simp -dsimp;apply hK;clear hK K;refine gwp_flag (by decide) ?_;refine gS fun K hK=>?_;simp -dsimp;refine callK_mut [4,8,3,5] [7,6,10] [none,none,none,some 2,some 0,some 3,none,none,some 1,none,none,some 4,some 5] (hpush) (by decide) rfl (by simp) (by simp) rfl (by simp) ?_;simp -dsimp;apply hK;clear hK K;refine gwp_sl ?_;refine gwp_seq_k fun K2 hK2=>?_;refine gwp_block ?_;refine gwp_prune [3,6,10,14,15,16] (Or.inr (by simp)) ?_;simp only[zP,Nat.reduceEqDiff,reduceIte];refine gwp_loop_l [3,6,10,15,16] (α:=List Prt×List (List Move)) (fun s=>[(14, .row 10 0 s.2.length)]) (fun s=>[none,none,some (.els 2 [b.cells]),some (.els 1 [[.iptr (net p)]]),some (.els 1 [[iLs (dEnd p (numM b)).ln]]),some (.els 1 [[iLs (dEnd p (numM b)).mv]]),prow s.1,hrow 6 s.1.length,oRow 7,some (.els 1 [[cloP]]),wRow s.2]) (fun s=>BsInv (bfP hv hb) s.1 s.2 (allW p a b)∧muP p s.1≤43046721∧s.2.length<mo) (fun s=>muP p s.1) (q0 p a b,[]) ?_ ?_ ?_
  ·exact⟨hB0,by show muP p (q0 p a b)≤_;omega,by show 0<mo;omega⟩
  ·exact gsub ((sub_nil 14 1 (by simp)).trans (sub_rb [none,none,some 2,some 3,some 4,some 5,some 12,some 11,some 8,some 9,some 13] rfl (by simp) (by simp))) (by simp)
  rintro⟨q,out⟩ ⟨i1,i2,i3⟩;simp only at i1 i2 i3 ⊢;have hql:=mu_len p q;simp only[zP,Nat.reduceEqDiff,reduceIte];refine gwp_seq_k fun K3 hK3=>?_;refine gS fun K hK=>?_;simp -dsimp;refine callK_intro _ (c_pLenQ q) (by simp) ?_;simp -dsimp;apply hK;clear hK K;refine gwp_cond rfl (fun hc1=>?_) (fun hc1=>?_)
  ·have hq:q≠[]:=by rintro h;simp[h]at hc1
   have hq1:1≤q.length:=List.length_pos_iff.2 hq;have hp:=m_pHop1 q hq (by omega) (hwok q out i1);have hxm:pX q∈q:=(p_perm hq).subset (by simp);have hxg:=hbeg q out i1 _ hxm;have hgo1:=hgo q out i1 hq;have hon1:=hon q out i1 hq;have hmp:=mu_pop (p:=p) hq;have hmk:=mu_kids hv hb hxg.2;have hwp:=wgt_pos p (pX q);rw[hgl]at hgo1 hon1;rw[hki]at hon1;generalize pX q=x at hp hxm hxg hgo1 hon1 hmp hmk hwp;have hxw:=beg_wok hv hxg.2;have hxp:=List.length_pos_iff.2 hxg.2.ne;have hgw:x.way[x.way.length-1]?=some (lastM x.way):=by rw[lastM_at hxg.2.ne];unfold mvAt;rw[List.getElem?_eq_getElem (by omega)];rfl
   have w1:IntKind.i64.wrap ((x.way.length:Int)-1)=((x.way.length-1:Nat):Int):=by rw[wrap_in (by omega) (by omega)];omega
   have hmin:min (q.length-1) (popPE q q.length).length=q.length-1:=by rw[popPE_len];omega
   have f1:Fits (out.length+1) 25:=fits_of (by omega) (by omega);refine gwp_skip ?_;simp only[zT,reduceIte,Nat.reduceEqDiff];refine hK3 _ _ ?_;refine gwp_prune [3,6,10,14,15,16] (Or.inr (by simp)) ?_;simp only[zP,Nat.reduceEqDiff,reduceIte];refine gwp_block ?_;refine gS fun K hK=>?_;simp -dsimp;refine callK_mut [7] [6] [none,none,none,none,none,none,none,some 0,none,none,none,some 1] (hp) (by decide) rfl (by simp) (by simp) rfl (by simp) ?_;simp -dsimp;apply hK;clear hK K;refine gS fun K hK=>?_;simp -dsimp [hgw,w1];apply hK;clear hK K;refine gwp_seq_k fun K4 hK4=>?_;refine gS fun K hK=>?_;simp -dsimp;apply hK;clear hK K;refine gwp_cond rfl (fun hc2=>?_) (fun hc2=>?_)
   ·simp only[mv_eqd,decide_eq_true_eq,decide_eq_false_iff_not]at hc2;have hg2:=hgo1 (by simp[hc2]);have hr2:=(hres _ _ hg2).1;have hto:List.take out.length (out.map wCell)=out.map wCell:=List.take_of_length_le (by simp);refine gS fun K hK=>?_;simp -dsimp [f1];apply hK;clear hK K;refine gwp_seq_k fun K5 hK5=>?_;refine gS fun K hK=>?_;simp -dsimp;apply hK;clear hK K;refine gwp_cond rfl (fun hc3=>?_) (fun hc3=>?_)
    ·simp at hc3;have hmo2:out.length+1=mo:=by omega
     refine gwp_exit ?_;simp only[zT,reduceIte,Nat.reduceEqDiff];refine hK2 _ _ ?_;refine gwp_prune [14] (Or.inr (by simp)) ?_;simp only[zP,Nat.reduceEqDiff,reduceIte];refine gS fun K hK=>?_;simp -dsimp;apply hK;clear hK K;have hcon:List.take (out.length+1) (List.take out.length (List.map wCell out)++[[AV.lst 2 (List.map Move.cells x.way)]])=List.take mo (List.map wCell (refW p a b)):=by
      rw[hto,←hmo2,←List.map_take,List.take_of_length_le (by simp)];rw[List.length_append,List.length_singleton]at hr2;rw[←hr2];simp
     exact gwp_ret (by simp[hcon])
    ·simp at hc3;have hmo2:out.length+1<mo:=by omega
     refine gwp_skip ?_;simp only[zT,reduceIte,Nat.reduceEqDiff];refine hK5 _ _ ?_;refine gwp_prune [3,6,10,14,15,16] (Or.inr (by simp)) ?_;simp only[zP,Nat.reduceEqDiff,reduceIte];refine gwp_exit ?_;simp only[zT,reduceIte,Nat.reduceEqDiff];exact⟨(pQ q,out++[x.way]),⟨hg2,by show muP p (pQ q)≤_;omega,by show(out++[x.way]).length<mo;rw[List.length_append,List.length_singleton];omega⟩,by show muP p (pQ q)<muP p q;omega,gsub ((sub_cut 11 (q.length-1) rfl).trans (sub_rb [none,none,some 2,some 3,some 4,some 5,some 11,some 7,some 8,some 9,some 14] rfl (by simp[hto]) (by simp[pQ,hmin,hto]))) (by simp)⟩
   ·simp only[mv_eqd,decide_eq_true_eq,decide_eq_false_iff_not]at hc2;have hn2:=hon1 (by simp[hc2]);have hlmv:=hxg.2.mv _ (lastM_mem hxg.2.ne);have hnx2:=(next_two hv hlmv).1;refine gwp_skip ?_;simp only[zT,reduceIte,Nat.reduceEqDiff];refine hK4 _ _ ?_;refine gwp_prune [3,6,10,14,15,16,17,18] (Or.inr (by simp)) ?_;simp only[zP,Nat.reduceEqDiff,reduceIte];refine gS fun K hK=>?_;simp -dsimp;refine callK_intro _ (c_tnext p (lastM x.way)) (by simp) ?_;simp -dsimp;apply hK;clear hK K;refine gwp_block ?_;refine gwp_prune [3,6,10,14,15,16,17,89] (Or.inr (by simp)) ?_;simp only[zP,Nat.reduceEqDiff,reduceIte];refine gwp_range_s hJ [3,6,10,14,15,16,17,89] (fun n=>[none,none,some (.els 2 [b.cells]),some (.els 1 [[.iptr (net p)]]),some (.els 1 [[iLs (dEnd p (numM b)).ln]]),some (.els 1 [[iLs (dEnd p (numM b)).mv]]),none,hrow 11 (pAll (pQ q) (kidsT p b x n)).length,oRow 7,some (.els 1 [[cloP]]),wRow out,prow (pAll (pQ q) (kidsT p b x n)),some (.els 3 [x.cells]),some (.els 2 [(lastM x.way).cells])]) (fun n=>True) rfl (c_next1 p (lastM x.way) hv hlmv) rfl (by simp) (by decide) (by decide) (by decide) (by intro z hz;obtain⟨q,_,rfl⟩:=List.mem_map.1 hz;rfl) ?_ ?_ ?_ ?_
    ·trivial
    ·exact(sub_cut 11 (q.length-1) rfl).trans (sub_rb [none,none,some 2,some 3,some 4,some 5,none,some 7,some 8,some 9,some 10,some 11,some 12,some 13] rfl (by simp) (by simp[pQ,kidsT,pAll,hmin]))
    ·intro n xv hxn hi l1 J1 hJ1;obtain⟨m,hgm,rfl⟩:∃m,(nextL p (lastM x.way))[n]?=some m∧[m.av]=xv:=by simpa using hxn
     obtain⟨k1,k2⟩:=next_ok hv hlmv (List.mem_of_getElem? hgm);have hcm:=c_ContainsM x.way m (by omega);have hks:=kidsT_succ (p:=p) (to:=b) (x:=x) hgm;simp only[List.zip_cons_cons,List.zip_nil_left,List.zip_nil_right,List.cons_append,List.nil_append];refine gR fun K hK=>?_;simp -dsimp;apply hK;clear hK K;simp only[onlyN];intro J2 hJ2;refine gwp_prune [3,6,10,14,15,16,17,19,89] (Or.inr (by simp)) ?_;simp only[zP,Nat.reduceEqDiff,reduceIte];refine gwp_block ?_;refine gS fun K hK=>?_;simp -dsimp;refine callK_intro _ (hcm) (by simp) ?_;simp -dsimp;apply hK;clear hK K;refine gwp_cond rfl (fun hc4=>?_) (fun hc4=>?_)
     ·simp at hc4;have hsn:=hxg.2.snoc k1 k2 hc4;have hwq:∀y∈pAll (pQ q) (kidsT p b x n),WOk y:=fun y hy=>by
       have hy2:=(pAll_perm (kidsT p b x n) (pQ q)).subset hy;rw[List.mem_append]at hy2
       rcases hy2 with h|h
       ·exact hwok q out i1 y ((p_perm hq).subset (by simp[h]))
       ·unfold kidsT at h;obtain⟨m2,hm2,rfl⟩:=List.mem_map.1 h;rw[List.mem_filter]at hm2;obtain⟨j1,j2⟩:=next_ok hv hlmv (List.mem_of_mem_take hm2.1);have hb2:=beg_wok hv (hxg.2.snoc j1 j2 (by have:=hm2.2;simp only[Bool.and_eq_true,Bool.not_eq_true',decide_eq_false_iff_not]at this;exact this.1));exact⟨by show(x.way++[m2]).length≤1000;omega,hb2.2⟩
      have hlq:(pAll (pQ q) (kidsT p b x n)).length≤90000000:=by have:=kidsT_len p b x n;rw[pAll_len,pQ_len];omega
      have hpp:=m_pushE p b (pAll (pQ q) (kidsT p b x n)) (x.way++[m]) hv hb hsn hwq hlq;have hadd:pAdd p b (pAll (pQ q) (kidsT p b x n)) (x.way++[m])=pAll (pQ q) (kidsT p b x (n+1)):=by
       rw[hks,decide_eq_false hc4];unfold pAdd pAll;rw[lastM_snoc,List.foldl_append]
       cases opnB p b m<;>simp
      rw[hadd,List.length_append,List.map_append]at hpp;simp only[List.length_singleton,List.map_cons,List.map_nil]at hpp;unfold capR at hpp;have htk:List.take (x.way.length+1) (x.way.map Move.cells++[[I m.Rail,Bo m.Back]])=x.way.map Move.cells++[[I m.Rail,Bo m.Back]]:=List.take_of_length_le (by simp);have htw:List.take x.way.length (x.way.map Move.cells)=x.way.map Move.cells:=List.take_of_length_le (by simp);have f2:Fits (x.way.length+1) 17:=fits_of (by omega) (by omega);refine gwp_draw mixed rfl (by decide) rfl rfl fun K hK=>?_;simp -dsimp [f2,htk,htw];refine callK_mut [] [] [none,none,none,none,none,none,none,none,none,none,none,none,none,none,none,some 0] (m_CloneM x.way hxg.2.ne (by omega)) (by decide) rfl (by simp) (by simp) rfl (by simp) ?_;simp -dsimp [f2,htk,htw];refine callK_mut [4,8,3,5] [7,11,16] [none,none,none,some 2,some 0,some 3,none,none,some 1,none,none,none,none,none,none,none,none,some 4,some 5] (hpp) (by decide) rfl (by simp) (by simp) rfl (by simp) ?_;simp -dsimp [f2,htk,htw];refine hK _ _ _ (by decide+kernel) ?_;clear hK K;simp only[thenA,inBlockA,roundQ,noGotoA,reduceIte,Nat.reduceEqDiff,eq_self];refine⟨trivial,sub_rb [none,none,some 2,some 3,some 4,some 5,none,some 17,some 8,some 9,some 10,some 18,some 12,some 13] rfl (by simp) (by simp)⟩
     ·simp at hc4;have hsame:kidsT p b x (n+1)=kidsT p b x n:=by rw[hks,decide_eq_true hc4];simp
      refine gwp_skip ?_;simp only[thenA,inBlockA,roundQ,noGotoA,reduceIte,Nat.reduceEqDiff,eq_self];refine⟨trivial,sub_rb [none,none,some 2,some 3,some 4,some 5,none,some 7,some 8,some 9,some 10,some 11,some 12,some 13] rfl (by simp[hsame]) (by simp[hsame])⟩
    ·intro hdone;simp only[zT,reduceIte,Nat.reduceEqDiff];have hka:kidsT p b x (nextL p (lastM x.way)).length=kidsP p b x:=kidsT_all p b x _ (Nat.le_refl _);have hmu:muP p (pAll (pQ q) (kidsP p b x))<muP p q:=by rw[mu_all];omega
     exact⟨(pAll (pQ q) (kidsP p b x),out),⟨hn2,by show muP p (pAll (pQ q) (kidsP p b x))≤_;omega,i3⟩,hmu,gsub (sub_rb [none,none,some 2,some 3,some 4,some 5,some 11,some 7,some 8,some 9,some 10] rfl (by simp[hka]) (by simp[hka])) (by simp)⟩
  ·have hq:q=[]:=by simpa using hc1
   have hre:=(hres q out i1).2.2 hq;refine gwp_exit ?_;simp only[zT,reduceIte,Nat.reduceEqDiff];refine hK2 _ _ ?_;refine gwp_prune [14] (Or.inr (by simp)) ?_;simp only[zP,Nat.reduceEqDiff,reduceIte];refine gS fun K hK=>?_;simp -dsimp;apply hK;clear hK K;have hcon:List.take out.length (List.map wCell out)=List.take mo (List.map wCell (refW p a b)):=by
    rw[←hre,List.take_of_length_le (by simp),List.take_of_length_le (by simp;omega)]
   exact gwp_ret (by simp[hcon])
end Go.Tram
end
section
namespace Go.Tram
open Go.AM Go.Proofs
def mvL (l:List Int):List Move:=l.map moveM
@[simp] theorem mvL_len (l:List Int):(mvL l).length=l.length:=by simp[mvL]
abbrev mrow (l:List Int):Option ARow:=some (.els 2 ((mvL l).map Move.cells))
abbrev iLst (l:List Int):AV:= .lst 1 (l.map nCell)
theorem moveM_eq {p:Plan} {m:Move} {k:Int} (h0:0≤k) (hm:0≤m.Rail):moveM k=m↔k=numM m:=by
 constructor
 ·rintro rfl;rw[numM_moveM h0]
 ·rintro rfl;exact moveM_numM hm
theorem num_bd11 {p:Plan} {m:Move} (h:movB p m=true):0≤numM m∧numM m<2*p.Rails.length:=by
 have:=movB_iff.1 h;unfold numM;split<;>omega
theorem c_tShortest_n (p:Plan) (a b:Move) (hv:validB p=true) (ha:movB p a=true) (hb:movB p b=true) (h:gd (dEnd p (numM b)).ln (numM a).toNat<0):PureCall Tryz.prog 12 [p.av,a.av,b.av] (.tup [nilS,I 4]):=by
 have hR:=(valid_parts hv).2.1;have ha':=movB_iff.1 ha;have hb':=movB_iff.1 hb;have hop:=c_open_t p hv;have hh:=c_nhas p a.Rail a.Back hv;have hk:=c_nhas p b.Rail b.Back hv;rw[show inr a.Rail 0 (p.Rails.length-1)=true from ha]at hh;rw[show inr b.Rail 0 (p.Rails.length-1)=true from hb]at hk;have hna:=num_bd11 ha;have hnb:=num_bd11 hb;have hd:=c_distances p (numM b) hv hnb.1 hnb.2;have hE:=dEnd_ok hv hnb.1 hnb.2;have hca:=c_number a ha'.1 (by omega);have hcb:=c_number b hb'.1 (by omega);have hg:(dEnd p (numM b)).ln[(numM a).toNat]?=some (gd (dEnd p (numM b)).ln (numM a).toNat):=getD_at (by rw[hE.ll];omega);have h0:=hna.1;generalize (dEnd p (numM b)).ln=ln at hd hg h;generalize (dEnd p (numM b)).mv=mv at hd;generalize net p=sh at hop hh hk hd;refine PureCall.of_bodyG Tryz.func12 rfl (by decide) (by simp[Tryz.ntmps12]) ?_;intro J hJ;simp only[Tryz.ntmps12,Tryz.results12];refine gS fun K hK=>?_;simp -dsimp;apply hK;clear hK K;refine gS fun K hK=>?_;simp -dsimp;refine callK_intro _ (hop) (by simp) ?_;simp -dsimp;apply hK;clear hK K;refine gwp_seq_k fun K1 hK1=>?_;refine gS fun K hK=>?_;simp -dsimp;refine callK_may _ (fun hm=>hh) (by simp) ?_;simp -dsimp;refine callK_may _ (fun hm=>hk) (by simp) ?_;simp -dsimp;apply hK;clear hK K;refine gwp_cond rfl (fun hc0=>?_) (fun hc0=>?_)
 ·simp at hc0
 ·refine gwp_skip ?_;simp only[zT,reduceIte,Nat.reduceEqDiff];refine hK1 _ _ ?_;refine gwp_prune [4,5,8] (Or.inr (by simp)) ?_;simp only[zP,Nat.reduceEqDiff,reduceIte];refine gwp_sd mixed rfl (by decide) rfl rfl fun K hK=>?_;simp -dsimp;refine callK_intro _ (hcb) (by simp) ?_;simp -dsimp;refine callK_intro _ (hd) (by simp) ?_;simp -dsimp;refine hK _ _ _ (by decide+kernel) ?_;clear hK K;refine gwp_seq_k fun K2 hK2=>?_;refine gwp_sd mixed rfl (by decide) rfl rfl fun K hK=>?_;simp -dsimp [hg,h0];refine callK_intro _ (hca) (by simp) ?_;simp -dsimp [hg,h0];refine hK _ _ _ (by decide+kernel) ?_;clear hK K;refine gwp_cond rfl (fun hc1=>?_) (fun hc1=>?_)
  ·refine gS fun K hK=>?_;simp -dsimp;apply hK;clear hK K;exact gwp_ret (by simp)
  ·simp at hc1;omega
theorem find_at {α:Type} {f:α→Bool} {l:List α} {i:Nat} {y:α} (hy:l[i]?=some y) (hf:f y=true) (h:∀z∈l.take i,f z=false):l.find? f=some y:=by
 have hi:=(List.getElem?_eq_some_iff.1 hy).1;have e:l=l.take i++y::l.drop (i+1):=by
  have:l[i]=y:=(List.getElem?_eq_some_iff.1 hy).2;rw[←this,←List.drop_eq_getElem_cons hi,List.take_append_drop]
 rw[e,List.find?_append,List.find?_eq_none.2 (fun z hz=>by simp[h z hz])];simp[List.find?,hf]
theorem c_tShortest_t (p:Plan) (a b:Move) (hv:validB p=true) (ha:movB p a=true) (hb:movB p b=true) (h:0≤gd (dEnd p (numM b)).ln (numM a).toNat):
  PureCall Tryz.prog 12 [p.av,a.av,b.av] (.tup [mLst (mvL (shL p (dEnd p (numM b)).ln (dEnd p (numM b)).mv (gd (dEnd p (numM b)).mv (numM a).toNat).toNat (numM a))),I 0]):=by
 have hR:=(valid_parts hv).2.1;have ha':=movB_iff.1 ha;have hb':=movB_iff.1 hb;have hop:=c_open_t p hv;have hh:=c_nhas p a.Rail a.Back hv;have hk:=c_nhas p b.Rail b.Back hv;rw[show inr a.Rail 0 (p.Rails.length-1)=true from ha]at hh;rw[show inr b.Rail 0 (p.Rails.length-1)=true from hb]at hk;have hna:=num_bd11 ha;have hnb:=num_bd11 hb;have hd:=c_distances p (numM b) hv hnb.1 hnb.2;have hE:=dEnd_ok hv hnb.1 hnb.2;have hmb:=mvb_end hv hnb.1 hnb.2;have hca:=c_number a ha'.1 (by omega);have hcb:=c_number b hb'.1 (by omega);have hnx:=c_tnext p;have hit:=fun k=>c_next1 p (moveM k) hv;have hmk:∀k:Int,0≤k→(moveM k=b↔k=numM b):=fun k h=>moveM_eq (p:=p) h hb'.1;have hma:moveM (numM a)=a:=moveM_numM ha'.1;have hsn:=fun k h0 h1=>sNext_ok hv hnb.1 hnb.2 hE (k:=k) h0 h1;have hmz:=fun k h0 h1=>mv_zero hv hnb.1 hnb.2 hE (k:=k) h0 h1;have hll:=hE.ll;have hlm:=hE.lm;unfold MvB at hmb;generalize (dEnd p (numM b)).ln=ln at*
 generalize (dEnd p (numM b)).mv=mv at*
 have hga:∀k:Int,0≤k→k<2*p.Rails.length→ln[k.toNat]?=some (gd ln k.toNat):=fun k h0 h1=>getD_at (by omega);have hgm:∀k:Int,0≤k→k<2*p.Rails.length→mv[k.toNat]?=some (gd mv k.toNat):=fun k h0 h1=>getD_at (by omega);have hn0:=hmz (numM a) hna.1 hna.2 h;have hn1:=(hmb (numM a).toNat (by omega) h).1;obtain⟨n0,hn0e⟩:∃n0:Nat,gd mv (numM a).toNat=n0:=⟨(gd mv (numM a).toNat).toNat,by omega⟩;rw[hn0e];have hgA:=hga (numM a) hna.1 hna.2;have h00:=hna.1;generalize numM a=fa at*
 generalize numM b=to at*
 subst hma;simp only[Int.toNat_natCast];refine PureCall.of_bodyG Tryz.func12 rfl (by decide) (by simp[Tryz.ntmps12]) ?_;intro J hJ;simp only[Tryz.ntmps12,Tryz.results12];refine gS fun K hK=>?_;simp -dsimp;apply hK;clear hK K;refine gS fun K hK=>?_;simp -dsimp;refine callK_intro _ (hop) (by simp) ?_;simp -dsimp;apply hK;clear hK K;refine gwp_seq_k fun K1 hK1=>?_;refine gS fun K hK=>?_;simp -dsimp;refine callK_may _ (fun hm=>hh) (by simp) ?_;simp -dsimp;refine callK_may _ (fun hm=>hk) (by simp) ?_;simp -dsimp;apply hK;clear hK K;refine gwp_cond rfl (fun hc0=>?_) (fun hc0=>?_)
 ·simp at hc0
 ·refine gwp_skip ?_;simp only[zT,reduceIte,Nat.reduceEqDiff];refine hK1 _ _ ?_;refine gwp_prune [4,5,8] (Or.inr (by simp)) ?_;simp only[zP,Nat.reduceEqDiff,reduceIte];refine gwp_sd mixed rfl (by decide) rfl rfl fun K hK=>?_;simp -dsimp;refine callK_intro _ (hcb) (by simp) ?_;simp -dsimp;refine callK_intro _ (hd) (by simp) ?_;simp -dsimp;refine hK _ _ _ (by decide+kernel) ?_;clear hK K;refine gwp_seq_k fun K2 hK2=>?_;refine gwp_sd mixed rfl (by decide) rfl rfl fun K hK=>?_;simp -dsimp [hgA,h00];refine callK_intro _ (hca) (by simp) ?_;simp -dsimp [hgA,h00];refine hK _ _ _ (by decide+kernel) ?_;clear hK K;refine gwp_cond rfl (fun hc1=>?_) (fun hc1=>?_)
  ·simp at hc1;omega
  ·refine gwp_skip ?_;simp only[zT,reduceIte,Nat.reduceEqDiff];refine hK2 _ _ ?_;refine gwp_prune [4,5,8,10,11] (Or.inr (by simp)) ?_;simp only[zP,Nat.reduceEqDiff,reduceIte];refine gwp_flag (by decide) ?_;refine gS fun K hK=>?_;simp -dsimp;apply hK;clear hK K;refine gwp_seq_k fun K3 hK3=>?_;refine gS fun K hK=>?_;simp -dsimp;apply hK;clear hK K;refine gwp_block ?_;refine gwp_prune [5,8,10,11,12,13] (Or.inr (by simp)) ?_;simp only[zP,Nat.reduceEqDiff,reduceIte];refine gwp_loop_l [5,8,10,11] (α:=List Int×Int×Nat) (fun s=>[(12, .row 6 0 (s.1.length+1)),(13, .ptr 7 0 0)]) (fun s=>[none,none,some (.els 2 [b.cells]),some (.els 1 [[.iptr (net p)]]),some (.els 1 [[iLst ln]]),some (.els 1 [[iLst mv]]),mrow (s.1++[s.2.1]),some (.els 2 [(moveM s.2.1).cells])]) (fun s=>(0≤s.2.1∧s.2.1<2*p.Rails.length)∧0≤gd ln s.2.1.toNat∧gd mv s.2.1.toNat=s.2.2∧s.1.length+s.2.2=n0∧s.1++shL p ln mv s.2.2 s.2.1=shL p ln mv n0 fa) (fun s=>s.2.2) ([],fa,n0) ?_ ?_ ?_
   ·exact⟨hna,h,hn0e,by simp,by simp⟩
   ·exact gsub (sub_rb [none,none,some 2,some 3,some 4,some 5,some 6,some 7] rfl (by simp) (by simp[mvL])) (by simp)
   rintro⟨acc,k,n⟩ ⟨⟨i0,i1⟩,i2,i3,i4,i5⟩;simp only at i0 i1 i2 i3 i4 i5 ⊢;simp only[zP,Nat.reduceEqDiff,reduceIte];refine gwp_seq_k fun K4 hK4=>?_;refine gS fun K hK=>?_;simp -dsimp;apply hK;clear hK K;refine gwp_cond rfl (fun hc2=>?_) (fun hc2=>?_)
   ·have hkt:k≠to:=fun e=>by have:=(hmk k i0).2 e;rw[this]at hc2;simp at hc2
    obtain⟨n',rfl⟩:∃n',n=n'+1:=⟨n-1,by have:=(hmz k i0 i1 i2);rw[i3]at this;have h2:=this.2.1;rcases n with _|n;exact absurd (h2 rfl) hkt;rfl⟩;obtain⟨y0,hf0,hs0,hy0,hso⟩:=hsn k i0 i1 i2 hkt;have hbd:=fun y hy=>nxI_bd (p:=p) (k:=k) hv i0 i1 (y:=y) hy;have hln:=fun y hy=>len_nx (p:=p) (k:=k) hv i0 i1 (y:=y) hy;have hitk:=hit k (mov_of i0 i1);have hcn:=c_number (moveM k) (by simp only[moveM];omega) (by simp only[moveM];omega);rw[numM_moveM i0]at hcn;have hgk:=hga k i0 i1;have hmk2:=hgm k i0 i1;rw[nxI_next]at hitk;have hsk:∀y,sOk p ln mv k y=(decide (0≤gd ln y.toNat)&&(decide (gd ln y.toNat+p.len (y/2)=gd ln k.toNat)&&decide (gd mv y.toNat+1=gd mv k.toNat))):=fun _=>rfl;generalize nxI p k=N at hbd hln hitk hf0 hy0;generalize hW:gd ln k.toNat=W at*
    rw[i3]at hmk2 hsk;have f2:Fits (acc.length+1+1) 17:=fits_of (by omega) (by omega);have hmt:List.take (acc.length+1) ((mvL (acc++[k])).map Move.cells)=(mvL (acc++[k])).map Move.cells:=List.take_of_length_le (by simp);refine gwp_skip ?_;simp only[zT,reduceIte,Nat.reduceEqDiff];refine hK4 _ _ ?_;refine gwp_prune [5,8,10,11,12,13] (Or.inr (by simp)) ?_;simp only[zP,Nat.reduceEqDiff,reduceIte];refine gwp_seq_k fun K5 hK5=>?_;refine gwp_block ?_;refine gwp_sd mixed rfl (by decide) rfl rfl fun K hK=>?_;simp -dsimp [hgk,hmk2,i0];refine callK_intro _ (hcn) (by simp) ?_;simp -dsimp [hgk,hmk2,i0];refine callK_intro _ (hcn) (by simp) ?_;simp -dsimp [hgk,hmk2,i0];refine hK _ _ _ (by decide+kernel) ?_;clear hK K;refine gS fun K hK=>?_;simp -dsimp;refine callK_intro _ (hnx (moveM k)) (by simp) ?_;simp -dsimp;apply hK;clear hK K;refine gwp_block ?_;refine gwp_prune [5,8,10,11,12,13,14,15,72] (Or.inr (by simp)) ?_;simp only[zP,Nat.reduceEqDiff,reduceIte];refine gwp_range_s hJ [5,8,10,11,12,13,14,15,72] (fun _=>[none,none,some (.els 2 [b.cells]),some (.els 1 [[.iptr (net p)]]),some (.els 1 [[iLst ln]]),some (.els 1 [[iLst mv]]),mrow (acc++[k]),some (.els 2 [(moveM k).cells]),some (.els 1 [[I W]]),some (.els 1 [[I ((n'+1:Nat):Int)]])]) (fun n=>∀z∈N.take n,sOk p ln mv k z=false) rfl (hitk) rfl (by simp) (by decide) (by decide) (by decide) (by intro z hz;obtain⟨q,_,rfl⟩:=List.mem_map.1 hz;rfl) ?_ ?_ ?_ ?_
    ·simp
    ·exact sub_same (by simp)
    ·intro n xv hxn hi l1 J1 hJ1;obtain⟨y,hy,rfl⟩:∃y,N[n]?=some y∧[(moveM y).av]=xv:=by simpa using hxn
     have hyN:=List.mem_of_getElem? hy;obtain⟨hyb0,hyb1⟩:=hbd y hyN;have hyl:=hln y hyN;have hgy:=hga y hyb0 hyb1;have hmy:=hgm y hyb0 hyb1;have hnum:=c_number (moveM y) (by simp only[moveM];omega) (by simp only[moveM];omega);rw[numM_moveM hyb0]at hnum;have hlg:(lensA p p.Rails.length)[((moveM y).Rail).toNat]?=some [I (p.len (y/2))]:=by rw[show(moveM y).Rail=y/2 from rfl,lensA_get (by omega),show(((y/2).toNat:Nat):Int)=y/2 by omega]
     have hr0:0≤(moveM y).Rail:=by show 0≤y/2;omega
     have hsy:=hsk y;have hymb:=hmb y.toNat (by omega);have hmzy:=hmz y hyb0 hyb1;generalize hY:gd ln y.toNat=Y at*
     generalize hM:gd mv y.toNat=M at*
     simp only[List.zip_cons_cons,List.zip_nil_left,List.zip_nil_right,List.cons_append,List.nil_append];refine gR fun K hK=>?_;simp -dsimp;apply hK;clear hK K;simp only[onlyN];intro J2 hJ2;refine gwp_prune [5,8,10,11,12,13,14,15,16,72] (Or.inr (by simp)) ?_;simp only[zP,Nat.reduceEqDiff,reduceIte];refine gwp_block ?_;refine gS fun K hK=>?_;simp -dsimp;refine callK_intro _ (hnum) (by simp) ?_;simp -dsimp;apply hK;clear hK K;refine gwp_sd mixed rfl (by decide) rfl rfl fun K hK=>?_;simp -dsimp [hgy,hyb0,net,hr0];refine idxK_intro [I Y] (fun hm=>by rw[List.getElem?_map,hgy];rfl) ?_;simp -dsimp [hgy,hyb0,net,hr0];refine idxK_intro [I (p.len (y/2))] (fun hm=>hlg) ?_;simp -dsimp [hgy,hyb0,net,hr0];refine idxK_intro [I M] (fun hm=>by rw[List.getElem?_map,hmy];rfl) ?_;simp -dsimp [hgy,hyb0,net,hr0];refine hK _ _ _ (by decide+kernel) ?_;clear hK K;refine gwp_cond rfl (fun hc3=>?_) (fun hc3=>?_)
     ·have hcond:(decide (0≤Y)&&IntKind.i64.wrap (Y+p.len (y/2))==W&&IntKind.i64.wrap (M+1)== ((n':Int)+1))=sOk p ln mv k y:=by
       rw[hsy]
       by_cases hY0:0≤Y
       ·have g1:=hymb hY0;have g2:=(hmzy hY0).1;rw[wrap_in (by omega) (by omega),wrap_in (by omega) (by omega),Bool.eq_iff_iff];simp[hY0,and_assoc]
       ·simp[hY0]
      rw[hcond]at hc3;obtain rfl:y0=y:=by have:=find_at hy hc3 hi;rw[hf0]at this;exact Option.some.inj this
      refine gS fun K hK=>?_;simp -dsimp;apply hK;clear hK K;refine gwp_exit ?_;simp only[thenA,inBlockA,roundQ,reduceIte,Nat.reduceEqDiff,eq_self];refine⟨[none,none,some (.els 2 [b.cells]),some (.els 1 [[.iptr (net p)]]),some (.els 1 [[iLst ln]]),some (.els 1 [[iLst mv]]),mrow (acc++[k]),some (.els 2 [(moveM y0).cells]),some (.els 1 [[I W]]),some (.els 1 [[I ((n'+1:Nat):Int)]])],sub_rb [none,none,some 2,some 3,some 4,some 5,some 6,some 7,some 8,some 9] rfl (by simp[net]) (by simp[net]),?_⟩
      try simp only[zT,reduceIte,Nat.reduceEqDiff]
      refine hK5 _ _ ?_;refine gwp_prune [5,8,10,11,12,13] (Or.inr (by simp)) ?_;simp only[zP,Nat.reduceEqDiff,reduceIte];refine gwp_seq_k fun K6 hK6=>?_;refine gS fun K hK=>?_;simp -dsimp;apply hK;clear hK K;refine gR fun K hK=>?_;simp -dsimp;apply hK;clear hK K;simp only[zT,reduceIte,Nat.reduceEqDiff];refine hK6 _ _ ?_;refine gwp_prune [5,8,10,11,12,13] (Or.inr (by simp)) ?_;simp only[zP,Nat.reduceEqDiff,reduceIte];refine gR fun K hK=>?_;simp -dsimp [f2,hmt];apply hK;clear hK K;simp only[zT,reduceIte,Nat.reduceEqDiff];have hsO:=hc3;rw[hsy,Bool.and_eq_true,Bool.and_eq_true,decide_eq_true_eq,decide_eq_true_eq,decide_eq_true_eq]at hsO;have hsh:shL p ln mv (n'+1) k=k::shL p ln mv n' y0:=by rw[←hs0];rfl
      rw[hsh]at i5;refine⟨(acc++[k],y0,n'),⟨⟨hyb0,hyb1⟩,by show 0≤gd ln y0.toNat;rw[hY];exact hsO.1,by show gd mv y0.toNat=n';rw[hM];omega,by simp;omega,by simpa using i5⟩,by simp,gsub (sub_rb [none,none,some 2,some 3,some 4,some 5,some 11,some 10] rfl (by simp) (by simp[mvL])) (by simp)⟩
     ·have hcond:(decide (0≤Y)&&IntKind.i64.wrap (Y+p.len (y/2))==W&&IntKind.i64.wrap (M+1)== ((n':Int)+1))=sOk p ln mv k y:=by
       rw[hsy]
       by_cases hY0:0≤Y
       ·have g1:=hymb hY0;have g2:=(hmzy hY0).1;rw[wrap_in (by omega) (by omega),wrap_in (by omega) (by omega),Bool.eq_iff_iff];simp[hY0,and_assoc]
       ·simp[hY0]
      rw[hcond]at hc3;refine gwp_skip ?_;simp only[thenA,inBlockA,roundQ,reduceIte,Nat.reduceEqDiff,eq_self];refine⟨?_,sub_rb [none,none,some 2,some 3,some 4,some 5,some 6,some 7,some 8,some 9] rfl (by simp[net]) (by simp[net])⟩;intro z hz;rw[List.take_add_one,hy]at hz
      rcases List.mem_append.1 hz with hz|hz
      ·exact hi z hz
      ·obtain rfl:z=y:=by simpa using hz
       exact hc3
    ·intro hdone;rw[List.take_of_length_le (by simp)]at hdone;have:=hdone y0 hy0;rw[hso]at this;cases this
   ·have hkt:k=to:=(hmk k i0).1 (by generalize moveM k=q at hc2;simp at hc2;cases q;cases b;simp_all);have hn:n=0:=by have:=(hmz k i0 i1 i2).2.2 hkt;omega
    subst hn;simp only[shL]at i5;refine gwp_exit ?_;simp only[zT,reduceIte,Nat.reduceEqDiff];refine hK3 _ _ ?_;refine gwp_prune [12] (Or.inr (by simp)) ?_;simp only[zP,Nat.reduceEqDiff,reduceIte];refine gS fun K hK=>?_;simp -dsimp;apply hK;clear hK K;have g1:List.take (acc.length+1) ((mvL (acc++[k])).map Move.cells)=(mvL (acc++[k])).map Move.cells:=List.take_of_length_le (by simp);exact gwp_ret (by simp[←i5,g1])
end Go.Tram
end
section
namespace Go.Tram
open Go.AM Go.Proofs
def shB (p:Plan) (a b:Move):Bool:=fineB p a b&&(decide (p.Nodes.length≤7)&&decide (p.Rails.length≤8))
theorem c_TrackShortest_a (p:Plan) (a b:Move) (most:Int) (hf:p.Fit) (h:shB p a b=false):PureCall Tryz.prog 4 [p.av,a.av,b.av,I most] (Bo true):=by
 have hfi:=c_fine p a b hf;unfold shB at h;generalize fineB p a b=f at hfi h;refine PureCall.of_body Tryz.func4 rfl (by decide) (by simp[Tryz.ntmps4]) ?_;simp only[Tryz.ntmps4,Tryz.results4];refine aS fun K hK=>?_;simp -dsimp;apply hK;clear hK K;refine awp_seq_k fun K1 hK1=>?_;refine aS fun K hK=>?_;simp -dsimp;refine callK_intro _ (hfi) (by simp) ?_;simp -dsimp;apply hK;clear hK K;refine awp_cond rfl (fun hc0=>?_) (fun hc0=>?_)
 ·refine aS fun K hK=>?_;simp -dsimp;refine callK_intro _ (c_known1) (by simp) ?_;simp -dsimp;apply hK;clear hK K;exact awp_ret (by simp)
 ·exfalso;simp at hc0;simp[hc0]at h;omega
theorem c_TrackShortest_b (p:Plan) (a b:Move) (most:Int) (hf:p.Fit) (h:shB p a b=true) (ho:opnB p b a=true) (hm:inr most 1 200=false):PureCall Tryz.prog 4 [p.av,a.av,b.av,I most] (Bo true):=by
 have hfi:=c_fine p a b hf;unfold shB at h;simp only[Bool.and_eq_true,decide_eq_true_eq]at h;obtain⟨h,h7,h8⟩:=h;rw[h]at hfi;unfold fineB at h;simp only[Bool.and_eq_true]at h;obtain⟨_,hv,ha,hb⟩:=h;have h3:=c_tShortest_t p a b hv ha hb (by simpa [opnB]using ho);have hh:=(refW_head hv ha hb).2 ho;unfold mvL at h3;generalize (shL p (dEnd p (numM b)).ln (dEnd p (numM b)).mv (gd (dEnd p (numM b)).mv (numM a).toNat).toNat (numM a)).map moveM=w0 at h3 hh;have hWm:∀c∈refW p a b,c.length≤100000:=fun c hc=>by
  have:=(beg_bd hv (allW_beg hv ha ((sortB_perm (bfrB p) (allW p a b)).subset hc)).1).1;omega
 have h4:=c_tWays_m p a b most hv ha hb hm;have h5:=c_rWays p a b hv h8 ha hb;have hb0:¬(1≤most∧most≤200):=fun hx=>by rw[inr_iff.2 hx]at hm;cases hm
 have hs:=c_SameM_lst w0 (hWm w0 (List.mem_of_getElem? hh));generalize refW p a b=W at h5 hh hWm;have hW:=(List.getElem?_eq_some_iff.1 hh).1;have hW0:¬W=[]:=by rintro rfl;simp at hW
 refine PureCall.of_body Tryz.func4 rfl (by decide) (by simp[Tryz.ntmps4]) ?_;simp only[Tryz.ntmps4,Tryz.results4];refine aS fun K hK=>?_;simp -dsimp;apply hK;clear hK K;refine awp_seq_k fun K1 hK1=>?_;refine aS fun K hK=>?_;simp -dsimp;refine callK_intro _ (hfi) (by simp) ?_;simp -dsimp;apply hK;clear hK K;refine awp_cond rfl (fun hc0=>?_) (fun hc0=>?_)
 ·exfalso;simp at hc0;omega
 ·refine awp_skip ?_;simp only[zT,reduceIte,Nat.reduceEqDiff];refine hK1 _ _ ?_;refine awp_prune [3,4,5,6] ?_;simp only[zP,Nat.reduceEqDiff,reduceIte];refine aS fun K hK=>?_;simp -dsimp;refine callK_intro _ (h3) (by simp) ?_;simp -dsimp;apply hK;clear hK K;refine aS fun K hK=>?_;simp -dsimp;refine callK_intro _ (h4) (by simp) ?_;simp -dsimp;apply hK;clear hK K;refine aS fun K hK=>?_;simp -dsimp;refine callK_intro _ (h5) (by simp) ?_;simp -dsimp;apply hK;clear hK K;refine awp_seq_k fun K2 hK2=>?_;refine aS fun K hK=>?_;simp -dsimp;refine idxK_intro (wCell w0) (fun hm=>by rw[List.getElem?_map,hh];rfl) ?_;simp -dsimp;refine callK_may _ (fun hm=>hs) (by simp) ?_;simp -dsimp;apply hK;clear hK K;refine awp_cond rfl (fun hc1=>?_) (fun hc1=>?_)
  ·exfalso;simp at hc1;simp_all
  ·refine awp_skip ?_;simp only[zT,reduceIte,Nat.reduceEqDiff];refine hK2 _ _ ?_;refine awp_prune [3,11,12,13] ?_;simp only[zP,Nat.reduceEqDiff,reduceIte];refine awp_seq_k fun K3 hK3=>?_;refine aS fun K hK=>?_;simp -dsimp;apply hK;clear hK K;refine awp_cond rfl (fun hc2=>?_) (fun hc2=>?_)
   ·refine aS fun K hK=>?_;simp -dsimp;refine callK_may _ (fun hm=>c_known1) (by simp) ?_;simp -dsimp;apply hK;clear hK K;exact awp_ret (by simp)
   ·exfalso;simp at hc2;omega
theorem c_TrackShortest_c (p : Plan) (a b : Move) (most:Int) (hf:p.Fit) (h:shB p a b=true) (ho:opnB p b a=false) (hm:inr most 1 200=false):PureCall Tryz.prog 4 [p.av,a.av,b.av,I most] (Bo true):=by
  have hfi:=c_fine p a b hf
  unfold shB at h
  simp only[Bool.and_eq_true,decide_eq_true_eq]at h
  obtain⟨h,h7,h8⟩:=h
  rw[h]at hfi
  unfold fineB at h
  simp only[Bool.and_eq_true]at h
  obtain⟨_,hv,ha,hb⟩:=h
  have h3 := c_tShortest_n p a b hv ha hb (by have:¬0≤gd (dEnd p (numM b)).ln (numM a).toNat:=by simpa [opnB]using ho
                                              omega)
  have hh:=(refW_head hv ha hb).1 ho
  have hWm:∀c∈refW p a b,c.length≤100000:=fun c hc=>by
    have:=(beg_bd hv (allW_beg hv ha ((sortB_perm (bfrB p) (allW p a b)).subset hc)).1).1
    omega
  have h4:=c_tWays_m p a b most hv ha hb hm
  have h5:=c_rWays p a b hv h8 ha hb
  have hb0:¬(1≤most∧most≤200):=fun hx=>by rw[inr_iff.2 hx]at hm;cases hm
  rw[hh]at h5
  refine PureCall.of_body Tryz.func4 rfl (by decide) (by simp[Tryz.ntmps4]) ?_
  simp only[Tryz.ntmps4,Tryz.results4]
  refine aS fun K hK=>?_
  simp -dsimp
  apply hK;clear hK K
  refine awp_seq_k fun K1 hK1=>?_
  refine aS fun K hK=>?_
  simp -dsimp
  refine callK_intro _ (hfi) (by simp) ?_
  simp -dsimp
  apply hK;clear hK K
  refine awp_cond rfl (fun hc0=>?_) (fun hc0=>?_)
  · skip
    skip
    exfalso;simp at hc0;omega
  · skip
    skip
    refine awp_skip ?_
    simp only[zT,reduceIte,Nat.reduceEqDiff]
    refine hK1 _ _ ?_
    refine awp_prune [3,4,5,6] ?_
    simp only[zP,Nat.reduceEqDiff,reduceIte]
    refine aS fun K hK=>?_
    simp -dsimp
    refine callK_intro _ (h3) (by simp) ?_
    simp -dsimp
    apply hK;clear hK K
    refine aS fun K hK=>?_
    simp -dsimp
    refine callK_intro _ (h4) (by simp) ?_
    simp -dsimp
    apply hK;clear hK K
    refine aS fun K hK=>?_
    simp -dsimp
    refine callK_intro _ (h5) (by simp) ?_
    simp -dsimp
    apply hK;clear hK K
    refine awp_seq_k fun K2 hK2=>?_
    refine aS fun K hK=>?_
    simp -dsimp
    refine idxK_intro (wCell []) (fun hm=>by simp at hm) ?_
    simp -dsimp
    refine callK_may (Bo true) (fun hm=>by simp at hm) (by simp) ?_
    simp -dsimp
    apply hK;clear hK K
    refine awp_cond rfl (fun hc1=>?_) (fun hc1=>?_)
    · skip
      skip
      exfalso;simp at hc1
    · skip
      skip
      refine awp_skip ?_
      simp only[zT,reduceIte,Nat.reduceEqDiff]
      refine hK2 _ _ ?_
      refine awp_prune [3,11,12,13] ?_
      simp only[zP,Nat.reduceEqDiff,reduceIte]
      refine awp_seq_k fun K3 hK3=>?_
      refine aS fun K hK=>?_
      simp -dsimp
      apply hK;clear hK K
      refine awp_cond rfl (fun hc2=>?_) (fun hc2=>?_)
      · skip
        skip
        refine aS fun K hK=>?_
        simp -dsimp
        refine callK_may _ (fun hm=>c_known1) (by simp) ?_
        simp -dsimp
        apply hK;clear hK K
        exact awp_ret (by simp)
      · skip
        skip
        exfalso;simp at hc2;omega
theorem c_TrackShortest_d (p:Plan) (a b:Move) (most:Int) (hf:p.Fit) (h:shB p a b=true) (ho:opnB p b a=true) (hm:inr most 1 200=true):PureCall Tryz.prog 4 [p.av,a.av,b.av,I most] (Bo true):=by
 have hfi:=c_fine p a b hf;unfold shB at h;simp only[Bool.and_eq_true,decide_eq_true_eq]at h;obtain⟨h,h7,h8⟩:=h;rw[h]at hfi;unfold fineB at h;simp only[Bool.and_eq_true]at h;obtain⟨_,hv,ha,hb⟩:=h;have h3:=c_tShortest_t p a b hv ha hb (by simpa [opnB]using ho);have hh:=(refW_head hv ha hb).2 ho;unfold mvL at h3;generalize (shL p (dEnd p (numM b)).ln (dEnd p (numM b)).mv (gd (dEnd p (numM b)).mv (numM a).toNat).toNat (numM a)).map moveM=w0 at h3 hh;have hWm:∀c∈refW p a b,c.length≤100000:=fun c hc=>by
  have:=(beg_bd hv (allW_beg hv ha ((sortB_perm (bfrB p) (allW p a b)).subset hc)).1).1;omega
 have h4:=c_tWays_t p a b most hv h8 ha hb hm;have h5:=c_rWays p a b hv h8 ha hb;have hb0:1≤most∧most≤200:=inr_iff.1 hm;have hs:=c_SameM_lst w0 (hWm w0 (List.mem_of_getElem? hh));generalize refW p a b=W at h4 h5 hh hWm;have hW:=(List.getElem?_eq_some_iff.1 hh).1;have hW0:¬W=[]:=by rintro rfl;simp at hW
 obtain⟨V,hVe⟩:∃V,V=W.take most.toNat:=⟨_,rfl⟩;rw[←hVe]at h4;have hVl:V.length=min most.toNat W.length:=by rw[hVe,List.length_take]
 have hVg:∀(i:Nat) c,V[i]?=some c→W[i]?=some c:=fun i c h=>by
  rw[hVe,List.getElem?_take]at h
  split at h
  ·exact h
  ·cases h
 have hml:=(List.length_take_le most.toNat W);refine PureCall.of_body Tryz.func4 rfl (by decide) (by simp[Tryz.ntmps4]) ?_;simp only[Tryz.ntmps4,Tryz.results4];refine aS fun K hK=>?_;simp -dsimp;apply hK;clear hK K;refine awp_seq_k fun K1 hK1=>?_;refine aS fun K hK=>?_;simp -dsimp;refine callK_intro _ (hfi) (by simp) ?_;simp -dsimp;apply hK;clear hK K;refine awp_cond rfl (fun hc0=>?_) (fun hc0=>?_)
 ·exfalso;simp at hc0;omega
 ·refine awp_skip ?_;simp only[zT,reduceIte,Nat.reduceEqDiff];refine hK1 _ _ ?_;refine awp_prune [3,4,5,6] ?_;simp only[zP,Nat.reduceEqDiff,reduceIte];refine aS fun K hK=>?_;simp -dsimp;refine callK_intro _ (h3) (by simp) ?_;simp -dsimp;apply hK;clear hK K;refine aS fun K hK=>?_;simp -dsimp;refine callK_intro _ (h4) (by simp) ?_;simp -dsimp;apply hK;clear hK K;refine aS fun K hK=>?_;simp -dsimp;refine callK_intro _ (h5) (by simp) ?_;simp -dsimp;apply hK;clear hK K;refine awp_seq_k fun K2 hK2=>?_;refine aS fun K hK=>?_;simp -dsimp;refine idxK_intro (wCell w0) (fun hm=>by rw[List.getElem?_map,hh];rfl) ?_;simp -dsimp;refine callK_may _ (fun hm=>hs) (by simp) ?_;simp -dsimp;apply hK;clear hK K;refine awp_cond rfl (fun hc1=>?_) (fun hc1=>?_)
  ·exfalso;simp at hc1;simp_all
  ·refine awp_skip ?_;simp only[zT,reduceIte,Nat.reduceEqDiff];refine hK2 _ _ ?_;refine awp_prune [3,11,12,13] ?_;simp only[zP,Nat.reduceEqDiff,reduceIte];refine awp_seq_k fun K3 hK3=>?_;refine aS fun K hK=>?_;simp -dsimp;apply hK;clear hK K;refine awp_cond rfl (fun hc2=>?_) (fun hc2=>?_)
   ·exfalso;simp at hc2;omega
   ·refine awp_skip ?_;simp only[zT,reduceIte,Nat.reduceEqDiff];refine hK3 _ _ ?_;refine awp_prune [3,11,12,13] ?_;simp only[zP,Nat.reduceEqDiff,reduceIte];refine awp_seq_k fun K4 hK4=>?_;refine aS fun K hK=>?_;simp -dsimp;apply hK;clear hK K;refine awp_cond rfl (fun hc3=>?_) (fun hc3=>?_)
    ·exact absurd (show((V.length:Nat):Int)=(if (W.length:Int)<most then(W.length:Int)else most)by rw[hVl];split<;>omega) (bne_iff_ne.1 hc3)
    ·refine awp_skip ?_;simp only[zT,reduceIte,Nat.reduceEqDiff];refine hK4 _ _ ?_;refine awp_prune [11,13] ?_;simp only[zP,Nat.reduceEqDiff,reduceIte];refine awp_seq_k fun K5 hK5=>?_;refine aS fun K hK=>?_;simp -dsimp;apply hK;clear hK K;refine awp_block ?_;refine awp_prune [11,13,14] ?_;simp only[zP,Nat.reduceEqDiff,reduceIte];refine awp_loop_l [11,13] (α:=Nat) (fun i=>[(14,I i)]) (fun _=>[]) (fun i=>i≤V.length) (fun i=>V.length-i) 0 ?_ ?_ ?_
     ·exact Nat.zero_le _
     ·exact sub_rb [] rfl (by simp) (by simp)
     rintro i i1;simp only[zP,Nat.reduceEqDiff,reduceIte];refine awp_seq_k fun K6 hK6=>?_;refine aS fun K hK=>?_;simp -dsimp;apply hK;clear hK K;refine awp_cond rfl (fun hc4=>?_) (fun hc4=>?_)
     ·have hi:i<V.length:=by simpa using hc4
      obtain⟨c,hc⟩:∃c,V[i]?=some c:=⟨_,List.getElem?_eq_getElem hi⟩;have hcw:=hVg i c hc;have wi:=zW i (by omega);refine awp_skip ?_;simp only[zT,reduceIte,Nat.reduceEqDiff];refine hK6 _ _ ?_;refine awp_prune [11,13,14] ?_;simp only[zP,Nat.reduceEqDiff,reduceIte];refine awp_seq_k fun K7 hK7=>?_;refine awp_block ?_;refine awp_sd mixed rfl fun K hK=>?_;simp -dsimp [hc,hcw];refine callK_intro _ (c_SameM_lst c (hWm c (List.mem_of_getElem? hcw))) (by simp) ?_;simp -dsimp [hc,hcw];refine hK _ _ _ (by decide+kernel) ?_;clear hK K;refine awp_cond rfl (fun hc5=>?_) (fun hc5=>?_)
      ·exfalso;simp at hc5
      ·refine awp_skip ?_;simp only[zT,reduceIte,Nat.reduceEqDiff];refine hK7 _ _ ?_;refine awp_prune [11,13,14] ?_;simp only[zP,Nat.reduceEqDiff,reduceIte];refine aR fun K hK=>?_;simp -dsimp [wi];apply hK;clear hK K;simp only[zT,reduceIte,Nat.reduceEqDiff];exact⟨i+1,by omega,by omega,sub_rb [] rfl (by simp) (by simp)⟩
     ·refine awp_exit ?_;simp only[zT,reduceIte,Nat.reduceEqDiff];refine hK5 _ _ ?_;refine awp_prune [] ?_;simp only[zP,Nat.reduceEqDiff,reduceIte];refine aS fun K hK=>?_;simp -dsimp;refine callK_intro _ (c_known1) (by simp) ?_;simp -dsimp;apply hK;clear hK K;exact awp_ret (by simp)
theorem c_TrackShortest_e (p : Plan) (a b : Move) (most:Int) (hf:p.Fit) (h:shB p a b=true) (ho:opnB p b a=false) (hm:inr most 1 200=true):PureCall Tryz.prog 4 [p.av,a.av,b.av,I most] (Bo true):=by
  have hfi:=c_fine p a b hf
  unfold shB at h
  simp only[Bool.and_eq_true,decide_eq_true_eq]at h
  obtain⟨h,h7,h8⟩:=h
  rw[h]at hfi
  unfold fineB at h
  simp only[Bool.and_eq_true]at h
  obtain⟨_,hv,ha,hb⟩:=h
  have h3 := c_tShortest_n p a b hv ha hb (by have:¬0≤gd (dEnd p (numM b)).ln (numM a).toNat:=by simpa [opnB]using ho
                                              omega)
  have hh:=(refW_head hv ha hb).1 ho
  have hWm:∀c∈refW p a b,c.length≤100000:=fun c hc=>by
    have:=(beg_bd hv (allW_beg hv ha ((sortB_perm (bfrB p) (allW p a b)).subset hc)).1).1
    omega
  have h4:=c_tWays_t p a b most hv h8 ha hb hm
  have h5:=c_rWays p a b hv h8 ha hb
  have hb0:1≤most∧most≤200:=inr_iff.1 hm
  generalize refW p a b=W at h4 h5 hh hWm
  have hW:W.length=0:=by rw[hh];rfl
  obtain⟨V,hVe⟩:∃V,V=W.take most.toNat:=⟨_,rfl⟩
  rw[←hVe]at h4
  have hVl:V.length=min most.toNat W.length:=by rw[hVe,List.length_take]
  have hVg:∀(i:Nat) c,V[i]?=some c→W[i]?=some c:=fun i c h=>by
    rw[hVe,List.getElem?_take]at h
    split at h
    · exact h
    · cases h
  have hml:=(List.length_take_le most.toNat W)
  refine PureCall.of_body Tryz.func4 rfl (by decide) (by simp[Tryz.ntmps4]) ?_
  simp only[Tryz.ntmps4,Tryz.results4]
  refine aS fun K hK=>?_
  simp -dsimp
  apply hK;clear hK K
  refine awp_seq_k fun K1 hK1=>?_
  refine aS fun K hK=>?_
  simp -dsimp
  refine callK_intro _ (hfi) (by simp) ?_
  simp -dsimp
  apply hK;clear hK K
  refine awp_cond rfl (fun hc0=>?_) (fun hc0=>?_)
  · skip
    skip
    exfalso;simp at hc0;omega
  · skip
    skip
    refine awp_skip ?_
    simp only[zT,reduceIte,Nat.reduceEqDiff]
    refine hK1 _ _ ?_
    refine awp_prune [3,4,5,6] ?_
    simp only[zP,Nat.reduceEqDiff,reduceIte]
    refine aS fun K hK=>?_
    simp -dsimp
    refine callK_intro _ (h3) (by simp) ?_
    simp -dsimp
    apply hK;clear hK K
    refine aS fun K hK=>?_
    simp -dsimp
    refine callK_intro _ (h4) (by simp) ?_
    simp -dsimp
    apply hK;clear hK K
    refine aS fun K hK=>?_
    simp -dsimp
    refine callK_intro _ (h5) (by simp) ?_
    simp -dsimp
    apply hK;clear hK K
    refine awp_seq_k fun K2 hK2=>?_
    refine aS fun K hK=>?_
    simp -dsimp
    refine idxK_intro (wCell []) (fun hm=>by simp[hW]at hm) ?_
    simp -dsimp
    refine callK_may (Bo true) (fun hm=>by simp[hW]at hm) (by simp) ?_
    simp -dsimp
    apply hK;clear hK K
    refine awp_cond rfl (fun hc1=>?_) (fun hc1=>?_)
    · skip
      skip
      exfalso;simp[hW]at hc1
    · skip
      skip
      refine awp_skip ?_
      simp only[zT,reduceIte,Nat.reduceEqDiff]
      refine hK2 _ _ ?_
      refine awp_prune [3,11,12,13] ?_
      simp only[zP,Nat.reduceEqDiff,reduceIte]
      refine awp_seq_k fun K3 hK3=>?_
      refine aS fun K hK=>?_
      simp -dsimp
      apply hK;clear hK K
      refine awp_cond rfl (fun hc2=>?_) (fun hc2=>?_)
      · skip
        skip
        exfalso;simp at hc2;omega
      · skip
        skip
        refine awp_skip ?_
        simp only[zT,reduceIte,Nat.reduceEqDiff]
        refine hK3 _ _ ?_
        refine awp_prune [3,11,12,13] ?_
        simp only[zP,Nat.reduceEqDiff,reduceIte]
        refine awp_seq_k fun K4 hK4=>?_
        refine aS fun K hK=>?_
        simp -dsimp
        apply hK;clear hK K
        refine awp_cond rfl (fun hc3=>?_) (fun hc3=>?_)
        · skip
          skip
          exact absurd (show((V.length:Nat):Int)=(if (W.length:Int)<most then(W.length:Int)else most)by rw[hVl];split<;>omega) (bne_iff_ne.1 hc3)
        · skip
          skip
          refine awp_skip ?_
          simp only[zT,reduceIte,Nat.reduceEqDiff]
          refine hK4 _ _ ?_
          refine awp_prune [11,13] ?_
          simp only[zP,Nat.reduceEqDiff,reduceIte]
          refine awp_seq_k fun K5 hK5=>?_
          refine aS fun K hK=>?_
          simp -dsimp
          apply hK;clear hK K
          refine awp_block ?_
          refine awp_prune [11,13,14] ?_
          simp only[zP,Nat.reduceEqDiff,reduceIte]
          refine awp_loop_l [11,13] (α:=Nat) (fun i=>[(14,I i)]) (fun _=>[]) (fun i=>i≤V.length) (fun i=>V.length-i) 0 ?_ ?_ ?_
          · exact Nat.zero_le _
          · exact sub_rb [] rfl (by simp) (by simp)
          rintro i i1
          simp only[zP,Nat.reduceEqDiff,reduceIte]
          refine awp_seq_k fun K6 hK6=>?_
          refine aS fun K hK=>?_
          simp -dsimp
          apply hK;clear hK K
          refine awp_cond rfl (fun hc4=>?_) (fun hc4=>?_)
          · skip
            skip
            have hi:i<V.length:=by simpa using hc4
            obtain⟨c,hc⟩:∃c,V[i]?=some c:=⟨_,List.getElem?_eq_getElem hi⟩
            have hcw:=hVg i c hc
            have wi:=zW i (by omega)
            refine awp_skip ?_
            simp only[zT,reduceIte,Nat.reduceEqDiff]
            refine hK6 _ _ ?_
            refine awp_prune [11,13,14] ?_
            simp only[zP,Nat.reduceEqDiff,reduceIte]
            refine awp_seq_k fun K7 hK7=>?_
            refine awp_block ?_
            refine awp_sd mixed rfl fun K hK=>?_
            simp -dsimp [hc,hcw]
            refine callK_intro _ (c_SameM_lst c (hWm c (List.mem_of_getElem? hcw))) (by simp) ?_
            simp -dsimp [hc,hcw]
            refine hK _ _ _ (by decide+kernel) ?_;clear hK K
            refine awp_cond rfl (fun hc5=>?_) (fun hc5=>?_)
            · skip
              skip
              exfalso;simp at hc5
            · skip
              skip
              refine awp_skip ?_
              simp only[zT,reduceIte,Nat.reduceEqDiff]
              refine hK7 _ _ ?_
              refine awp_prune [11,13,14] ?_
              simp only[zP,Nat.reduceEqDiff,reduceIte]
              refine aR fun K hK=>?_
              simp -dsimp [wi]
              apply hK;clear hK K
              simp only[zT,reduceIte,Nat.reduceEqDiff]
              exact⟨i+1,by omega,by omega,sub_rb [] rfl (by simp) (by simp)⟩
          · skip
            skip
            refine awp_exit ?_
            simp only[zT,reduceIte,Nat.reduceEqDiff]
            refine hK5 _ _ ?_
            refine awp_prune [] ?_
            simp only[zP,Nat.reduceEqDiff,reduceIte]
            refine aS fun K hK=>?_
            simp -dsimp
            refine callK_intro _ (c_known1) (by simp) ?_
            simp -dsimp
            apply hK;clear hK K
            exact awp_ret (by simp)
theorem c_TrackShortest (p:Plan) (a b:Move) (most:Int) (hf:p.Fit):PureCall Tryz.prog 4 [p.av,a.av,b.av,I most] (Bo true):=by
 cases h:shB p a b with
 |false=>exact c_TrackShortest_a p a b most hf h
 | true=>
  cases ho:opnB p b a with
  |true=>
   cases hm:inr most 1 200 with
   |true=>exact c_TrackShortest_d p a b most hf h ho hm
   |false=>exact c_TrackShortest_b p a b most hf h ho hm
  |false=>
   cases hm:inr most 1 200 with
   |true=>exact c_TrackShortest_e p a b most hf h ho hm
   |false=>exact c_TrackShortest_c p a b most hf h ho hm
end Go.Tram
end
section
namespace Go.Tram
open Go.AM Go.Proofs Go.ChangeShapes Go.WideShapes
theorem sh_bool {n:Nat} {avs:List AV} (h:Shaped Tryz.prog (n+1) 4 avs):∃b,avs=[Bo b]:=shaped_bool k_bool h
theorem sh_move {n:Nat} {avs:List AV} (h:Shaped Tryz.prog (n+2) 51 avs):∃s:Move,avs=s.cells∧I64 s.Rail:=by
 obtain⟨h1,h2⟩:=shaped_agg (by kernel_rfl) td51 h;obtain⟨a,b,rfl⟩:=list2 h1;obtain⟨x,hx,bx⟩:=sh_int (h2 (0,1,3) (by simp));obtain⟨y,hy⟩:=sh_bool (h2 (1,1,4) (by simp));simp at hx hy;subst hx hy;exact⟨⟨x,y⟩,rfl,bx⟩
end Go.Tram
end
