import Derived.Test.YtibddmpaklcleaaP4
import Derived.Lib.Mul64
set_option maxRecDepth 100000
set_option maxHeartbeats 8000000
set_option linter.unusedVariables false
set_option linter.unusedSimpArgs false
section
namespace Go.Cur
open Go.AM Go.Proofs
theorem a4k (l:List (List Nat)):(l.map pAV).all (fun e=>e.all F7)=true:=by simp[F7,pAV]
@[simp high] theorem b7h (l:List (List Nat)) (g:List (Option Nat)) (n:Nat):(l.map pAV).map (fun e=>e.map (m9 g n))=l.map pAV:=l8 (fun x h=>E0 h g n) (a4k l)
@[simp high] theorem b5L (l:List (List Nat)) (H:Nat→Option l7) (g:List (Option Nat)) (n:Nat):(l.map pAV).map (fun e=>e.map (S9 H g n))=l.map pAV:=l8 (fun x h=>z6 h H g n) (a4k l)
@[simp high] theorem b5A (l:List (List Nat)) (H:Hp) (n:Nat):(l.map pAV).map (fun e=>e.map (V9 H n))=l.map pAV:=l8 (fun x h=>C0 h H n) (a4k l)
def I7 (g:Gr) (s:Sta):Prop:=∀p∈j7 g s,p.length≤12
theorem a6w (g:Gr) (s:Sta) (hnt:o7 g s) (h12:I7 g s):N2 Try.prog 84 [.iptr [net g s]] ((j7 g s).map pAV):=by
 have hb:=t9 hnt.gr;exact b6l g s hnt g.Nodes.toNat (by omega) _ rfl (fun k hk=>h12 _ (List.mem_map.2 ⟨k,hk,rfl⟩)) _ rfl
def C5 (g:Gr) (s:Sta):Bool:=(j7 g s).any fun p=>decide (10<p.length)
theorem X5 (g:Gr) (s:Sta) (hnt:o7 g s) (h12:I7 g s):d6 Try.prog 48 [net g s] (Bo (C5 g s)):=by
 have hit:=a6w g s hnt h12;have hc:=a2H (ntC g (bL s.Feeds) (bL s.Wires));unfold C5;generalize j7 g s=L at hit;refine d6.of_bodyG Try.func48 rfl (by decide) (by simp[Try.ntmps48]) ?_;intro J hJ;simp only[Try.ntmps48,Try.results48];refine gS fun K hK=>?_;simp -dsimp;apply hK;clear hK K;refine b9 fun K1 hK1=>?_;refine gS fun K hK=>?_;simp -dsimp;refine d5 _ (hc) (by simp) ?_;simp -dsimp;apply hK;clear hK K;refine d7 ?_;refine b6 [2,5] (Or.inr (by simp)) ?_;simp only[zP,Nat.reduceEqDiff,reduceIte];refine G7 hJ [2,5] (fun _=>[some (.els 1 [[Bo false]])]) (fun n=>(L.take n).any (fun p=>decide (10<p.length))=false) rfl (hit) rfl (by simp) (by decide) (by decide) (by decide) (a2i L) ?_ ?_ ?_ ?_
 ·trivial
 ·exact j9 (by simp)
 ·intro n xv hxn hi l1 J1 hJ1;obtain⟨p,hp,rfl⟩:∃p,L[n]?=some p∧pAV p=xv:=by simpa using hxn
  have hpl:=o9 p;simp only[pAV];simp only[List.zip_cons_cons,List.zip_nil_left,List.zip_nil_right,List.cons_append,List.nil_append];refine gR fun K hK=>?_;simp -dsimp;apply hK;clear hK K;simp only[a6z];intro J2 hJ2;refine b6 [2,3,5] (Or.inr (by simp)) ?_;simp only[zP,Nat.reduceEqDiff,reduceIte];refine d7 ?_;refine gS fun K hK=>?_;simp -dsimp [hpl];apply hK;clear hK K;refine d9 rfl (fun hc0=>?_) (fun hc0=>?_)
  ·skip
   try simp at hc0
   have hany:L.any (fun p=>decide (10<p.length))=true:=List.any_eq_true.2 ⟨p,List.mem_of_getElem? hp,by simp;omega⟩;refine gS fun K hK=>?_;simp -dsimp;apply hK;clear hK K;exact j6 ⟨[some (.els 1 [[Bo true]])],e9 [some 0] rfl (by simp) (by simp),by simp[hany]⟩
  ·skip
   try simp at hc0
   refine f6 ?_;simp only[Q8,B9,a1d,reduceIte,Nat.reduceEqDiff,eq_self];refine⟨?_,e9 [some 0] rfl (by simp) (by simp)⟩;rw[List.take_add_one,List.any_append,hi,hp];simp;omega
 ·intro hdone;simp only[zT,reduceIte,Nat.reduceEqDiff];refine hK1 _ _ ?_;refine b6 [2] (Or.inr (by simp)) ?_;simp only[zP,Nat.reduceEqDiff,reduceIte];refine gS fun K hK=>?_;simp -dsimp;apply hK;clear hK K;refine j6 ?_;rw[List.take_of_length_le (by simp)]at hdone;simp[hdone]
theorem d6.argR {P:Program} {f:FuncId} {args args':List AV} {res:AV} (h:d6 P f args' res) (hl:args.length=args'.length)
  (hr:∀(i:Nat) c c',args[i]?=some c→args'[i]?=some c'→∀(w:World) (S:Nat→Prop) (y:Value),q8 w S c y→q8 w S c' y):d6 P f args res:=by
 have key:∀{w:World} {S:Nat→Prop} {vs:List Value},(∀(i:Nat) c x,args[i]?=some c→vs[i]?=some x→q8 w S c x)→∀(i:Nat) c x,args'[i]?=some c→vs[i]?=some x→q8 w S c x:=by
  intro w S vs h i c x h1 h2;have hil:i<args.length:=by rw[hl];exact(List.getElem?_eq_some_iff.1 h1).1
  exact hr i _ c (List.getElem?_eq_getElem hil) h1 w S x (h i _ x (List.getElem?_eq_getElem hil) h2)
 rcases h with⟨h1,h2⟩|h2
 ·exact Or.inl ⟨h1,fun S0 w vs a b c=>h2 S0 w vs a (by rw[←hl];exact b) (key c)⟩
 ·exact Or.inr fun S0 w vs a b=>h2 S0 w vs (by rw[←hl];exact a) (key b)
theorem u6 {g:Gr} {s:Sta} {l:List Ld} (h:t7 g s l=true):o7 g s:=by
 simp only[t7,stB,Bool.and_eq_true,decide_eq_true_eq]at h;exact⟨h.1.1,h.1.2.1.1,h.1.2.1.2⟩
theorem M3 (g:Gr) (s:Sta):(j7 g s).length≤g.Nodes.toNat:=by
 unfold j7 b7v;rw[List.length_map];have:=List.length_filter_le (fun i=>decide (nm (a7E g s) g.Nodes.toNat i=i)) (List.range g.Nodes.toNat);simpa [W9]using this
end Go.Cur
end
section
namespace Go.Cur
open Go.AM Go.Proofs
theorem V7 (x lo hi:Int):d6 Try.prog 67 [I x,I lo,I hi] (Bo (inr x lo hi)):=by
 refine d6.of_body Try.func67 rfl (by decide) (by simp[Try.ntmps67]) ?_;simp only[Try.ntmps67,Try.results67];refine aS fun K hK=>?_;simp -dsimp;apply hK;clear hK K;refine aS fun K hK=>?_;simp -dsimp;apply hK;clear hK K;exact g7 (by simp[inr])
theorem c2p {x y:Fr} (h:x.Num=y.Num∧ik x.Den=ik y.Den):x=y:=by
 obtain⟨a,b⟩:=x;obtain⟨c,d⟩:=y;have h1:a=c:=h.1;have h2:b=d:=P6.1 h.2;rw[h1,h2]
theorem b5h (a b:List Int) (hb:b.length≤100000):d6 Try.prog 37 [iL a,iL b] (Bo (decide (a=b))):=by
 refine d6.of_body Try.func37 rfl (by decide) (by simp[Try.ntmps37]) ?_;simp only[Try.ntmps37,Try.results37];refine aS fun K hK=>?_;simp -dsimp;apply hK;clear hK K;refine b8 fun K1 hK1=>?_;refine aS fun K hK=>?_;simp -dsimp;apply hK;clear hK K;refine d8 rfl (fun hc0=>?_) (fun hc0=>?_)
 ·refine aS fun K hK=>?_;simp -dsimp;apply hK;clear hK K;have hne:a≠b:=by rintro rfl;simp at hc0
  exact g7 (by simp[hne])
 ·have hle:a.length=b.length:=by have:=(by simpa using hc0:(a.length:Int)=b.length);omega
  refine f5 ?_;simp only[zT,reduceIte,Nat.reduceEqDiff];refine hK1 _ _ ?_;refine b7 [0,1] ?_;simp only[zP,Nat.reduceEqDiff,reduceIte];refine b8 fun K2 hK2=>?_;refine aS fun K hK=>?_;simp -dsimp;apply hK;clear hK K;refine e8 ?_;refine b7 [0,1,5] ?_;simp only[zP,Nat.reduceEqDiff,reduceIte];refine i4 [0,1] (α:=Nat) (fun k=>[(5,I k)]) (fun k=>[]) (fun k=>k≤a.length∧a.take k=b.take k) (fun k=>a.length-k) 0 ?_ ?_ ?_
  ·exact⟨Nat.zero_le _,rfl⟩
  ·exact j9 (by simp)
  rintro k ⟨k1,k2⟩;simp only[zP,Nat.reduceEqDiff,reduceIte];refine b8 fun K3 hK3=>?_;refine aS fun K hK=>?_;simp -dsimp;apply hK;clear hK K;refine d8 rfl (fun hc1=>?_) (fun hc1=>?_)
  ·have hka:k<a.length:=by simpa using hc1
   have wk:=zW k (by omega);obtain⟨x,hx⟩:∃x,a[k]?=some x:=⟨_,List.getElem?_eq_getElem hka⟩;obtain⟨y,hy⟩:∃y,b[k]?=some y:=⟨_,List.getElem?_eq_getElem (by omega)⟩;refine f5 ?_;simp only[zT,reduceIte,Nat.reduceEqDiff];refine hK3 _ _ ?_;refine b7 [0,1,5] ?_;simp only[zP,Nat.reduceEqDiff,reduceIte];refine b8 fun K4 hK4=>?_;refine e8 ?_;refine s9 l9 rfl fun K hK=>?_;simp -dsimp [hx,hy];refine hK _ _ _ (by decide+kernel) ?_;clear hK K;refine d8 rfl (fun hc2=>?_) (fun hc2=>?_)
   ·refine aS fun K hK=>?_;simp -dsimp;apply hK;clear hK K;have hne:a≠b:=by
     rintro rfl;rw[hx]at hy;have:=Option.some.inj hy;subst this;simp at hc2
    exact g7 (by simp[hne])
   ·refine f5 ?_;simp only[zT,reduceIte,Nat.reduceEqDiff];refine hK4 _ _ ?_;refine b7 [0,1,5] ?_;simp only[zP,Nat.reduceEqDiff,reduceIte];refine aR fun K hK=>?_;simp -dsimp [wk];apply hK;clear hK K;simp only[zT,reduceIte,Nat.reduceEqDiff];have hxy:x=y:=by simpa using hc2
    exact⟨k+1,⟨by omega,by rw[List.take_add_one,List.take_add_one,hx,hy,k2,hxy]⟩,by omega,e9 [] rfl (by simp) (by simp)⟩
  ·have hka:¬k<a.length:=by simpa using hc1
   have e:a=b:=by have h1:=k2;rw[List.take_of_length_le (by omega),List.take_of_length_le (by omega)]at h1;exact h1
   refine j8 ?_;simp only[zT,reduceIte,Nat.reduceEqDiff];refine hK2 _ _ ?_;refine b7 [] ?_;simp only[zP,Nat.reduceEqDiff,reduceIte];refine aS fun K hK=>?_;simp -dsimp;apply hK;clear hK K;exact g7 (by simp[e])
theorem a7h (a b:List Fr) (hb:b.length≤100000):d6 Try.prog 21 [fL a,fL b] (Bo (decide (a=b))):=by
 refine d6.of_body Try.func21 rfl (by decide) (by simp[Try.ntmps21]) ?_;simp only[Try.ntmps21,Try.results21];refine aS fun K hK=>?_;simp -dsimp;apply hK;clear hK K;refine b8 fun K1 hK1=>?_;refine aS fun K hK=>?_;simp -dsimp;apply hK;clear hK K;refine d8 rfl (fun hc0=>?_) (fun hc0=>?_)
 ·refine aS fun K hK=>?_;simp -dsimp;apply hK;clear hK K;have hne:a≠b:=by rintro rfl;simp at hc0
  exact g7 (by simp[hne])
 ·have hle:a.length=b.length:=by have:=(by simpa using hc0:(a.length:Int)=b.length);omega
  refine f5 ?_;simp only[zT,reduceIte,Nat.reduceEqDiff];refine hK1 _ _ ?_;refine b7 [0,1] ?_;simp only[zP,Nat.reduceEqDiff,reduceIte];refine b8 fun K2 hK2=>?_;refine aS fun K hK=>?_;simp -dsimp;apply hK;clear hK K;refine e8 ?_;refine b7 [0,1,5] ?_;simp only[zP,Nat.reduceEqDiff,reduceIte];refine i4 [0,1] (α:=Nat) (fun k=>[(5,I k)]) (fun k=>[]) (fun k=>k≤a.length∧a.take k=b.take k) (fun k=>a.length-k) 0 ?_ ?_ ?_
  ·exact⟨Nat.zero_le _,rfl⟩
  ·exact j9 (by simp)
  rintro k ⟨k1,k2⟩;simp only[zP,Nat.reduceEqDiff,reduceIte];refine b8 fun K3 hK3=>?_;refine aS fun K hK=>?_;simp -dsimp;apply hK;clear hK K;refine d8 rfl (fun hc1=>?_) (fun hc1=>?_)
  ·have hka:k<a.length:=by simpa using hc1
   have wk:=zW k (by omega);obtain⟨x,hx⟩:∃x,a[k]?=some x:=⟨_,List.getElem?_eq_getElem hka⟩;obtain⟨y,hy⟩:∃y,b[k]?=some y:=⟨_,List.getElem?_eq_getElem (by omega)⟩;refine f5 ?_;simp only[zT,reduceIte,Nat.reduceEqDiff];refine hK3 _ _ ?_;refine b7 [0,1,5] ?_;simp only[zP,Nat.reduceEqDiff,reduceIte];refine b8 fun K4 hK4=>?_;refine e8 ?_;refine s9 l9 rfl fun K hK=>?_;simp -dsimp [hx,hy];refine hK _ _ _ (by decide+kernel) ?_;clear hK K;refine d8 rfl (fun hc2=>?_) (fun hc2=>?_)
   ·refine aS fun K hK=>?_;simp -dsimp;apply hK;clear hK K;have hne:a≠b:=by
     rintro rfl;rw[hx]at hy;have:=Option.some.inj hy;subst this;simp at hc2
    exact g7 (by simp[hne])
   ·refine f5 ?_;simp only[zT,reduceIte,Nat.reduceEqDiff];refine hK4 _ _ ?_;refine b7 [0,1,5] ?_;simp only[zP,Nat.reduceEqDiff,reduceIte];refine aR fun K hK=>?_;simp -dsimp [wk];apply hK;clear hK K;simp only[zT,reduceIte,Nat.reduceEqDiff];have hxy:x=y:=c2p (by simpa using hc2);exact⟨k+1,⟨by omega,by rw[List.take_add_one,List.take_add_one,hx,hy,k2,hxy]⟩,by omega,e9 [] rfl (by simp) (by simp)⟩
  ·have hka:¬k<a.length:=by simpa using hc1
   have e:a=b:=by have h1:=k2;rw[List.take_of_length_le (by omega),List.take_of_length_le (by omega)]at h1;exact h1
   refine j8 ?_;simp only[zT,reduceIte,Nat.reduceEqDiff];refine hK2 _ _ ?_;refine b7 [] ?_;simp only[zP,Nat.reduceEqDiff,reduceIte];refine aS fun K hK=>?_;simp -dsimp;apply hK;clear hK K;exact g7 (by simp[e])
end Go.Cur
end
section
namespace Go.Cur
open Go.AM Go.Proofs
structure a1A (g:Gr) (s:Sta) (us:Kvs) (p:List Nat) (v:List Int) (d:Int) (vf:Nat→Fr):Prop where
 call:d6 Try.prog 69 [net g s,iL (upN p), .mpc false [.i .i64] us] (.tup [iL v,I d,Bo true])
 len:v.length=p.length
 d0:0<d
 d1:d≤100000000000000
 nb:∀x∈v,-300000000000000000≤x∧x≤300000000000000000
 fr:∀i k,p[i]?=some k→vf k=red (at0 v (i:Nat)) d
theorem a1j {n d:Int} (hd:0<d):0<(red n d).Den∧(red n d).Den≤d∧(red n d).Num.natAbs≤n.natAbs:=by
 obtain⟨a,b,g,hg,e,ha,hb⟩:=a8q (n:=n) hd;have ea':n/g=a:=by rw[ha];exact Int.mul_ediv_cancel_left _ (by omega)
 have eb':d/g=b:=by rw[hb];exact Int.mul_ediv_cancel_left _ (by omega)
 have hb0:0<b:=by
  refine Int.not_le.1 fun h=>?_;have:=Int.mul_nonpos_of_nonneg_of_nonpos (Int.le_of_lt hg) h;omega
 have hbd:b≤d:=by
  have:=Int.mul_le_mul_of_nonneg_right (show(1:Int)≤g by omega) (Int.le_of_lt hb0);omega
 have hna:a.natAbs≤n.natAbs:=by
  rw[ha,Int.natAbs_mul];exact Nat.le_mul_of_pos_left _ (by omega)
 unfold red;rw[e,ea',eb'];exact⟨hb0,hbd,hna⟩
def vlF (n:Nat) (vf:Nat→Fr) (done:List Nat):List Fr:=(List.range n).map fun k=>if k∈done then vf k else⟨0,0⟩
theorem a7Y (n:Nat) (vf:Nat→Fr) (done:List Nat):(vlF n vf done).length=n:=by simp[vlF]
theorem a5y {n:Nat} {vf:Nat→Fr} {done:List Nat} {k:Nat} (h:k<n):(vlF n vf done)[k]?=some (if k∈done then vf k else⟨0,0⟩):=by
 unfold vlF;rw[List.getElem?_map,List.getElem?_range h];rfl
theorem b3p {n:Nat} {vf:Nat→Fr} {done:List Nat} {k:Nat}:(vlF n vf done).set k (vf k)=vlF n vf (done++[k]):=by
 refine List.ext_getElem? fun i=>?_
 by_cases hi:i<n
 ·rw[a5y hi]
  by_cases h:i=k
  ·subst h;rw[List.getElem?_set_self (by rw[a7Y];exact hi)];simp
  ·rw[List.getElem?_set_ne (fun e=>h e.symm),a5y hi];simp[h]
 ·rw[List.getElem?_eq_none (by simp[vlF];omega),List.getElem?_eq_none (by simp[vlF];omega)]
theorem b1n (n:Nat) (vf:Nat→Fr):vlF n vf []=List.replicate n ⟨0,0⟩:=by
 unfold vlF;refine List.ext_getElem? fun i=>?_
 by_cases hi:i<n
 ·rw[List.getElem?_map,List.getElem?_range hi,List.getElem?_replicate,if_pos hi];simp
 ·rw[List.getElem?_eq_none (by simp;omega),List.getElem?_eq_none (by simp;omega)]
def vlA (n:Nat) (vf:Nat→Fr):List Fr:=(List.range n).map vf
theorem b8L {n:Nat} {vf:Nat→Fr} {done:List Nat} (h:∀k,k<n→k∈done):vlF n vf done=vlA n vf:=by
 unfold vlF vlA;exact List.map_congr_left fun k hk=>if_pos (h k (List.mem_range.1 hk))
theorem Q5 {n:Nat} {vf:Nat→Fr} {k:Nat} (h:k<n):(vlA n vf)[k]?=some (vf k):=by
 unfold vlA;rw[List.getElem?_map,List.getElem?_range h];rfl
theorem R8 {g:Gr} {s:Sta} (hnt:o7 g s) {k:Nat} (hk:k<g.Nodes.toNat):k∈(j7 g s).flatten:=by
 rw[List.mem_flatten];exact⟨_,List.mem_map.2 ⟨_,b9A (a2a hnt) hk,rfl⟩,E4.2 ⟨hk,rfl⟩⟩
theorem G4 {g:Gr} {s:Sta} {p:List Nat} (hp:p∈j7 g s) {k:Nat} (hk:k∈p):k<g.Nodes.toNat:=by
 obtain⟨i,_,rfl⟩:=List.mem_map.1 hp;exact(E4.1 hk).1
def ffF (g:Gr) (s:Sta) (vf:Nat→Fr) (i:Nat):Fr:=
 let f:=fdI g i
 let v:=vf f.At.toNat
 if bAt s.Feeds i=true∧0<f.Volts*v.Den-v.Num then red (f.Siem*(f.Volts*v.Den-v.Num)) v.Den else⟨0,1⟩
def flF (g:Gr) (s:Sta) (vf:Nat→Fr) (k:Nat):List Fr:=(List.range g.Feeds.length).map fun i=>if i<k then ffF g s vf i else⟨0,0⟩
theorem a7p {g:Gr} {s:Sta} {vf:Nat→Fr} {k i:Nat} (h:i<g.Feeds.length):(flF g s vf k)[i]?=some (if i<k then ffF g s vf i else⟨0,0⟩):=by
 unfold flF;rw[List.getElem?_map,List.getElem?_range h];rfl
theorem b1I (g:Gr) (s:Sta) (vf:Nat→Fr) (k:Nat):(flF g s vf k).length=g.Feeds.length:=by simp[flF]
theorem b8C {g:Gr} {s:Sta} {vf:Nat→Fr} {k:Nat}:(flF g s vf k).set k (ffF g s vf k)=flF g s vf (k+1):=by
 refine List.ext_getElem? fun i=>?_
 by_cases hi:i<g.Feeds.length
 ·rw[a7p hi]
  by_cases h:i=k
  ·subst h;rw[List.getElem?_set_self (by rw[b1I];exact hi)];simp
  ·rw[List.getElem?_set_ne (fun e=>h e.symm),a7p hi]
   by_cases h2:i<k
   ·rw[if_pos h2,if_pos (by omega)]
   ·rw[if_neg h2,if_neg (by omega)]
 ·rw[List.getElem?_eq_none (by simp[flF];omega),List.getElem?_eq_none (by simp[flF];omega)]
theorem b0j (g:Gr) (s:Sta) (vf:Nat→Fr):flF g s vf 0=List.replicate g.Feeds.length ⟨0,0⟩:=by
 unfold flF;refine List.ext_getElem? fun i=>?_
 by_cases hi:i<g.Feeds.length
 ·rw[List.getElem?_map,List.getElem?_range hi,List.getElem?_replicate,if_pos hi];simp
 ·rw[List.getElem?_eq_none (by simp;omega),List.getElem?_eq_none (by simp;omega)]
def flA (g:Gr) (s:Sta) (vf:Nat→Fr):List Fr:=(List.range g.Feeds.length).map (ffF g s vf)
theorem b7U (g:Gr) (s:Sta) (vf:Nat→Fr):flF g s vf g.Feeds.length=flA g s vf:=by
 unfold flF flA;exact List.map_congr_left fun k hk=>if_pos (List.mem_range.1 hk)
end Go.Cur
end
section
namespace Go.Cur
open Go.AM Go.Proofs
theorem b2P (g:Gr) (s:Sta) (us:Kvs) (hnt:o7 g s) (h12:I7 g s) (vf:Nat→Fr) (t0:Nat) (p0:List Nat) (hp0:(j7 g s)[t0]?=some p0) (v0:List Int) (d0:Int) (hc0':d6 Try.prog 69 [net g s,iL (upN p0), .mpc false [.i .i64] us] (.tup [iL v0,I d0,Bo false])) (hv:∀(t:Nat) p,t<t0→(j7 g s)[t]?=some p→∃v d,a1A g s us p v d vf):
  d6 Try.prog 49 [net g s, .mpc false [.i .i64] us] (.tup [.agg [.v (.slice none 0 0), .v (.slice none 0 0)],Bo false]):=by
 have hbd:=t9 hnt.gr;obtain⟨N,hnn⟩:∃N:Nat,g.Nodes.toNat=N:=⟨g.Nodes.toNat,rfl⟩;have hn0:0≤g.Nodes:=by omega
 have hit:=a6w g s hnt h12;have hc:=a2H (ntC g (bL s.Feeds) (bL s.Wires));have hcov:=fun k=>R8 (k:=k) hnt;have hlt:=fun p (hp:p∈j7 g s) k (hk:k∈p)=>G4 hp hk;rw[hnn]at hcov hlt;have h12':∀p∈j7 g s,p.length≤12:=h12;generalize j7 g s=L at hit hv hcov hlt h12' hp0;have f0:I9 N 17:=m8 (by omega) (by omega);have f1:I9 g.Feeds.length 17:=m8 (by omega) (by omega);refine d6.of_bodyG Try.func49 rfl (by decide) (by simp[Try.ntmps49]) ?_;intro J hJ;simp only[Try.ntmps49,Try.results49];refine gS fun K hK=>?_;simp -dsimp;apply hK;clear hK K;refine w9 l9 rfl (by decide) rfl rfl fun K hK=>?_;simp -dsimp [hn0,hnn,f0,f1];refine hK _ _ _ (by decide+kernel) ?_;clear hK K;refine b9 fun K1 hK1=>?_;refine gS fun K hK=>?_;simp -dsimp;refine d5 _ (hc) (by simp) ?_;simp -dsimp;apply hK;clear hK K;refine d7 ?_;refine b6 [2,3,4,5,6,32] (Or.inr (by simp)) ?_;simp only[zP,Nat.reduceEqDiff,reduceIte];refine G7 hJ [2,3,4,5,6,32] (fun t=>[some (.els 1 [[net g s]]),some (.els 1 [[.mpc false [.i .i64] us]]),some (.els 2 [[.v (.slice none 0 0), .v (.slice none 0 0)]]),some (.els 1 [[Bo false]]),some (.els 2 ((vlF N vf (L.take t).flatten).map Fr.cells)),some (.els 2 ((flF g s vf 0).map Fr.cells)),some (.els 2 [[.row 4 0 N, .row 5 0 g.Feeds.length]])]) (fun t=>t≤t0) rfl (hit) rfl (by simp) (by decide) (by decide) (by decide) (a2i L) ?_ ?_ ?_ ?_
 ·exact Nat.zero_le _
 ·exact e9 [some 0,some 1,some 2,some 3,some 4,some 5,some 6] rfl (by simp) (by simp[b1n,b0j])
 ·intro n xv hxn hi l1 J1 hJ1;obtain⟨p,hp,rfl⟩:∃p,L[n]?=some p∧pAV p=xv:=by simpa using hxn
  have hpm:=List.mem_of_getElem? hp;have hpl:=o9 p;have hp12:=h12' p hpm;simp only[pAV];simp only[List.zip_cons_cons,List.zip_nil_left,List.zip_nil_right,List.cons_append,List.nil_append];refine gR fun K hK=>?_;simp -dsimp;apply hK;clear hK K;simp only[a6z];intro J2 hJ2;refine b6 [2,3,4,5,6,7,32] (Or.inr (by simp)) ?_;simp only[zP,Nat.reduceEqDiff,reduceIte];refine d7 ?_
  rcases Nat.lt_or_eq_of_le hi with h|h
  rotate_left
  have hpe:p=p0:=by rw[h,hp0]at hp;simpa using hp.symm
  subst hpe
  rotate_left
  obtain⟨v,d,hV⟩:=hv n p h hp;have hcall:=hV.call;have hvl:=hV.len;have hd0:=hV.d0;have hd1:=hV.d1
  rotate_left
  ·refine gS fun K hK=>?_;simp -dsimp;refine d5 _ (hc0') (by simp) ?_;simp -dsimp;apply hK;clear hK K;refine b9 fun K2 hK2=>?_;refine gS fun K hK=>?_;simp -dsimp;apply hK;clear hK K;refine d9 rfl (fun hc0=>?_) (fun hc0=>?_)
   ·refine gS fun K hK=>?_;simp -dsimp;apply hK;clear hK K;exact j6 ⟨[some (.els 1 [[net g s]]),some (.els 1 [[.mpc false [.i .i64] us]]),some (.els 2 [[.v (.slice none 0 0), .v (.slice none 0 0)]]),some (.els 1 [[Bo false]]),some (.els 2 ((vlF N vf (L.take n).flatten).map Fr.cells)),some (.els 2 ((flF g s vf 0).map Fr.cells)),some (.els 2 [[.row 4 0 N, .row 5 0 g.Feeds.length]])],e9 [some 0,some 1,some 2,some 3,some 4,some 5,some 6] rfl (by simp) (by simp),by simp[C2,n6]⟩
   ·simp at hc0
  ·refine gS fun K hK=>?_;simp -dsimp;refine d5 _ (hcall) (by simp) ?_;simp -dsimp;apply hK;clear hK K;refine b9 fun K3 hK3=>?_;refine gS fun K hK=>?_;simp -dsimp;apply hK;clear hK K;refine d9 rfl (fun hc0=>?_) (fun hc0=>?_)
   ·simp at hc0
   ·refine f6 ?_;simp only[zT,reduceIte,Nat.reduceEqDiff];refine hK3 _ _ ?_;refine b6 [2,3,4,5,6,7,8,9,32] (Or.inr (by simp)) ?_;simp only[zP,Nat.reduceEqDiff,reduceIte];refine gS fun K hK=>?_;simp -dsimp;apply hK;clear hK K;refine d7 ?_;refine b6 [2,3,4,5,6,8,9,32,45,46,47] (Or.inr (by simp)) ?_;simp only[zP,Nat.reduceEqDiff,reduceIte];refine g9 [2,3,4,5,6,8,9,32,45,46] (α:=Nat) (fun i=>[(47,I i)]) (fun i=>[some (.els 1 [[net g s]]),some (.els 1 [[.mpc false [.i .i64] us]]),some (.els 2 [[.v (.slice none 0 0), .v (.slice none 0 0)]]),some (.els 1 [[Bo false]]),some (.els 2 ((vlF N vf ((L.take n).flatten++p.take i)).map Fr.cells)),some (.els 2 ((flF g s vf 0).map Fr.cells)),some (.els 2 [[.row 4 0 N, .row 5 0 g.Feeds.length]])]) (fun i=>i≤p.length) (fun i=>p.length-i) 0 ?_ ?_ ?_
    ·exact Nat.zero_le _
    ·exact o1 (e9 [some 0,some 1,some 2,some 3,some 4,some 5,some 6] rfl (by simp) (by simp)) (by simp)
    rintro i i1;simp only[zP,Nat.reduceEqDiff,reduceIte];refine gS fun K hK=>?_;simp -dsimp;apply hK;clear hK K;refine b9 fun K4 hK4=>?_;refine d9 rfl (fun hc1=>?_) (fun hc1=>?_)
    ·have hil:i<p.length:=by rw[←hpl];simpa using hc1
     obtain⟨k,hk⟩:∃k,p[i]?=some k:=⟨_,List.getElem?_eq_getElem hil⟩;have gk:=E9 hk;have gv:=C3 (l:=v) (k:=i) (by omega);have hkN:=hlt p hpm k (List.mem_of_getElem? hk);have wi:=zW i (by omega);have hnb:=hV.nb _ (List.mem_of_getElem? gv);have hfr:=F3 (at0 v (i:Nat)) d hd0 (by omega) (by omega) (by omega);have hfk:=hV.fr i k hk;rw[←hfk]at hfr;have hvls:=a7Y N vf ((L.take n).flatten++p.take i);have gvl:=a5y (vf:=vf) (done:=(L.take n).flatten++p.take i) hkN;have hst:=b3p (n:=N) (vf:=vf) (done:=(L.take n).flatten++p.take i) (k:=k);have hpt:p.take (i+1)=p.take i++[k]:=by rw[List.take_add_one,hk];rfl
     rw[List.append_assoc,←hpt]at hst;generalize vlF N vf ((L.take n).flatten++p.take i)=VL at hvls gvl hst ⊢;refine f6 ?_;simp only[zT,reduceIte,Nat.reduceEqDiff];refine hK4 _ _ ?_;refine b6 [2,3,4,5,6,8,9,32,45,46,47] (Or.inr (by simp)) ?_;simp only[zP,Nat.reduceEqDiff,reduceIte];refine b9 fun K5 hK5=>?_;refine d7 ?_;refine gS fun K hK=>?_;simp -dsimp [gk];apply hK;clear hK K;refine o8 l9 rfl (by decide) rfl rfl fun K hK=>?_;simp -dsimp [gv,hkN,hvls,gvl];refine d5 _ (hfr) (by simp) ?_;simp -dsimp [gv,hkN,hvls,gvl];refine hK _ _ _ (by decide+kernel) ?_;clear hK K;simp only[zT,reduceIte,Nat.reduceEqDiff];refine hK5 _ _ ?_;refine b6 [2,3,4,5,6,8,9,32,45,46,47] (Or.inr (by simp)) ?_;simp only[zP,Nat.reduceEqDiff,reduceIte];refine gR fun K hK=>?_;simp -dsimp [wi];apply hK;clear hK K;simp only[zT,reduceIte,Nat.reduceEqDiff];exact⟨i+1,by omega,by omega,o1 (e9 [some 0,some 1,some 2,some 3,some 4,some 5,some 6] rfl (by simp) (by simp[←hst,List.map_set])) (by simp)⟩
    ·have hil:¬i<p.length:=by rw[←hpl];simpa using hc1
     have hpt:p.take i=p:=List.take_of_length_le (by omega);rw[hpt];refine i6 ?_;simp only[Q8,B9,a1d,reduceIte,Nat.reduceEqDiff,eq_self];have hfl:(L.take (n+1)).flatten=(L.take n).flatten++p:=by rw[List.take_add_one,hp,List.flatten_append];simp
     exact⟨by omega,e9 [some 0,some 1,some 2,some 3,some 4,some 5,some 6] rfl (by simp) (by simp[hfl])⟩
 ·intro hdone;have hlt0:=(List.getElem?_eq_some_iff.1 hp0).1;simp at hdone;omega
abbrev A4 (l:List Ld):List Bool:=List.replicate l.length true
theorem b2K (g:Gr) (s:Sta) (l:List Ld) (hl:l.length≤1000) (hf:t7 g s l=false):d6 Try.prog 18 [g.av,s.av,lL l] (.tup [.v (.slice none 0 0), .v (.slice none 0 0),I 2]):=by
 have hb:=a6p g s l hl hf;refine d6.of_body Try.func18 rfl (by decide) (by simp[Try.ntmps18]) ?_;simp only[Try.ntmps18,Try.results18];refine aS fun K hK=>?_;simp -dsimp;apply hK;clear hK K;refine aS fun K hK=>?_;simp -dsimp;refine d5 _ (hb) (by simp) ?_;simp -dsimp;apply hK;clear hK K;refine b8 fun K1 hK1=>?_;refine e8 ?_;refine aS fun K hK=>?_;simp -dsimp;apply hK;clear hK K;refine d8 rfl (fun hc0=>?_) (fun hc0=>?_)
 ·refine aS fun K hK=>?_;simp -dsimp;apply hK;clear hK K;exact g7 (by simp)
 ·simp at hc0
theorem b1S (g:Gr) (s:Sta) (l:List Ld) (hl:l.length≤1000) (hf:t7 g s l=true) (h12:I7 g s) (hlo:C5 g s=true):d6 Try.prog 18 [g.av,s.av,lL l] (.tup [.v (.slice none 0 0), .v (.slice none 0 0),I 3]):=by
 have hb:=R2 g s l hl hf;have hlg:=X5 g s (u6 hf) h12;rw[hlo]at hlg;refine d6.of_body Try.func18 rfl (by decide) (by simp[Try.ntmps18]) ?_;simp only[Try.ntmps18,Try.results18];refine aS fun K hK=>?_;simp -dsimp;apply hK;clear hK K;refine aS fun K hK=>?_;simp -dsimp;refine d5 _ (hb) (by simp) ?_;simp -dsimp;apply hK;clear hK K;refine b8 fun K1 hK1=>?_;refine e8 ?_;refine aS fun K hK=>?_;simp -dsimp;apply hK;clear hK K;refine d8 rfl (fun hc0=>?_) (fun hc0=>?_)
 ·simp at hc0
 ·refine aS fun K hK=>?_;simp -dsimp;refine d5 _ (hlg) (by simp) ?_;simp -dsimp;apply hK;clear hK K;refine d8 rfl (fun hc1=>?_) (fun hc1=>?_)
  ·refine aS fun K hK=>?_;simp -dsimp;apply hK;clear hK K;exact g7 (by simp)
  ·simp at hc1
theorem b1O (g:Gr) (s:Sta) (l:List Ld) (hl:l.length≤1000) (hf:t7 g s l=true) (h12:I7 g s) (hlo:C5 g s=false) (hs:d6 Try.prog 49 [net g s, .mpc false [.i .i64] (tkK l (A4 l))] (.tup [.agg [.v (.slice none 0 0), .v (.slice none 0 0)],Bo false])):d6 Try.prog 18 [g.av,s.av,lL l] (.tup [.v (.slice none 0 0), .v (.slice none 0 0),I 4]):=by
 have hb:=R2 g s l hl hf;have hlg:=X5 g s (u6 hf) h12;have htk:=a1Y l hl;rw[hlo]at hlg;generalize tkK l (A4 l)=us at hs htk;refine d6.of_body Try.func18 rfl (by decide) (by simp[Try.ntmps18]) ?_;simp only[Try.ntmps18,Try.results18];refine aS fun K hK=>?_;simp -dsimp;apply hK;clear hK K;refine aS fun K hK=>?_;simp -dsimp;refine d5 _ (hb) (by simp) ?_;simp -dsimp;apply hK;clear hK K;refine b8 fun K1 hK1=>?_;refine e8 ?_;refine aS fun K hK=>?_;simp -dsimp;apply hK;clear hK K;refine d8 rfl (fun hc0=>?_) (fun hc0=>?_)
 ·simp at hc0
 ·refine aS fun K hK=>?_;simp -dsimp;refine d5 _ (hlg) (by simp) ?_;simp -dsimp;apply hK;clear hK K;refine d8 rfl (fun hc1=>?_) (fun hc1=>?_)
  ·simp at hc1
  ·refine f5 ?_;simp only[zT,reduceIte,Nat.reduceEqDiff];refine hK1 _ _ ?_;refine b7 [2,9] ?_;simp only[zP,Nat.reduceEqDiff,reduceIte];refine aS fun K hK=>?_;simp -dsimp;refine d5 _ (htk) (by simp) ?_;simp -dsimp;refine d5 _ (hs) (by simp) ?_;simp -dsimp;apply hK;clear hK K;refine b8 fun K2 hK2=>?_;refine aS fun K hK=>?_;simp -dsimp;apply hK;clear hK K;refine d8 rfl (fun hc2=>?_) (fun hc2=>?_)
   ·refine aS fun K hK=>?_;simp -dsimp;apply hK;clear hK K;exact g7 (by simp)
   ·simp at hc2
end Go.Cur
end
section
namespace Go.Cur
open Go.AM Go.Proofs
theorem E5 {g:Gr} {s:Sta} {p:List Nat} (hp:p∈j7 g s):∃i,i∈W9 (a7E g s) g.Nodes.toNat∧p=cp (a7E g s) g.Nodes.toNat i:=by
 obtain⟨i,hi,rfl⟩:=List.mem_map.1 hp;exact⟨i,hi,rfl⟩
theorem P0 {g:Gr} {s:Sta} {p:List Nat} (hnt:o7 g s) (hp:p∈j7 g s) (h10:p.length≤10):b6E g s p:=by
 obtain⟨i,hi,rfl⟩:=E5 hp;refine⟨List.length_pos_of_mem (a4I hi),h10,I8,fun w hw=>?_⟩;have he:w.e∈a7E g s:=List.mem_map.2 ⟨w,hw,rfl⟩;have h1:=a2a hnt _ he;have h2:=b4w (a2a hnt) he;simp only[E4];unfold Wn.e at h1 h2;simp only at h1 h2;rw[h2];exact⟨fun h=>⟨h1.2,h.2⟩,fun h=>⟨h1.1,h.2⟩⟩
theorem a2f {g:Gr} {s:Sta} {us:Kvs} {p:List Nat} {fs:List Int} (hnt:o7 g s) (hp:p∈j7 g s) (hfs:fs=k8 g s (upN p)):(Pt g (onW g.Wires s.Wires) us p fs fs.length).Ok:=by
 obtain⟨i,hi,e⟩:=E5 hp;have h:=c0e (W:=onW g.Wires s.Wires) (n:=g.Nodes.toNat) (i:=i) (u:=fun x=>igt us x) (fs:=List.range fs.length) (p:=fun b=>(a0Z g fs b).At.toNat) (s:=fun b=>(a0Z g fs b).Siem) (V:=fun b=>(a0Z g fs b).Volts) (b2Q hnt)
  (fun b hb=>by have:=(C9 hnt hfs (List.mem_range.1 hb)).2.2.2.2.2.1;rw[e]at this;exact this)
  (fun b hb=>by have:=(C9 hnt hfs (List.mem_range.1 hb));show 0<(fdI g (at0 fs b)).Siem;omega)
 unfold prt at h;unfold Pt;rw[e];exact h
theorem a9D {g:Gr}:∀k,k≤g.Wires.length→a7D g k=true→∀x,deg (g.Wires.take k) x≤3
 |0,_,_,x=>by simp[deg]
 | k+1,hk,h,x=>by
  simp only[a7D,Bool.and_eq_true]at h;have ih:=a9D k (by omega) h.1 x;obtain⟨w,hw⟩:∃w,g.Wires[k]?=some w:=⟨_,List.getElem?_eq_getElem (by omega)⟩;have h2:=h.2;rw[hw]at h2;simp only[wrD,Bool.and_eq_true,decide_eq_true_eq]at h2;have e:g.Wires.take (k+1)=g.Wires.take k++[w]:=by rw[List.take_add_one,hw];rfl
  by_cases ha:w.A=x
  ·rw[←ha];exact h2.2.1
  ·by_cases hb:w.B=x
   ·rw[←hb];exact h2.2.2
   ·rw[e,S8];simp only[deg,if_neg ha,if_neg hb];omega
theorem b7p {g:Gr} (h:grB g=true) (x:Int):deg g.Wires x≤3:=by
 simp only[grB,Bool.and_eq_true]at h;have:=a9D g.Wires.length (Nat.le_refl _) h.1.2 x
 rwa [List.take_length]at this
theorem b6Y {i:Nat}:∀{l:List Wr} {b:List Bool},(∀w∈l,0≤w.A∧0≤w.B)→(dg (onW l b) i:Int)≤deg l i
 |[],b,_=>by simp[onW,dg,deg]
 |w::l,[],h=>by
  have:=a6a (i:Int) (w::l);simp only[onW,List.zip_nil_right,List.filterMap_nil,dg,List.filter_nil,List.length_nil];omega
 | w::l,c::b,h=>by
  have ih:=b6Y (i:=i) (l:=l) (b:=b) fun w hw=>h w (by simp[hw]);have hw:=h w (by simp);have e:onW (w::l) (c::b)=(if c=true then [⟨w.A.toNat,w.B.toNat,w.Siem⟩]else [])++onW l b:=by
   cases c<;>simp[onW]
  rw[e];simp only[deg];unfold dg at ih ⊢;rw[List.filter_append,List.length_append];have h1:(((if c=true then [(⟨w.A.toNat,w.B.toNat,w.Siem⟩:Wn)]else []).filter fun w=>decide (w.a=i)||decide (w.b=i)).length:Int)≤(if w.A=(i:Int)then 1 else 0)+(if w.B=(i:Int)then 1 else 0):=by
   cases c
   ·simp only[Bool.false_eq_true,if_false,List.filter_nil,List.length_nil]
    split<;>split<;>omega
   ·simp only[if_true,List.filter_cons,List.filter_nil];have ha:decide (w.A.toNat=i)=decide (w.A=(i:Int)):=decide_eq_decide.2 (by omega);have hb:decide (w.B.toNat=i)=decide (w.B=(i:Int)):=decide_eq_decide.2 (by omega);rw[ha,hb]
    by_cases h1:w.A=(i:Int)<;>by_cases h2:w.B=(i:Int)<;>simp[h1,h2]
  omega
theorem c0l {g:Gr} {s:Sta} (hnt:o7 g s) (i:Nat):0≤lw (onW g.Wires s.Wires) i i∧lw (onW g.Wires s.Wires) i i≤12:=by
 have hw:=hnt.wires;have h1:=b3D (i:=i) (b2Q hnt) fun w hw'=>by
  obtain⟨w0,h0,rfl⟩:=V6 hw';have:=hw w0 h0;simp only[wrB,Bool.and_eq_true,t4]at this;exact this.2.2
 have h2:=b6Y (i:=i) (l:=g.Wires) (b:=s.Wires) fun w hw'=>by
  have:=hw w hw';simp only[wrB,Bool.and_eq_true,t4]at this;omega
 have h3:=b7p hnt.gr (i:Int);omega
theorem b6O {f:Nat→Nat} {g:Nat→Nat}:∀{l:List Nat},sa f (l.map g)=sa (fun i=>f (g i)) l
 |[]=>rfl
 |i::l=>by rw[List.map_cons,sa,sa,b6O]
theorem b1t (f:Nat→Nat) (p:List Nat):sa (fun j=>f (p.getD j 0)) (List.range p.length)=sa f p:=by
 conv=>rhs;rw[M2 (p:=p)]
 rw[b6O]
theorem a4v {p:List Nat} {i:Nat} (h:i<p.length):p.getD i 0∈p:=List.mem_of_getElem? (T7 h)
theorem c2P {A:Nat→Nat→Int} {p:List Nat} {R:Nat} (h:∀i∈p,sa (fun k=>(A i k).natAbs) p≤R):(D A p).natAbs≤R^p.length:=by
 rw[b2X];have:=a2A (a:=fun i k=>A (p.getD i 0) (p.getD k 0)) (R:=R) (rows:=List.range p.length) (cols:=List.range p.length) fun i hi=>by
  have:=b1t (fun k=>(A (p.getD i 0) k).natAbs) p;rw[this];exact h _ (a4v (List.mem_range.1 hi))
 rwa [List.length_range]at this
theorem b1N {A:Nat→Nat→Int} {b:Nat→Int} {p:List Nat} {R B:Nat} (hp:p.Nodup) (h:∀i∈p,sa (fun k=>(A i k).natAbs) p≤R) (hB:∀i∈p,(b i).natAbs≤B) (k:Nat):(num A b p k).natAbs≤R^p.length+bnd R B p.length:=by
 by_cases hk:k∈p
 ·obtain⟨j,hj⟩:=List.getElem?_of_mem hk;have hjl:=(List.getElem?_eq_some_iff.1 hj).1;have e:p.getD j 0=k:=by rw[List.getD_eq_getElem?_getD,hj];rfl
  rw [←e,a6M hp hjl];have:=a3E (a:=fun i c=>if c=j then b (p.getD i 0)else A (p.getD i 0) (p.getD c 0)) (R:=R) (B:=B) (k0:=j) (rows:=List.range p.length) (cols:=List.range p.length) List.nodup_range (List.mem_range.2 hjl)
   (fun i hi=>by simp only[if_true];exact hB _ (a4v (List.mem_range.1 hi))) (fun i hi=>by
    refine Nat.le_trans (a5p (g:=fun c=>(A (p.getD i 0) (p.getD c 0)).natAbs) fun c hc=>?_) ?_
    ·split
     ·exact Nat.zero_le _
     ·exact Nat.le_refl _
    ·have:=b1t (fun k=>(A (p.getD i 0) k).natAbs) p;rw[this];exact h _ (a4v (List.mem_range.1 hi)))
  rw[List.length_range]at this;omega
 ·have e:num A b p k=D A p:=by
   unfold num D
   congr 1
   exact List.map_congr_left fun j hj=>by
    funext i
    rw[if_neg];rintro rfl;exact hk hj
  rw[e];have:=c2P h;omega
theorem a8P (R:Nat):∀n,bnd R 0 n=0
 |0=>rfl
 |n+1=>by rw[bnd,a8P R n];simp
theorem a9f {R B:Nat} (hR:1≤R):∀{n m:Nat},n≤m→bnd R B n≤bnd R B m:=by
 intro n m h
 induction m with
 |zero=>rw[Nat.le_zero.1 h];exact Nat.le_refl _
 |succ m ih=>
  rcases Nat.lt_or_ge n (m+1)with h1|h1
  ·refine Nat.le_trans (ih (by omega)) ?_;rw[bnd];have:=Nat.mul_le_mul_right (bnd R B m) hR;omega
  ·rw[show n=m+1 by omega];exact Nat.le_refl _
theorem a7j {f:Nat→Nat} {i X:Nat}:∀{p:List Nat},p.Nodup→sa (fun k=>f k+if i=k then X else 0) p≤sa f p+X
 |[],_=>by simp[sa]
 | k::p,h=>by
  rw[List.nodup_cons]at h;have ih:=a7j (f:=f) (i:=i) (X:=X) h.2;rw[sa,sa]
  by_cases e:i=k
  ·have:sa (fun k=>f k+if i=k then X else 0) p≤sa f p:=a5p fun j hj=>by
    rw[if_neg]; · omega
    rintro rfl;exact h.1 (e▸hj)
   rw[if_pos e];omega
  ·rw[if_neg e];omega
section
variable {g:Gr} {s:Sta} {us:Kvs} {p:List Nat} {fs:List Int}
theorem c1t (hnt:o7 g s) (hp:p∈j7 g s) (hfs:fs=k8 g s (upN p)) {i:Nat} (hi:i∈p):sa (fun k=>(lw (onW g.Wires s.Wires) i k).natAbs) p≤24:=by
 have h:=b9K (a2f (us:=[]) hnt hp hfs) (i:=i) hi (c0l hnt i).1;have h2:=(c0l hnt i).2;change ((sa (fun k=>(lw (onW g.Wires s.Wires) i k).natAbs) p:Nat):Int)=2*lw (onW g.Wires s.Wires) i i at h;omega
theorem a9R (hnt:o7 g s) (hfs:fs=k8 g s (upN p)):fs.length≤12:=by
 have hb:=t9 hnt.gr;have:=List.length_filter_le (a3e g s (upN p)) (upI g.Feeds.length);rw[M9]at this;rw[hfs];unfold k8;omega
theorem a5N (hnt:o7 g s) (hp:p∈j7 g s) (h5:p.length≤5) (hfs:fs=k8 g s (upN p)) (hus:∀x,-40≤igt us x∧igt us x≤40) (S:Nat→Bool) (hS:∃b,b<fs.length∧S b=true):
  (∀k,((Pt g (onW g.Wires s.Wires) us p fs fs.length).num S k).natAbs≤7000000000000)∧0<(Pt g (onW g.Wires s.Wires) us p fs fs.length).den S∧(Pt g (onW g.Wires s.Wires) us p fs fs.length).den S≤2000000000:=by
 have ho:=a2f (us:=us) hnt hp hfs;have hf12:=a9R (p:=p) hnt hfs;have hat:∀{c:Nat→Int} {C:Int} {i:Nat},0≤C→(∀b,b<fs.length→0≤c b∧c b≤C)→0≤(Pt g (onW g.Wires s.Wires) us p fs fs.length).at_ S c i∧(Pt g (onW g.Wires s.Wires) us p fs fs.length).at_ S c i≤C*12:=by
  intro c C i hC h;have h1:=b9J (P:=Pt g (onW g.Wires s.Wires) us p fs fs.length) (S:=S) (c:=c) (i:=i) hC fun b hb=>h b (List.mem_range.1 hb);have h2:(Pt g (onW g.Wires s.Wires) us p fs fs.length).fs.length=fs.length:=List.length_range;rw[h2]at h1;exact⟨h1.1,Int.le_trans h1.2 (Int.mul_le_mul_of_nonneg_left (by omega) hC)⟩
 have hfa:=fun b (hb:b<fs.length)=>C9 hnt hfs hb;have hR:∀i∈p,sa (fun k=>((Pt g (onW g.Wires s.Wires) us p fs fs.length).A S i k).natAbs) p≤72:=by
  intro i hi;have h1:=c1t hnt hp hfs hi;have h2:=hat (c:=(Pt g (onW g.Wires s.Wires) us p fs fs.length).s) (C:=4) (i:=i) (by omega) fun b hb=>by
   have:=hfa b hb;show 0≤(fdI g (at0 fs b)).Siem∧(fdI g (at0 fs b)).Siem≤4;omega
  have h3:=a7j (f:=fun k=>(lw (onW g.Wires s.Wires) i k).natAbs) (i:=i) (X:=((Pt g (onW g.Wires s.Wires) us p fs fs.length).at_ S (Pt g (onW g.Wires s.Wires) us p fs fs.length).s i).natAbs) ho.nd;refine Nat.le_trans (a5p fun k _=>?_) (Nat.le_trans h3 ?_)
  ·unfold o5.A;show(lw (onW g.Wires s.Wires) i k+_).natAbs≤_
   split<;>omega
  ·show sa (fun k=>(lw (onW g.Wires s.Wires) i k).natAbs) p+_≤72;omega
 have hB:∀i∈p,((Pt g (onW g.Wires s.Wires) us p fs fs.length).b S i).natAbs≤48040:=by
  intro i hi;have h2:=hat (c:=fun b=>(Pt g (onW g.Wires s.Wires) us p fs fs.length).s b*(Pt g (onW g.Wires s.Wires) us p fs fs.length).V b) (C:=4000) (i:=i) (by omega) fun b hb=>by
   have h:=hfa b hb;show 0≤(fdI g (at0 fs b)).Siem*(fdI g (at0 fs b)).Volts∧(fdI g (at0 fs b)).Siem*(fdI g (at0 fs b)).Volts≤4000;exact⟨Int.mul_nonneg (by omega) (by omega),Int.mul_le_mul h.2.2.2.2.2.2.2.2.2 h.2.2.2.2.2.2.2.1 (by omega) (by omega)⟩
  have h3:=hus i;unfold o5.b;show(-igt us i+_).natAbs≤48040;omega
 have hpw:72^p.length≤72^5:=Nat.pow_le_pow_right (by omega) h5;have hbn:bnd 72 48040 p.length≤bnd 72 48040 5:=a9f (by omega) h5;have e5:bnd 72 48040 5≤6500000000000:=by decide
 have hpos:=a0p ho (S:=S) (by obtain⟨b,hb,h⟩:=hS;exact⟨b,List.mem_range.2 hb,h⟩);refine⟨fun k=>?_,hpos,?_⟩
 ·have:=b1N (b:=(Pt g (onW g.Wires s.Wires) us p fs fs.length).b S) ho.nd hR hB k;change ((Pt g (onW g.Wires s.Wires) us p fs fs.length).num S k).natAbs≤_ at this;change _≤72^p.length+bnd 72 48040 p.length at this;omega
 ·have:=c2P hR;change ((Pt g (onW g.Wires s.Wires) us p fs fs.length).den S).natAbs≤_ at this;omega
theorem a9P (hnt:o7 g s) (hp:p∈j7 g s) (h5:p.length≤5) (hfs:fs=k8 g s (upN p)) (hus:∀x,-40≤igt us x∧igt us x≤40) (S:Nat→Bool) (hS:∃b,b<fs.length∧S b=true):Sml (Pt g (onW g.Wires s.Wires) us p fs fs.length) S:=by
 obtain⟨a,b,c⟩:=a5N (us:=us) hnt hp h5 hfs hus S hS;exact⟨fun k=>by have:=a k;omega,b,by omega⟩
theorem a3J (hnt:o7 g s) (hp:p∈j7 g s) (h5:p.length≤5∨(p.length≤10∧∀x,igt us x=0)) (hfs:fs=k8 g s (upN p)) (hus:∀x,-40≤igt us x∧igt us x≤40) (i0:Nat) (hi0:p.getD 0 0=i0):
  c1U (Pt g (onW g.Wires s.Wires) us p fs fs.length) i0∧(p.length≤5→(∀k,((Pt g (onW g.Wires s.Wires) us p fs fs.length).num0 i0 k).natAbs≤1000000000)∧(Pt g (onW g.Wires s.Wires) us p fs fs.length).den0 i0≤10000000):=by
 have ho:=a2f (us:=us) hnt hp hfs;have hR:∀i∈p,sa (fun k=>((Pt g (onW g.Wires s.Wires) us p fs fs.length).A0 i0 i k).natAbs) p≤24:=by
  intro i hi;unfold o5.A0
  by_cases h:i=i0
  ·simp only[if_pos h];have h3:=a7j (f:=fun _=>0) (i:=i0) (X:=1) ho.nd;have h4:sa (fun _=>0) (Pt g (onW g.Wires s.Wires) us p fs fs.length).ns=0:=by
    generalize (Pt g (onW g.Wires s.Wires) us p fs fs.length).ns=l
    induction l with
    |nil=>rfl
    |cons x l ih=>rw[sa,ih]
   refine Nat.le_trans (a5p fun k _=>?_) (Nat.le_trans h3 (by omega))
   by_cases hk:k=i0
   ·subst hk;simp
   ·rw[if_neg hk,if_neg (fun e=>hk e.symm)];exact Nat.zero_le _
  ·simp only[if_neg h];exact c1t hnt hp hfs hi
 obtain⟨tl,hn⟩:∃tl,(Pt g (onW g.Wires s.Wires) us p fs fs.length).ns=i0::tl:=by
  have h1:p≠[]:=by
   obtain⟨i,hi,e⟩:=E5 hp;rw[e];exact List.ne_nil_of_mem (a4I hi)
  show∃tl,p=i0::tl
  cases p with
  |nil=>exact absurd rfl h1
  |cons a tl=>exact⟨tl,by rw[←hi0];rfl⟩
 have hpos:=b0g ho hn;have hD:=c2P hR;change ((Pt g (onW g.Wires s.Wires) us p fs fs.length).den0 i0).natAbs≤_ at hD
 by_cases h5':p.length≤5
 ·have hB:∀i∈p,((Pt g (onW g.Wires s.Wires) us p fs fs.length).b0 i0 i).natAbs≤40:=by
   intro i hi;unfold o5.b0;have:=hus i;show(if i=i0 then 0 else-igt us i).natAbs≤40
   split<;>omega
  have hpw:24^p.length≤24^5:=Nat.pow_le_pow_right (by omega) h5';have hbn:bnd 24 40 p.length≤bnd 24 40 5:=a9f (by omega) h5';have e5:bnd 24 40 5≤900000000:=by decide
  have hk:∀k,((Pt g (onW g.Wires s.Wires) us p fs fs.length).num0 i0 k).natAbs≤1000000000:=fun k=>by
   have:=b1N (b:=(Pt g (onW g.Wires s.Wires) us p fs fs.length).b0 i0) ho.nd hR hB k;change ((Pt g (onW g.Wires s.Wires) us p fs fs.length).num0 i0 k).natAbs≤_ at this;change _≤24^p.length+bnd 24 40 p.length at this;omega
  exact⟨⟨fun k=>by have:=hk k;omega,hpos,by omega⟩,fun _=>⟨hk,by omega⟩⟩
 ·obtain⟨h10,hz⟩:=h5.resolve_left h5';have hB:∀i∈p,((Pt g (onW g.Wires s.Wires) us p fs fs.length).b0 i0 i).natAbs≤0:=by
   intro i hi;unfold o5.b0;have:=hz i;show(if i=i0 then 0 else-igt us i).natAbs≤0
   split<;>omega
  have hpw:24^p.length≤24^10:=Nat.pow_le_pow_right (by omega) h10;refine⟨⟨fun k=>?_,hpos,by omega⟩,fun h=>absurd h h5'⟩;have:=b1N (b:=(Pt g (onW g.Wires s.Wires) us p fs fs.length).b0 i0) ho.nd hR hB k;change ((Pt g (onW g.Wires s.Wires) us p fs fs.length).num0 i0 k).natAbs≤_ at this;change _≤24^p.length+bnd 24 0 p.length at this;rw[a8P]at this;omega
theorem a5S (hnt:o7 g s) (hp:p∈j7 g s) (h5:p.length≤5∨(p.length≤10∧∀x,igt us x=0)) (hfs:fs=k8 g s (upN p)) (hus:∀x,-40≤igt us x∧igt us x≤40) (i0:Nat) (hi0:p.getD 0 0=i0):c1U (Pt g (onW g.Wires s.Wires) us p fs fs.length) i0:=(a3J hnt hp h5 hfs hus i0 hi0).1
theorem b0V (hnt:o7 g s) (hp:p∈j7 g s) (h5:p.length≤5) (hfs:fs=k8 g s (upN p)) (hus:∀x,-40≤igt us x∧igt us x≤40) (i0:Nat) (hi0:p.getD 0 0=i0):
  (∀k,((Pt g (onW g.Wires s.Wires) us p fs fs.length).num0 i0 k).natAbs≤1000000000)∧0<(Pt g (onW g.Wires s.Wires) us p fs fs.length).den0 i0∧(Pt g (onW g.Wires s.Wires) us p fs fs.length).den0 i0≤10000000:=by
 obtain⟨h1,h2⟩:=a3J (us:=us) hnt hp (Or.inl h5) hfs hus i0 hi0;exact⟨(h2 h5).1,h1.2.1,(h2 h5).2⟩
end
end Go.Cur
end
section
namespace Go.AM
theorem a2b {B S0:Nat→Prop} {nt:Nat} {w:World} {ρ:Nat→Option Loc} {L:Nat→Prop} {T T':Tm} {H H':Hp} {a:Act} (g:List (Option Nat)) (hn:∀(i j q:Nat),g[i]?=some (some q)→g[j]?=some (some q)→i=j) (hT:a1s H g T T') (hH:a0H H g=H') (hc:M5 B S0 nt w ρ L (l6 T) (m6 H) a):
  M5 B S0 nt w (m5 ρ g) (fun r=>r<g.length) (l6 T') (m6 H') a:=by
 subst hH;have hren:=b0d (g:=g) (H:=m6 H) hc.wf (fun r row hr=>hc.rows r row hr);refine⟨⟨?_,?_,?_,hc.wf.low,hc.wf.new⟩,hc.size,hc.defers,?_,?_,?_⟩
 ·intro r r' l l' b h1 h2 k1 k2;obtain⟨q,g1,p1⟩:=i7 h1;obtain⟨q',g2,p2⟩:=i7 h2;have:=hc.wf.inj q q' l l' b p1 p2 k1 k2;subst this;exact hn _ _ _ g1 g2
 ·intro r l b h1 k1;obtain⟨q,g1,p1⟩:=i7 h1;exact hc.wf.own q l b p1 k1
 ·intro r l h1;obtain⟨q,g1,p1⟩:=i7 h1;exact(List.getElem?_eq_some_iff.1 g1).1
 ·intro t;have gen:∀(T':Tm),a1s H g T T'→k7 w (Sx S0 (m5 ρ g)) (m5 ρ g) (fun r=>r<g.length) (l6 T' t) (a.tmps.getD t undef):=by
   intro T'
   induction T' with
   |nil=>intro _;exact .pure _ _ (.any _)
   | cons p T' ih=>
    obtain⟨i,x⟩:=p;rintro⟨h1,h2⟩;simp only[l6]
    split
    ·rename_i e;subst e
     rcases h1 with rfl|rfl
     ·exact .pure _ _ (.any _)
     ·exact hren 3 _ _ (hc.tmps t)
    ·exact ih h2
  exact gen T' hT
 ·intro r row hr;simp only[a0H,A6]at hr
  split at hr
  ·rename_i q hq
   split at hr
   ·rename_i q';simp only[Option.map_eq_some_iff]at hr;obtain⟨row0,h0,rfl⟩:=hr;obtain⟨l,hl,hrow⟩:=hc.rows q' row0 h0;refine⟨l,by simp only[m5,hq];exact hl,?_⟩
    cases row0 with
    |map kvs=>exact hrow
    | itr ag kts left cur=>
     obtain⟨b,h1,h0,h2⟩:=hrow;exact⟨b,h1,h0,h2.same rfl (Nat.le_refl _) (fun b _ hn=>⟨rfl,fun k=>hn (by
      rcases k with h|⟨r,l,h1,h2⟩
      ·exact Or.inl h
      ·obtain⟨q,_,h3⟩:=i7 h1;exact Or.inr ⟨q,l,h3,h2⟩)⟩)⟩
    |els sz es=>
     obtain⟨h1,h2,h3,h4⟩:=hrow;refine⟨h1,?_,fun hb=>by rw[h3 hb];rfl,fun b hb=>?_⟩
     ·intro e he;simp only[List.mem_map]at he;obtain⟨e',he',rfl⟩:=he;simpa using h2 e' he'
     ·obtain⟨c,t,k1,k2,k3,k4⟩:=h4 b hb;refine⟨c,t,k1,k2,by simpa using k3,fun i av hi=>?_⟩;rw[←List.map_flatten]at hi;simp only[List.getElem?_map,Option.map_eq_some_iff]at hi;obtain⟨av0,hi,rfl⟩:=hi;obtain⟨x,p1,p2,p3⟩:=k4 i av0 hi;exact⟨x,p1,p2,hren 3 _ _ p3⟩
   ·cases hr
  ·cases hr
 ·intro r hr;simp only[a0H,A6]at hr;simp only[m5]
  split
  ·rename_i q hq;rw[hq]at hr;simp only[Option.map_eq_none_iff]at hr;exact hc.dead q hr
  ·rfl
def b2b (gs:List Nat) (n:Nat):List (Option Nat):=(List.range n).map fun r=>if gs.contains r then none else some r
theorem b5x (gs:List Nat) (n r:Nat):(b2b gs n)[r]?=if r<n then some (if gs.contains r then none else some r)else none:=by
 unfold b2b;rw[List.getElem?_map]
 by_cases h:r<n
 ·rw[if_pos h,List.getElem?_range h];rfl
 ·rw[if_neg h,List.getElem?_eq_none (by simpa using h)];rfl
def bkN (gs:List Nat) (i:Nat):Nat:=gs.getD i 0
def b1j (gs:List Nat):AV→AV
 | .v x=> .v x
 | .row i k n=>if i<gs.length then .row (bkN gs i) k n else .any
 | .ptr i k o=>if i<gs.length then .ptr (bkN gs i) k o else .any
 | .mp i=>if i<gs.length then .mp (bkN gs i)else .any
 |_=> .any
def b4s (gs:List Nat):l7→l7
 | .els sz es=> .els sz (es.map fun e=>e.map (b1j gs))
 | .map ag kts kvs=> .map ag kts kvs
 | .itr ag kts left cur=> .itr ag kts left cur
def a4W (gs us kp:List Nat) (n:Nat) (T T':Tm):Tm:=us.map (fun t=>(t,b1j gs (l6 T' t)))++kp.map (fun t=>(t,m9 (b2b gs n) 40 (l6 T t)))
def a8l (gs:List Nat) (H H':Hp):Hp:=(List.range H.length).map fun r=>match gs.findIdx? (· ==r)with
 |some i=>(m6 H' i).map (b4s gs)
 |none=>(m6 H r).map (v7 (b2b gs H.length))
def a7G (B:Nat→Prop) (S0:Nat→Prop) (w:World) (m:Nat→Prop):Jt:={rel:=fun _ S' O w'=>S'=S0∧Ext B w w'∧∀b,O b→B b,mark:=m}
theorem a4C {B S0:Nat→Prop} {w:World} {m:Nat→Prop} (hB:∀b,w.heap.size≤b→B b):JOk (a7G B S0 w m):=by
 rintro y S' O O' A A' ⟨rfl,h1,h2⟩ _ _ he ho;refine⟨rfl,h1.trans (he.mono fun b _ hb=>h2 b hb),fun b hb=>?_⟩
 rcases(ho b hb).2 with h|h
 ·exact h2 b h
 ·exact hB b (Nat.le_trans h1.size h)
def bkρ (gs:List Nat) (ρ ρ1:Nat→Option Loc) (r:Nat):Option Loc:=match gs.findIdx? (· ==r)with|some i=>ρ1 i|none=>ρ r
theorem c1o {gs:List Nat} (hn:gs.Nodup) {i:Nat} (hi:i<gs.length):gs.findIdx? (· ==bkN gs i)=some i:=by
 rw[List.findIdx?_eq_some_iff_getElem];refine⟨hi,by simp[bkN,hi],fun j hj=>?_⟩;simp only[bkN,List.getD_eq_getElem?_getD,List.getElem?_eq_getElem hi,Option.getD_some,beq_iff_eq];intro e;have:=(List.getElem?_inj (Nat.lt_trans hj hi) hn).1 (show gs[j]?=gs[i]? by rw[List.getElem?_eq_getElem hi,List.getElem?_eq_getElem (Nat.lt_trans hj hi),e]);omega
theorem a8E {gs:List Nat} {r i:Nat} (h:gs.findIdx? (· ==r)=some i):i<gs.length∧gs[i]?=some r:=by
 rw[List.findIdx?_eq_some_iff_getElem]at h;obtain⟨h1,h2,_⟩:=h;exact⟨h1,by rw[List.getElem?_eq_getElem h1];simpa using h2⟩
theorem b1D {gs:List Nat} {r:Nat} (h:gs.findIdx? (· ==r)=none):r∉gs:=by
 rw[List.findIdx?_eq_none_iff]at h;intro hr;simpa using h r hr
theorem b3V {w:World} {S0:Nat→Prop} {ρ ρ1:Nat→Option Loc} {L1 L:Nat→Prop} {S1 S:Nat→Prop} {gs:List Nat} (hn:gs.Nodup) (hL:∀r∈gs,L r) {x:AV} {y:Value} (h:k7 w S1 ρ1 L1 x y):k7 w S (bkρ gs ρ ρ1) L (b1j gs x) y:=by
 have nm:∀{i:Nat},i<gs.length→L (bkN gs i)∧bkρ gs ρ ρ1 (bkN gs i)=ρ1 i:=by
  intro i hi;refine⟨hL _ (by simp[bkN,hi]),?_⟩;unfold bkρ;rw[c1o hn hi]
 cases x with
 |v c=>rw[m7 h];exact .pure _ _ (.v _)
 | row i k n=>
  simp only[b1j]
  split
  ·rename_i hi
   cases h with
   |pure _ _ h=>cases h
   |row _ _ _ _ h1 h2 h3=>exact .row _ _ _ _ (nm hi).1 h2 (fun l hl=>h3 l ((nm hi).2▸hl))
  ·exact .pure _ _ (.any _)
 | ptr i k n=>
  simp only[b1j]
  split
  ·rename_i hi
   cases h with
   |pure _ _ h=>cases h
   |ptr _ _ _ _ h1 h2 h3=>exact .ptr _ _ _ _ (nm hi).1 h2 (fun l hl=>h3 l ((nm hi).2▸hl))
  ·exact .pure _ _ (.any _)
 | mp i=>
  simp only[b1j]
  split
  ·rename_i hi
   cases h with
   |pure _ _ h=>cases h
   |mp _ _ h1 h2 h3=>exact .mp _ _ (nm hi).1 h2 (fun l hl=>h3 l ((nm hi).2▸hl))
  ·exact .pure _ _ (.any _)
 |_=>exact .pure _ _ (.any _)
def a7K:Hp→Bool
 |[]=>true
 |some (.itr _ _ _ _)::_=>false
 |_::H=>a7K H
theorem a0K:∀{H:Hp},a7K H=true→∀(r:Nat) ag kts left cur,m6 H r≠some (.itr ag kts left cur)
 |[],_,r,_,_,_,_=>by cases r<;>simp[m6]
 |x::H,h,0,_,_,_,_=>by
  intro e;simp only[m6]at e;subst e;simp[a7K]at h
 | x::H,h,r+1,ag,kts,left,cur=>by
  simp only[m6];refine a0K (H:=H) ?_ r ag kts left cur
  cases x with
  |none=>exact h
  |some row=>cases row with
   |itr=>simp[a7K]at h
   |_=>exact h
theorem b2l {J:Jt} (hJ:JOk J) {nt:Nat} {kp0:List Nat} {kv:Nat→Value} {T:Tm} {H:Hp} {a:Act} {w:World} (hs:SG J nt kp0 kv T H a w) (gs us kp:List Nat) (Tf:Tm) (Hf:Hp) (hlt:∀r∈gs,r<H.length) (hnd:gs.Nodup) (hT:a1s H (gs.map some) T Tf) (hH:a0H H (gs.map some)=Hf)
  (hkk:∀t∈kp0,t∈kp):∃J1,JOk J1∧SG J1 nt kp (fun t=>a.tmps.getD t undef) Tf Hf a w∧
   ∀T' H' a' w',a7K H'=true→SG J1 nt kp (fun t=>a.tmps.getD t undef) T' H' a' w'→l6 (a4W gs us kp H.length T T') 999999=l6 T 999999→SG J nt kp0 kv (a4W gs us kp H.length T T') (a8l gs H H') a' w':=by
 obtain⟨⟨S0,ρ,L,hc,hL,hj,hm⟩,hk⟩:=hs;have hgi:∀(i j q:Nat),(gs.map some)[i]?=some (some q)→(gs.map some)[j]?=some (some q)→i=j:=by
  intro i j q h1 h2;simp only[List.getElem?_map,Option.map_eq_some_iff,Option.some.injEq]at h1 h2;obtain⟨_,h1,rfl⟩:=h1;obtain⟨_,h2,rfl⟩:=h2;exact(List.getElem?_inj (List.getElem?_eq_some_iff.1 h1).1 hnd).1 (h1.trans h2.symm)
 have hf:=a2b (gs.map some) hgi hT hH hc
 let B1:Nat→Prop:=fun b=>own (m5 ρ (gs.map some)) b∨w.heap.size≤b
 have hrg:∀{r:Nat} {l:Loc},m5 ρ (gs.map some) r=some l→∃q∈gs,ρ q=some l:=by
  intro r l h;obtain⟨q,h1,h2⟩:=i7 h;simp only[List.getElem?_map,Option.map_eq_some_iff,Option.some.injEq]at h1;obtain⟨_,h1,rfl⟩:=h1;exact⟨_,List.mem_of_getElem? h1,h2⟩
 have hJ1:JOk (a7G B1 S0 w J.mark):=a4C fun b h=>Or.inr h;refine⟨a7G B1 S0 w J.mark,hJ1,?_,?_⟩
 ·subst hH;obtain⟨Ds,q1,q2,q3⟩:=hm;exact⟨⟨S0,m5 ρ (gs.map some),fun r=>r<(gs.map some).length,hf.inB (fun _ _=>trivial) (fun _ _=>trivial),fun r h=>by simpa [a0H]using h,⟨rfl,Ext.refl _ _,fun b h=>Or.inl h⟩,Ds,q1,q2,q3⟩,fun _ _=>rfl⟩
 rintro T' H' a' w' hni ⟨⟨S0',ρ1,L1,hc1,hL1,⟨rfl,hx1,ho1⟩,hm1⟩,hk1⟩ hy;have hot:∀{r:Nat} {l:Loc} {b:Nat},r∉gs→ρ r=some l→l.b=some b→¬B1 b:=by
  rintro r l b hr h1 h2 (⟨q,l',h3,h4⟩|h)
  ·obtain⟨q',hq,h5⟩:=hrg h3;exact hr (hc.wf.inj r q' l l' b h1 h5 h2 h4▸hq)
  ·exact absurd (hc.wf.own r l b h1 h2).1 (Nat.not_lt.2 h)
 have hcase:∀{r:Nat} {l:Loc},bkρ gs ρ ρ1 r=some l→(∃i,gs[i]?=some r∧gs.findIdx? (· ==r)=some i∧ρ1 i=some l)∨(r∉gs∧ρ r=some l):=by
  intro r l h;unfold bkρ at h
  split at h
  ·rename_i i hi;exact Or.inl ⟨i,(a8E hi).2,hi,h⟩
  ·rename_i hi;exact Or.inr ⟨b1D hi,h⟩
 have hSx:∀b,b<w.heap.size→¬Sx S0' ρ b→w'.heap[b]?=w.heap[b]?∧¬Sx S0' (bkρ gs ρ ρ1) b:=by
  intro b hb hn;have hnB:¬B1 b:=by
   rintro(⟨r,l,h1,h2⟩|h)
   ·obtain⟨q,_,h3⟩:=hrg h1;exact hn (Or.inr ⟨q,l,h3,h2⟩)
   ·omega
  refine⟨hx1.block b hb hnB,?_⟩;rintro(h|⟨r,l,h1,h2⟩)
  ·exact hn (Or.inl h)
  ·rcases hcase h1 with⟨i,_,_,h3⟩|⟨_,h3⟩
   ·exact hnB (ho1 b ⟨i,l,h3,h2⟩)
   ·exact hn (Or.inr ⟨r,l,h3,h2⟩)
 have hgf:∀{r:Nat},(∃q,(b2b gs H.length)[r]?=some (some q))→r<H.length∧r∉gs∧bkρ gs ρ ρ1 r=ρ r∧m5 ρ (b2b gs H.length) r=ρ r:=by
  rintro r ⟨q,hq⟩;have h0:=hq;rw[b5x]at hq
  split at hq
  ·rename_i hr
   split at hq
   ·cases hq
   ·rename_i hg;simp only[Option.some.injEq]at hq;subst hq;have hg':r∉gs:=by simpa using hg
    refine⟨hr,hg',?_,by simp only[m5,h0]⟩;unfold bkρ
    split
    ·rename_i i hi;exact absurd (List.mem_of_getElem? (a8E hi).2) hg'
    ·rfl
  ·cases hq
 have keep:∀x y,k7 w (Sx S0' ρ) ρ L x y→k7 w' (Sx S0' (bkρ gs ρ ρ1)) (bkρ gs ρ ρ1) (fun r=>r<H.length) (m9 (b2b gs H.length) 40 x) y:=by
  intro x y h;refine(M4 (g:=b2b gs H.length) (S':=Sx S0' ρ) (fun _ h=>h) 40 x y h).ext hx1.size hSx (fun r hr=>(hgf hr).1) (fun r l hr hl=>?_);rw[(hgf hr).2.2.2,←(hgf hr).2.2.1];exact hl
 refine⟨⟨S0',bkρ gs ρ ρ1,fun r=>r<H.length,⟨⟨?_,?_,?_,hc1.wf.low,?_⟩,hc1.size,rfl,?_,?_,?_⟩,?_,?_,?_⟩,fun t ht=>(hk1 t (hkk t ht)).trans (hk t ht)⟩
 ·intro r r' l l' b h1 h2 k1 k2
  rcases hcase h1 with⟨i,hi,hi',h3⟩|⟨hi,h3⟩<;>rcases hcase h2 with⟨j,hj,hj',h4⟩|⟨hj,h4⟩
  ·have:=hc1.wf.inj i j l l' b h3 h4 k1 k2;subst this;rw[hi]at hj;exact Option.some.inj hj
  ·exact absurd (ho1 b ⟨i,l,h3,k1⟩) (hot hj h4 k2)
  ·exact absurd (ho1 b ⟨j,l',h4,k2⟩) (hot hi h3 k1)
  ·exact hc.wf.inj r r' l l' b h3 h4 k1 k2
 ·intro r l b h1 k1
  rcases hcase h1 with⟨i,hi,_,h3⟩|⟨hi,h3⟩
  ·obtain⟨p1,p2,_⟩:=hc1.wf.own i l b h3 k1;exact⟨p1,p2,trivial⟩
  ·obtain⟨p1,p2,p3⟩:=hc.wf.own r l b h3 k1;exact⟨Nat.lt_of_lt_of_le p1 hx1.size,p2,p3⟩
 ·intro r l h1
  rcases hcase h1 with⟨i,hi,_,h3⟩|⟨hi,h3⟩
  ·exact hlt r (List.mem_of_getElem? hi)
  ·exact hL r (hc.wf.given r l h3)
 ·intro b h
  trivial
 ·have gen:∀(l:Tm),(∀p∈l,k7 w' (Sx S0' (bkρ gs ρ ρ1)) (bkρ gs ρ ρ1) (fun r=>r<H.length) p.2 (a'.tmps.getD p.1 undef))→∀t,k7 w' (Sx S0' (bkρ gs ρ ρ1)) (bkρ gs ρ ρ1) (fun r=>r<H.length) (l6 l t) (a'.tmps.getD t undef):=by
   intro l
   induction l with
   |nil=>intro _ t;exact .pure _ _ (.any _)
   |cons p l ih=>
    intro h t;obtain⟨i,x⟩:=p;simp only[l6]
    split
    ·rename_i e;subst e;exact h (_,x) (by simp)
    ·exact ih (fun p hp=>h p (by simp[hp])) t
  refine gen _ fun p hp=>?_;unfold a4W at hp;rw[List.mem_append]at hp
  rcases hp with hp|hp
  ·obtain⟨t,_,rfl⟩:=List.mem_map.1 hp;exact b3V (S0:=S0') hnd hlt (hc1.tmps t)
  ·obtain⟨t,ht,rfl⟩:=List.mem_map.1 hp;show k7 _ _ _ _ (m9 _ 40 (l6 T t)) (a'.tmps.getD t undef);rw[hk1 t ht];exact keep _ _ (hc.tmps t)
 ·intro r row hr;unfold a8l at hr;rw[A6]at hr
  split at hr
  ·rename_i q hq;have hqr:q=r:=by
    by_cases h:r<H.length
    ·rw[List.getElem?_range h]at hq;exact(Option.some.inj hq).symm
    ·rw[List.getElem?_eq_none (by simpa using h)]at hq;cases hq
   subst hqr
   split at hr
   ·rename_i i hi;obtain⟨row1,h1,rfl⟩:=Option.map_eq_some_iff.1 hr;obtain⟨l,hl,hrow⟩:=hc1.rows i row1 h1;refine⟨l,by unfold bkρ;rw[hi];exact hl,?_⟩
    cases row1 with
    |map ag kts kvs=>exact hrow
    |itr ag kts left cur=>
     exact(a0K hni i _ _ _ _ h1).elim
    |els sz es=>
     obtain⟨k1,k2,k3,k4⟩:=hrow;refine⟨k1,?_,fun hb=>by rw[k3 hb];rfl,fun b hb=>?_⟩
     ·intro e he;simp only[List.mem_map]at he;obtain⟨e',he',rfl⟩:=he;simpa using k2 e' he'
     ·obtain⟨c,t,q1,q2,q3,q4⟩:=k4 b hb;refine⟨c,t,q1,q2,by simpa using q3,fun i av hi=>?_⟩;rw[←List.map_flatten]at hi;simp only[List.getElem?_map,Option.map_eq_some_iff]at hi;obtain⟨av0,hi,rfl⟩:=hi;obtain⟨x,p1,p2,p3⟩:=q4 i av0 hi;exact⟨x,p1,p2,b3V (S0:=S0') hnd hlt p3⟩
   ·rename_i hi;obtain⟨row1,h1,rfl⟩:=Option.map_eq_some_iff.1 hr;obtain⟨l,hl,hrow⟩:=hc.rows q row1 h1;have hng:=b1D hi;refine⟨l,by unfold bkρ;rw[hi];exact hl,?_⟩;refine(T5 (g:=b2b gs H.length) (S':=Sx S0' ρ) (fun _ h=>h) hrow).ext hx1.size hSx (fun r hr=>(hgf hr).1) (fun r l hr hl=>?_) (fun b hb=>?_)
    ·rw[(hgf hr).2.2.2,←(hgf hr).2.2.1];exact hl
    ·exact hx1.block b (hc.wf.own q l b hl hb).1 (hot hng hl hb)
  ·cases hr
 ·intro r hr;unfold a8l at hr;rw[A6]at hr
  by_cases h:r<H.length
  ·rw[List.getElem?_range h]at hr;simp only at hr;unfold bkρ
   split at hr
   ·rename_i i hi;exact hc1.dead i (by simpa using hr)
   ·exact hc.dead r (by simpa using hr)
  ·unfold bkρ
   split
   ·rename_i i hi;exact absurd (hlt r (List.mem_of_getElem? (a8E hi).2)) h
   ·cases hρ:ρ r with
    |none=>rfl
    |some l=>exact absurd (hL r (hc.wf.given r l hρ)) h
 ·intro r hr;simpa [a8l]using hr
 ·rw[hy];refine hJ _ _ _ _ _ _ hj hc.wf.low hc.owned (hx1.mono fun b hb h=>?_) ?_
  ·rcases h with⟨r,l,h1,h2⟩|h
   ·obtain⟨q,_,h3⟩:=hrg h1;exact⟨q,l,h3,h2⟩
   ·omega
  ·rintro b ⟨r,l,h1,h2⟩
   rcases hcase h1 with⟨i,_,_,h3⟩|⟨_,h3⟩
   ·refine⟨(hc1.wf.own i l b h3 h2).1,?_⟩
    rcases ho1 b ⟨i,l,h3,h2⟩with⟨r',l',h4,h5⟩|h
    ·obtain⟨q,_,h6⟩:=hrg h4;exact Or.inl ⟨q,l',h6,h5⟩
    ·exact Or.inr h
   ·exact⟨Nat.lt_of_lt_of_le (hc.wf.own r l b h3 h2).1 hx1.size,Or.inl ⟨r,l,h3,h2⟩⟩
 ·exact hm1
theorem g6.keep {P:Program} {f:FuncId} {args:List AV} {Hk Hd Hk' Hn:Hp} {res:AV} {d d':Option l7} (q k k':Nat) {sz sz' s1:Nat} {es es' e1 e1':List (List AV)} {x:Value} {i o:Nat} (h:g6 P f args Hk (d::Hd) res Hk' (d'::Hn))
  (h1:m6 (Hk++d::Hd) q=some (.els sz es)) (h2:es.flatten[k]?=some (.fptr x Hk.length i o)) (h3:m6 (Hk'++d'::Hn) q=some (.els sz' es')) (h4:es'.flatten[k']?=some (.fptr x Hk.length i o))
  (h5:d=some (.els s1 e1)) (h6:d'=some (.els s1 e1')):g6 P f args (Hk++[d]) Hd res (Hk'++[d']) Hn:=by
 have eH:Hk++[d]++Hd=Hk++d::Hd:=by simp
 have eH':Hk'++[d']++Hn=Hk'++d'::Hn:=by simp
 refine⟨h.1,by simp[h.2.1],?_⟩;rw[eH,eH'];intro S0 w ρ vs hh hl hreps;refine(h.2.2 S0 w ρ vs hh hl hreps).mono ?_;rintro e w' ⟨v,ρ',rfl,hh',hrep,hkeep,hfresh,hext⟩;refine⟨v,ρ',rfl,hh',hrep,fun r l' hr hl'=>?_,hfresh,hext⟩
 by_cases hrk:r<Hk.length
 ·exact hkeep r l' hrk hl'
 have hre:r=Hk.length:=by
  rw[List.length_append]at hr;simp at hr;omega
 subst hre;have g1:m6 (Hk++d::Hd) Hk.length=some (.els s1 e1):=by rw[G0,List.getElem?_append_right (Nat.le_refl _)];simp[h5]
 have g2:m6 (Hk'++d'::Hn) Hk.length=some (.els s1 e1'):=by rw[G0,h.2.1,List.getElem?_append_right (Nat.le_refl _)];simp[h6]
 obtain⟨l,hlr,hrow⟩:=hh.rows _ _ g1;obtain⟨l2,hl2,hrow2⟩:=hh'.rows _ _ g2;rw[hl2]at hl';simp only[Option.some.injEq]at hl';subst hl';have cell:∀{w:World} {ρ:Nat→Option Loc} {L:Nat→Prop} {S:Nat→Prop} {l:Loc} {sz:Nat} {es:List (List AV)} {k:Nat},n5 w S ρ L l (.els sz es)→es.flatten[k]?=some (.fptr x Hk.length i o)→k7 w S ρ L (.ptr Hk.length i o) x:=by
  intro w ρ L S l sz es k hr hk;obtain⟨_,_,e3,e4⟩:=hr
  cases hb:l.b with
  |none=>rw[e3 hb]at hk;simp at hk
  |some b=>
   obtain⟨c,t,_,_,_,p⟩:=e4 b hb;obtain⟨u,_,_,hu⟩:=p k _ hk
   cases hu with
   |pure _ _ h=>cases h
   |fptr _ _ _ _ h=>exact h
 obtain⟨lq,_,hrq⟩:=hh.rows q _ h1;obtain⟨lq',_,hrq'⟩:=hh'.rows q _ h3;have:=b3i (x:= .ptr Hk.length i o) rfl (cell hrq h2) (cell hrq' h4) hlr hl2 hrow hrow2 hext.cells (fun b hb hn=>hext.block b hb (fun ho=>hn (Or.inr ho)));rw[this];exact hlr
theorem a8W {w:World} {S:Nat→Prop} {ρ:Nat→Option Loc} {L:Nat→Prop} {l:Loc} {sz:Nat} {e e':List AV} (h:n5 w S ρ L l (.els sz [e])) (hl:e'.length=e.length)
  (hc:∀(k:Nat) a',e'[k]?=some a'→∃a,e[k]?=some a∧∀x,(∃b c t,l.b=some b∧w.heap[b]?=some (.cells c t (0,0))∧c[l.o+k]?=some x)→k7 w S ρ L a x→k7 w S ρ L a' x):n5 w S ρ L l (.els sz [e']):=by
 obtain⟨h1,h2,h3,h4⟩:=h;refine⟨h1,fun y hy=>?_,fun hb=>(by cases h3 hb),fun b hb=>?_⟩
 ·simp only[List.mem_singleton]at hy;subst hy;rw[hl];exact h2 e (by simp)
 ·obtain⟨c,t,k1,k2,k3,k4⟩:=h4 b hb;refine⟨c,t,k1,k2,by simpa using k3,fun i a hi=>?_⟩;simp only[List.flatten_cons,List.flatten_nil,List.append_nil]at hi k4;obtain⟨a0,g1,g2⟩:=hc i a hi;obtain⟨x,p1,p2,p3⟩:=k4 i a0 g1;exact⟨x,p1,p2,g2 x ⟨b,c,t,hb,k1,p1⟩ p3⟩
theorem b2j {P:Program} {ro:Option Nat} {J:Jt} {nt:Nat} {kp:List Nat} {c:Code} {T:Tm} {H:Hp} {Q:Exit→Tm→Hp→Prop} (q j:Nat) {sz:Nat} {e:List AV} {r i o:Nat} (hr:m6 H q=some (.els sz [e])) (hj:e[j]?=some (.ptr r i o))
  (h:∀x,GWp P ro J nt kp c T (D9 H q (some (.els sz [e.set j (.fptr x r i o)]))) Q):GWp P ro J nt kp c T H Q:=by
 intro hJ kv a w ⟨⟨S0,ρ,L,hc,hL,hjr,hm⟩,hk⟩;have hql:=a2U hr;obtain⟨l,hl,hrow⟩:=hc.rows q _ hr;have hrow0:=hrow;obtain⟨_,_,e3,e4⟩:=hrow0
 cases hb:l.b with
 |none=>cases e3 hb
 | some b=>
  obtain⟨cc,t,k1,k2,k3,k4⟩:=e4 b hb;simp only[List.flatten_cons,List.flatten_nil,List.append_nil]at k4;obtain⟨x,p1,p2,p3⟩:=k4 j _ hj;refine h x hJ kv a w ⟨⟨S0,ρ,L,⟨hc.wf,hc.size,hc.defers,hc.tmps,fun r' row hr'=>?_,fun r' hr'=>?_⟩,fun r' hr'=>by rw[a5t _ _ _ hql];exact hL r' hr',hjr,hm⟩,hk⟩
  ·rw[I3 _ _ _ _ (by omega)]at hr'
   split at hr'
   ·rename_i e';subst e';simp only[Option.some.injEq]at hr';subst hr';refine⟨l,hl,a8W hrow (by simp) fun k a' ha=>?_⟩
    by_cases hkj:k=j
    ·subst hkj;have hkl:k<e.length:=(List.getElem?_eq_some_iff.1 hj).1;rw[List.getElem?_set_self hkl]at ha;simp only[Option.some.injEq]at ha;subst ha;refine⟨_,hj,?_⟩;rintro y ⟨b',c',t',q1,q2,q3⟩ hy;rw[hb]at q1;simp only[Option.some.injEq]at q1;subst q1;rw[k1]at q2;simp only[Option.some.injEq,Obj.cells.injEq]at q2;rw[←q2.1,p1]at q3;simp only[Option.some.injEq]at q3;subst q3;exact .fptr _ _ _ _ hy
    ·rw[List.getElem?_set_ne (fun e=>hkj e.symm)]at ha;exact⟨a',ha,fun _ _ h=>h⟩
   ·exact hc.rows r' row hr'
  ·rw[I3 _ _ _ _ (by omega)]at hr'
   split at hr'
   ·cases hr'
   ·exact hc.dead r' hr'
theorem a6O {nt:Nat} {T:Tm} {H:Hp} (q j:Nat) {sz:Nat} {e:List AV} {x:Value} {r i o:Nat} (hr:m6 H q=some (.els sz [e])) (hj:e[j]?=some (.fptr x r i o)):Sub nt T H T (D9 H q (some (.els sz [e.set j (.ptr r i o)]))):=by
 rintro w0 B S0 a w ⟨⟨ρ,L,hc,hL⟩,hext⟩;have hql:=a2U hr;refine⟨⟨ρ,L,⟨hc.wf,hc.size,hc.defers,hc.tmps,fun r' row hr'=>?_,fun r' hr'=>?_⟩,fun r' hr'=>by rw[a5t _ _ _ hql];exact hL r' hr'⟩,hext⟩
 ·rw[I3 _ _ _ _ (by omega)]at hr'
  split at hr'
  ·rename_i e';subst e';simp only[Option.some.injEq]at hr';subst hr';obtain⟨l,hl,hrow⟩:=hc.rows r' _ hr;refine⟨l,hl,a8W hrow (by simp) fun k a' ha=>?_⟩
   by_cases hkj:k=j
   ·subst hkj;have hkl:k<e.length:=(List.getElem?_eq_some_iff.1 hj).1;rw[List.getElem?_set_self hkl]at ha;simp only[Option.some.injEq]at ha;subst ha;refine⟨_,hj,fun y _ hy=>?_⟩
    cases hy with
    |pure _ _ h=>cases h
    |fptr _ _ _ _ h=>exact h
   ·rw[List.getElem?_set_ne (fun e=>hkj e.symm)]at ha;exact⟨a',ha,fun _ _ h=>h⟩
  ·exact hc.rows r' row hr'
 ·rw[I3 _ _ _ _ (by omega)]at hr'
  split at hr'
  ·cases hr'
  ·exact hc.dead r' hr'
theorem a9Q {P:Program} {ro:Option Nat} {J:Jt} {nt:Nat} {kp0:List Nat} {T:Tm} {H:Hp} {Q:Exit→Tm→Hp→Prop} {x y:Code} (us kp:List Nat) (Tf:Tm) (hT:a1s H [] T Tf) (hkk:∀t∈kp0,t∈kp)
  (R:Tm→Prop) (hin:∀J1,JOk J1→GWp P ro J1 nt kp x Tf [] (fun e T' H'=>e= .normal∧R T'))
  (hout:∀T',R T'→l6 (us.map (fun t=>(t,b1j [] (l6 T' t)))++kp.map (fun t=>(t,l6 T t))) 999999=l6 T 999999∧
   GWp P ro J nt kp0 y (us.map (fun t=>(t,b1j [] (l6 T' t)))++kp.map (fun t=>(t,l6 T t))) H Q):GWp P ro J nt kp0 (.seq x y) T H Q:=by
 intro hJ kv a w ⟨⟨S0,ρ,L,hc,hL,hj,hm⟩,hk⟩;have hf:=a2b (T':=Tf) (H':=[]) [] (by intro i j q h;simp at h) hT rfl hc
 let B1:Nat→Prop:=fun b=>w.heap.size≤b
 have hJ1:JOk (a7G B1 S0 w J.mark):=a4C fun b h=>h;have hs1:SG (a7G B1 S0 w J.mark) nt kp (fun t=>a.tmps.getD t undef) Tf [] a w:=by
  refine⟨⟨S0,m5 ρ [],fun r=>r<([]:List (Option Nat)).length,hf,fun r h=>by simp at h,⟨rfl,Ext.refl _ _,?_⟩,hm⟩,fun _ _=>rfl⟩;rintro b ⟨r,l,h1,_⟩;obtain⟨q,h,_⟩:=i7 h1;simp at h
 refine wpIn_seq (wpIn_mono (hin _ hJ1 hJ1 _ a w hs1) ?_);rintro e a' w' ⟨T',H',⟨rfl,hR⟩,⟨⟨S0',ρ1,L1,hc1,hL1,⟨rfl,hx1,ho1⟩,hm1⟩,hk1⟩⟩;obtain⟨hy,ho⟩:=hout T' hR;refine ho hJ kv a' w' ⟨⟨S0',ρ,L,⟨⟨hc.wf.inj,fun r l b h1 h2=>?_,hc.wf.given,hc1.wf.low,fun _ _=>trivial⟩,hc1.size,rfl,?_,?_,hc.dead⟩,hL,?_,hm1⟩,fun t ht=>(hk1 t (hkk t ht)).trans (hk t ht)⟩
 ·obtain⟨p1,p2,p3⟩:=hc.wf.own r l b h1 h2;exact⟨Nat.lt_of_lt_of_le p1 hx1.size,p2,p3⟩
 ·have hS:∀b,b<w.heap.size→¬Sx S0' ρ b→w'.heap[b]?=w.heap[b]?∧¬Sx S0' ρ b:=fun b hb hn=>⟨hx1.block b hb (by show¬w.heap.size≤b;omega),hn⟩;have gen:∀(l:Tm),(∀p∈l,k7 w' (Sx S0' ρ) ρ L p.2 (a'.tmps.getD p.1 undef))→∀t,k7 w' (Sx S0' ρ) ρ L (l6 l t) (a'.tmps.getD t undef):=by
   intro l
   induction l with
   |nil=>intro _ t;exact .pure _ _ (.any _)
   |cons p l ih=>
    intro h t;obtain⟨i,x⟩:=p;simp only[l6]
    split
    ·rename_i e;subst e;exact h (_,x) (by simp)
    ·exact ih (fun p hp=>h p (by simp[hp])) t
  refine gen _ fun p hp=>?_;rw[List.mem_append]at hp
  rcases hp with hp|hp
  ·obtain⟨t,_,rfl⟩:=List.mem_map.1 hp;exact b3V (S0:=S0') (gs:=[]) (ρ:=ρ) List.nodup_nil (by simp) (hc1.tmps t)
  ·obtain⟨t,ht,rfl⟩:=List.mem_map.1 hp;show k7 _ _ _ _ (l6 T t) (a'.tmps.getD t undef);rw[hk1 t ht];exact(hc.tmps t).ext hx1.size hS (fun _ h=>h) (fun _ _ _ h=>h)
 ·intro r row hr;obtain⟨l,hl,hrow⟩:=hc.rows r row hr;refine⟨l,hl,hrow.ext hx1.size (fun b hb hn=>⟨hx1.block b hb (by show¬w.heap.size≤b;omega),hn⟩) (fun _ h=>h) (fun _ _ _ h=>h) (fun b hb=>?_)⟩;have:=(hc.wf.own r l b hl hb).1;exact hx1.block b this (by show¬w.heap.size≤b;omega)
 ·rw[hy];refine hJ _ _ _ _ _ _ hj hc.wf.low hc.owned (hx1.mono fun b hb h=>absurd hb (by show¬b<w.heap.size;exact Nat.not_lt.2 h)) ?_;rintro b ⟨r,l,h1,h2⟩;exact⟨Nat.lt_of_lt_of_le (hc.wf.own r l b h1 h2).1 hx1.size,Or.inl ⟨r,l,h1,h2⟩⟩
end Go.AM
end
section
namespace Go.Cur
open Go.AM Go.Proofs
def z4 (g:Gr) (s:Sta) (k:Nat):List Nat:=cp (a7E g s) g.Nodes.toNat (nm (a7E g s) g.Nodes.toNat k)
theorem S6 {g:Gr} {s:Sta} {p:List Nat} {k:Nat} (hp:p∈j7 g s) (hk:k∈p):p=z4 g s k:=by
 obtain⟨i,_,rfl⟩:=List.mem_map.1 hp;unfold z4;rw[(E4.1 hk).2]
abbrev stg (g:Gr) (s:Sta) (l:List Ld) (sv:List Bool) (v f c:AV):AV:= .iptr [net g s,lL l,bL sv,v,f,c]
theorem a5J (g:Gr) (s:Sta) (l:List Ld) (sv:List Bool) (v f c:AV) (hnt:o7 g s) (h12:I7 g s) (x:Int) (h0:0≤x) (hx:x<g.Nodes):
  d6 Try.prog 94 [stg g s l sv v f c,I x] (iL (upN (z4 g s x.toNat))):=by
 have hit:=a6w g s hnt h12;have hc:=a2H (ntC g (bL s.Feeds) (bL s.Wires));have hpo:=fun(p:List Nat) (hp:p∈j7 g s)=>S6 (k:=x.toNat) hp;have hcov:=R8 hnt (k:=x.toNat) (by omega);have h12':∀p∈j7 g s,p.length≤12:=h12;generalize z4 g s x.toNat=po at hpo ⊢;generalize j7 g s=L at hit hpo hcov h12';refine d6.of_bodyG Try.func94 rfl (by decide) (by simp[Try.ntmps94]) ?_;intro J hJ;simp only[Try.ntmps94,Try.results94];refine gS fun K hK=>?_;simp -dsimp;apply hK;clear hK K;refine b9 fun K1 hK1=>?_;refine gS fun K hK=>?_;simp -dsimp;refine d5 _ (hc) (by simp) ?_;simp -dsimp;apply hK;clear hK K;refine d7 ?_;refine b6 [3,4,10] (Or.inr (by simp)) ?_;simp only[zP,Nat.reduceEqDiff,reduceIte];refine G7 hJ [3,4,10] (fun _=>[some (.els 1 [[I x]]),some (.els 1 [[.v (.slice none 0 0)]])]) (fun n=>∀p∈L.take n,x.toNat∉p) rfl (hit) rfl (by simp) (by decide) (by decide) (by decide) (a2i L) ?_ ?_ ?_ ?_
 ·simp
 ·exact j9 (by simp)
 ·intro n xv hxn hi l1 J1 hJ1;obtain⟨p,hp,rfl⟩:∃p,L[n]?=some p∧pAV p=xv:=by simpa using hxn
  have hpl:=o9 p;have hpm:=List.mem_of_getElem? hp;have hpp:=h12' p hpm;simp only[pAV];simp only[List.zip_cons_cons,List.zip_nil_left,List.zip_nil_right,List.cons_append,List.nil_append];refine gR fun K hK=>?_;simp -dsimp;apply hK;clear hK K;simp only[a6z];intro J2 hJ2;refine b6 [3,4,5,10] (Or.inr (by simp)) ?_;simp only[zP,Nat.reduceEqDiff,reduceIte];refine d7 ?_;refine gS fun K hK=>?_;simp -dsimp;refine d5 _ (a4c (upN p) x (by omega)) (by simp) ?_;simp -dsimp;apply hK;clear hK K;refine d9 rfl (fun hc0=>?_) (fun hc0=>?_)
  ·have hkp:x.toNat∈p:=(V5.1 (by simpa using hc0)).2;have hpe:=hpo p hpm hkp;refine gS fun K hK=>?_;simp -dsimp;apply hK;clear hK K;exact j6 ⟨[some (.els 1 [[I x]]),some (.els 1 [[iL (upN p)]])],e9 [some 0,some 1] rfl (by simp) (by simp),by simp[C2,n6,hpe]⟩
  ·have hkp:x.toNat∉p:=fun h=>by simp[V5,h0,h]at hc0
   refine f6 ?_;simp only[Q8,B9,a1d,reduceIte,Nat.reduceEqDiff,eq_self];refine⟨?_,e9 [some 0,some 1] rfl (by simp) (by simp)⟩;rw[List.take_add_one,hp];intro q hq
   rcases List.mem_append.1 hq with h|h
   ·exact hi q h
   ·simp at h;rw[h];exact hkp
 ·intro hdone;rw[List.take_of_length_le (by simp)]at hdone;obtain⟨p,hp,hkp⟩:=List.mem_flatten.1 hcov;exact absurd hkp (hdone p hp)
def ldA (l:List Ld) (k:Nat):Ld:=(l[k]?).getD default
theorem z8 {l:List Ld} {k:Nat} (h:k<l.length):l[k]?=some (ldA l k):=by
 unfold ldA;rw[List.getElem?_eq_getElem h];rfl
def leS (l:List Ld) (sv:List Bool) (q:Ld→Bool) (out:Int) (i:Nat):Int:=
 if bAt sv i=true∧q (ldA l i)=true∧(out<0∨(ldA l i).Rank≤(ldA l out.toNat).Rank)then i else out
def leL (l:List Ld) (sv:List Bool) (q:Ld→Bool) (n:Nat):Int:=(List.range n).foldl (leS l sv q) (-1)
theorem a1F (l:List Ld) (sv:List Bool) (q:Ld→Bool) (n:Nat):leL l sv q (n+1)=leS l sv q (leL l sv q n) n:=by
 unfold leL;rw[List.range_succ,List.foldl_append];rfl
theorem a2V (l:List Ld) (sv:List Bool) (q:Ld→Bool) (n:Nat):-1≤leL l sv q n∧leL l sv q n<n:=by
 induction n with
 |zero=>exact⟨by simp[leL],by simp[leL]⟩
 |succ n ih=>
  rw[a1F];unfold leS
  split<;>omega
theorem a5a (x0:AV) (l:List Ld) (sv:List Bool) (v f c:AV) (fn:FuncId) (cl:List (List AV)) (q:Ld→Bool) (hl:l.length≤1000) (hs:sv.length=l.length)
  (h:∀x∈l,d6 Try.prog fn (.agg x.cells::a5B cl) (Bo (q x))):d6 Try.prog 96 [.iptr [x0,lL l,bL sv,v,f,c], .clo fn (a5B cl)] (I (leL l sv q l.length)):=by
 refine d6.of_body Try.func96 rfl (by decide) (by simp[Try.ntmps96]) ?_;simp only[Try.ntmps96,Try.results96];refine aS fun K hK=>?_;simp -dsimp;apply hK;clear hK K;refine aS fun K hK=>?_;simp -dsimp;apply hK;clear hK K;refine b8 fun K1 hK1=>?_;refine aS fun K hK=>?_;simp -dsimp;apply hK;clear hK K;refine e8 ?_;refine b7 [0,1,5,11,12,13] ?_;simp only[zP,Nat.reduceEqDiff,reduceIte];refine i4 [0,1,11,12] (α:=Nat) (fun k=>[(5,I (leL l sv q k)),(13,I k)]) (fun k=>[]) (fun k=>k≤l.length) (fun k=>l.length-k) 0 ?_ ?_ ?_
 ·exact Nat.zero_le _
 ·exact j9 (by simp[leL])
 rintro k k1;simp only[zP,Nat.reduceEqDiff,reduceIte];refine aS fun K hK=>?_;simp -dsimp;apply hK;clear hK K;refine b8 fun K2 hK2=>?_;refine d8 rfl (fun hc0=>?_) (fun hc0=>?_)
 ·skip
  try simp at hc0
  obtain⟨x,hx⟩:∃x,l[k]?=some x:=⟨_,List.getElem?_eq_getElem hc0⟩;have wk:=zW k (by omega);have gb:=v9 (l:=sv) (k:=k) (by omega);have hne:¬sv=[]:=by intro e;rw[e]at hs;simp at hs;omega
  have hsu:=a1F l sv q k;have hbd:=a2V l sv q k;have hxe:ldA l k=x:=by have:=z8 hc0;rw[hx]at this;exact(Option.some.inj this).symm
  unfold leS at hsu;rw[hxe]at hsu;generalize leL l sv q k=out at hsu hbd ⊢;refine f5 ?_;simp only[zT,reduceIte,Nat.reduceEqDiff];refine hK2 _ _ ?_;refine b7 [0,1,5,11,12,13] ?_;simp only[zP,Nat.reduceEqDiff,reduceIte];refine b8 fun K3 hK3=>?_;refine e8 ?_;refine aS fun K hK=>?_;simp -dsimp [hx];apply hK;clear hK K;refine s9 l9 rfl fun K hK=>?_;simp -dsimp [gb];refine g8 _ (fun hm=>h x (List.mem_of_getElem? hx)) (by simp) ?_;simp -dsimp [gb];refine l3 ((ldA l out.toNat).cells) (fun hm=>by simp at hm;have:=z8 (l:=l) (k:=out.toNat) (by omega);simp[this]) ?_;simp -dsimp [gb];refine hK _ _ _ (by decide+kernel) ?_;clear hK K;refine d8 rfl (fun hc1=>?_) (fun hc1=>?_)
  ·refine aR fun K hK=>?_;simp -dsimp;apply hK;clear hK K;simp only[zT,reduceIte,Nat.reduceEqDiff];refine hK3 _ _ ?_;refine b7 [0,1,5,11,12,13] ?_;simp only[zP,Nat.reduceEqDiff,reduceIte];refine aR fun K hK=>?_;simp -dsimp [wk];apply hK;clear hK K;simp only[zT,reduceIte,Nat.reduceEqDiff];have hcd:bAt sv k=true∧q x=true∧(out<0∨x.Rank≤(ldA l out.toNat).Rank):=by simpa [and_assoc]using hc1
   rw[if_pos hcd]at hsu;exact⟨k+1,by omega,by omega,e9 [] rfl (by simp[hsu]) (by simp)⟩
  ·refine f5 ?_;simp only[zT,reduceIte,Nat.reduceEqDiff];refine hK3 _ _ ?_;refine b7 [0,1,5,11,12,13] ?_;simp only[zP,Nat.reduceEqDiff,reduceIte];refine aR fun K hK=>?_;simp -dsimp [wk];apply hK;clear hK K;simp only[zT,reduceIte,Nat.reduceEqDiff];have hcd:¬(bAt sv k=true∧q x=true∧(out<0∨x.Rank≤(ldA l out.toNat).Rank)):=fun h=>by simp[h.1,h.2.1]at hc1;omega
   rw[if_neg hcd]at hsu;exact⟨k+1,by omega,by omega,e9 [] rfl (by simp[hsu]) (by simp)⟩
 ·skip
  try simp at hc0
  have hke:k=l.length:=by omega
  subst hke;refine j8 ?_;simp only[zT,reduceIte,Nat.reduceEqDiff];refine hK1 _ _ ?_;refine b7 [5] ?_;simp only[zP,Nat.reduceEqDiff,reduceIte];refine aS fun K hK=>?_;simp -dsimp;apply hK;clear hK K;exact g7 (by simp)
end Go.Cur
end
section
namespace Go.Cur
open Go.AM Go.Proofs
abbrev hSa (x:AV) (l:List Ld) (ns:Nat) (vs fs:List Fr) (nc:Nat):Option l7:=some (.els 6 [[x,lL l, .row 2 0 ns,fL vs,fL fs, .row 4 0 nc]])
abbrev hNa (g:Gr) (fe wi:List Bool):Option l7:=some (.els 6 [[I g.Nodes, .lst 4 (g.Wires.map Wr.cells), .lst 4 (g.Feeds.map Fd.cells),I g.Least, .row 3 0 fe.length,bL wi]])
abbrev hSb (x:AV) (l:List Ld) (ns:Nat) (vs fs:List Fr) (nc:Nat):Option l7:=some (.els 6 [[x,lL l, .row 2 0 ns,fL vs,fL fs, .row 3 0 nc]])
abbrev hNb (g:Gr) (fe wi:List Bool):Option l7:=some (.els 6 [[I g.Nodes, .lst 4 (g.Wires.map Wr.cells), .lst 4 (g.Feeds.map Fd.cells),I g.Least,bL [],bL wi]])
theorem b3f (x:Value) (g:Gr) (fe wi:List Bool) (l:List Ld) (sv:List Bool) (vs fs:List Fr) (cuts:List Cu) (kd:Int) (i:Nat) (v:Fr) (hi:i<sv.length) (hc:cuts.length≤1000):
  g6 Try.prog 95 [.ptr 0 0 0,I kd,I i,v.av] [hSa (.fptr x 1 0 0) l sv.length vs fs cuts.length] [hNa g fe wi,some (.els 1 (sv.map i9)),some (.els 1 (fe.map i9)),some (.els 4 (cuts.map Cu.cells))]
   (.tup []) [hSa (.fptr x 1 0 0) l (sv.set i false).length vs fs (cuts++[(⟨kd,i,v⟩:Cu)]).length] [hNa g fe wi,some (.els 1 ((sv.set i false).map i9)),some (.els 1 (fe.map i9)),some (.els 4 ((cuts++[(⟨kd,i,v⟩:Cu)]).map Cu.cells))]:=by
 have f1:I9 (cuts.length+1) 33:=m8 (by omega) (by omega);refine g6.of_bodyG [0] Try.func95 rfl (by decide) (by simp[Try.ntmps95]) rfl rfl ?_;intro J hJ;simp only[Try.ntmps95,Try.results95];refine gS fun K hK=>?_;simp -dsimp;apply hK;clear hK K;refine gS fun K hK=>?_;simp -dsimp [hi];apply hK;clear hK K;refine o8 l9 rfl (by decide) rfl rfl fun K hK=>?_;simp -dsimp [f1];refine hK _ _ _ (by decide+kernel) ?_;clear hK K
 try simp only[zT,reduceIte,Nat.reduceEqDiff]
 exact⟨[some 0,some 1,some 2,some 3,some 6],rfl,by simp,by simp[List.map_set],by simp,by simp[C2,n6]⟩
theorem b4a (x:Value) (g:Gr) (fe wi:List Bool) (l:List Ld) (sv:List Bool) (vs fs:List Fr) (cuts:List Cu) (kd:Int) (i:Nat) (v:Fr) (hi:i<sv.length) (hc:cuts.length≤1000):
  g6 Try.prog 95 [.ptr 0 0 0,I kd,I i,v.av] [hSb (.fptr x 1 0 0) l sv.length vs fs cuts.length] [hNb g fe wi,some (.els 1 (sv.map i9)),some (.els 4 (cuts.map Cu.cells))]
   (.tup []) [hSb (.fptr x 1 0 0) l (sv.set i false).length vs fs (cuts++[(⟨kd,i,v⟩:Cu)]).length] [hNb g fe wi,some (.els 1 ((sv.set i false).map i9)),some (.els 4 ((cuts++[(⟨kd,i,v⟩:Cu)]).map Cu.cells))]:=by
 have f1:I9 (cuts.length+1) 33:=m8 (by omega) (by omega);refine g6.of_bodyG [0] Try.func95 rfl (by decide) (by simp[Try.ntmps95]) rfl rfl ?_;intro J hJ;simp only[Try.ntmps95,Try.results95];refine gS fun K hK=>?_;simp -dsimp;apply hK;clear hK K;refine gS fun K hK=>?_;simp -dsimp [hi];apply hK;clear hK K;refine o8 l9 rfl (by decide) rfl rfl fun K hK=>?_;simp -dsimp [f1];refine hK _ _ _ (by decide+kernel) ?_;clear hK K
 try simp only[zT,reduceIte,Nat.reduceEqDiff]
 exact⟨[some 0,some 1,some 2,some 5],rfl,by simp,by simp[List.map_set],by simp,by simp[C2,n6]⟩
end Go.Cur
end
section
namespace Go.Cur
open Go.AM Go.Proofs
def F9 (g:Gr) (s:Sta) (l:List Ld) (sv:List Bool) (i:Nat):Bool:=
 bAt sv i&&(decide ((ldA l i).Units≠0)&&decide ((k8 g s (upN (z4 g s (ldA l i).At.toNat))).length=0))
theorem L2 (g:Gr) (s:Sta) (k:Nat):(z4 g s k).length≤g.Nodes.toNat:=by
 unfold z4 cp;have:=List.length_filter_le (fun i=>decide (nm (a7E g s) g.Nodes.toNat i=nm (a7E g s) g.Nodes.toNat k)) (List.range g.Nodes.toNat);simpa using this
theorem b9q (x:Value) (g:Gr) (fe wi:List Bool) (l:List Ld) (sv:List Bool) (vs fs:List Fr) (cuts:List Cu) (hl:l.length≤1000) (hs:sv.length=l.length) (hc:cuts.length≤1000)
  (hld:∀y∈l,0≤y.At∧y.At<g.Nodes) (hnt:o7 g ⟨fe,wi⟩) (h12:I7 g ⟨fe,wi⟩) (r:Bool) (sv2:List Bool) (cuts2:List Cu)
  (ht:∀i,i<l.length→F9 g ⟨fe,wi⟩ l sv i=true→(∀j,j<i→F9 g ⟨fe,wi⟩ l sv j=false)→r=true∧sv2=sv.set i false∧cuts2=cuts++[(⟨1,i,⟨0,1⟩⟩:Cu)])
  (hf:(∀j,j<l.length→F9 g ⟨fe,wi⟩ l sv j=false)→r=false∧sv2=sv∧cuts2=cuts):
  g6 Try.prog 77 [.ptr 0 0 0] [hSa (.fptr x 1 0 0) l sv.length vs fs cuts.length,hNa g fe wi] [some (.els 1 (sv.map i9)),some (.els 1 (fe.map i9)),some (.els 4 (cuts.map Cu.cells))]
   (Bo r) [hSa (.fptr x 1 0 0) l sv2.length vs fs cuts2.length,hNa g fe wi] [some (.els 1 (sv2.map i9)),some (.els 1 (fe.map i9)),some (.els 4 (cuts2.map Cu.cells))]:=by
 refine g6.keep (Hk:=[_]) (Hk':=[_]) 0 0 0 (x:=x) (i:=0) (o:=0) ?_ rfl rfl rfl rfl rfl rfl;have hbd:=t9 hnt.gr;refine g6.of_bodyG [0] Try.func77 rfl (by decide) (by simp[Try.ntmps77]) rfl rfl ?_;intro J hJ;simp only[Try.ntmps77,Try.results77];refine gS fun K hK=>?_;simp -dsimp;apply hK;clear hK K;refine b9 fun K1 hK1=>?_;refine gS fun K hK=>?_;simp -dsimp;apply hK;clear hK K;refine d7 ?_;refine b6 [0,8,9,10] (Or.inr (by simp)) ?_;simp only[zP,Nat.reduceEqDiff,reduceIte];refine g9 [0,8,9] (α:=Nat) (fun k=>[(10,I k)]) (fun k=>[hSa (.fptr x 1 0 0) l sv.length vs fs cuts.length,hNa g fe wi,some (.els 1 (sv.map i9)),some (.els 1 (fe.map i9)),some (.els 4 (cuts.map Cu.cells))]) (fun k=>k≤l.length∧∀j,j<k→F9 g ⟨fe,wi⟩ l sv j=false) (fun k=>l.length-k) 0 ?_ ?_ ?_
 ·exact⟨Nat.zero_le _,fun j hj=>by omega⟩
 ·exact o1 (j9 (by simp)) (by simp)
 rintro k ⟨k1,k2⟩;simp only[zP,Nat.reduceEqDiff,reduceIte];refine gS fun K hK=>?_;simp -dsimp;apply hK;clear hK K;refine b9 fun K2 hK2=>?_;refine d9 rfl (fun hc0=>?_) (fun hc0=>?_)
 ·have hkl:k<l.length:=by simpa using hc0
  obtain⟨y,hy⟩:∃y,l[k]?=some y:=⟨_,List.getElem?_eq_getElem hkl⟩;have hye:ldA l k=y:=by have:=z8 hkl;rw[hy]at this;exact(Option.some.inj this).symm
  have wk:=zW k (by omega);have gb:=v9 (l:=sv) (k:=k) (by omega);have hya:=hld y (List.mem_of_getElem? hy);have hpl:=o9 (z4 g ⟨fe,wi⟩ y.At.toNat);have hpo:=L2 g ⟨fe,wi⟩ y.At.toNat;have hdk:F9 g ⟨fe,wi⟩ l sv k=(bAt sv k&&(decide (y.Units≠0)&&decide ((k8 g ⟨fe,wi⟩ (upN (z4 g ⟨fe,wi⟩ y.At.toNat))).length=0))):=by unfold F9;rw[hye]
  refine f6 ?_;simp only[zT,reduceIte,Nat.reduceEqDiff];refine hK2 _ _ ?_;refine b6 [0,8,9,10] (Or.inr (by simp)) ?_;simp only[zP,Nat.reduceEqDiff,reduceIte];refine b9 fun K3 hK3=>?_;refine d7 ?_;refine gS fun K hK=>?_;simp -dsimp [hy];apply hK;clear hK K;refine a9Q [39] [0,3,4,8,9,10] [(0,stg g ⟨fe,wi⟩ l sv (fL vs) (fL fs) (cL cuts)),(3,I k),(4, .iptr y.cells)] (⟨.inr (by simp), .inr (by simp), .inr (by simp),trivial⟩) (by decide) (fun T'=>Go.AM.l6 T' 39=Bo (F9 g ⟨fe,wi⟩ l sv k)) ?_ ?_
  ·intro J1 hJ1;refine o8 l9 rfl (by decide) rfl rfl fun K hK=>?_;simp -dsimp [gb];refine g8 _ (fun hm=>a5J g ⟨fe,wi⟩ l sv (fL vs) (fL fs) (cL cuts) hnt h12 y.At hya.1 hya.2) (by simp) ?_;simp -dsimp [gb];refine g8 _ (fun hm=>a4V g ⟨fe,wi⟩ _ hnt.sf (by omega) (by omega)) (by simp) ?_;simp -dsimp [gb];refine hK _ _ _ (by decide+kernel) ?_;clear hK K;exact⟨rfl,by rw[hdk];simp;rw[Bool.eq_iff_iff];simp[and_assoc]⟩
  ·intro T' hR;refine⟨by simp,?_⟩;simp only[List.map_cons,List.map_nil,List.cons_append,List.nil_append,hR,b1j,Go.AM.l6,Nat.reduceEqDiff,reduceIte];refine d9 rfl (fun hc1=>?_) (fun hc1=>?_)
   ·obtain⟨e1,e2,e3⟩:=ht k hkl hc1 k2;subst e1 e2 e3;refine gS fun K hK=>?_;simp -dsimp;refine k9 [0,1] [2,3,4] [some 0,some 1,none,none,none,none,some 2,some 3,some 4] ((b3f x g fe wi l sv vs fs cuts 1 k ⟨0,1⟩ (by omega) hc).keep (Hk:=[_]) (Hk':=[_]) 0 0 0 (x:=x) (i:=0) (o:=0) rfl rfl rfl rfl rfl rfl) (by decide) rfl (by simp) (by simp) rfl (by simp) ?_;simp -dsimp;apply hK;clear hK K;refine gS fun K hK=>?_;simp -dsimp;apply hK;clear hK K;exact j6 ⟨[some 0,some 1,some 6,some 7,some 8],rfl,by simp,by simp,by simp,by simp[C2,n6]⟩
   ·refine f6 ?_;simp only[zT,reduceIte,Nat.reduceEqDiff];refine hK3 _ _ ?_;refine b6 [0,8,9,10] (Or.inr (by simp)) ?_;simp only[zP,Nat.reduceEqDiff,reduceIte];refine gR fun K hK=>?_;simp -dsimp [wk];apply hK;clear hK K;simp only[zT,reduceIte,Nat.reduceEqDiff];exact⟨k+1,⟨by omega,fun j hj=>by rcases(by omega:j<k∨j=k)with h|rfl;exact k2 j h;exact hc1⟩,by omega,o1 (e9 [some 0,some 1,some 2,some 3,some 4] rfl (by simp) (by simp)) (by simp)⟩
 ·have hke:k=l.length:=by have hn:¬k<l.length:=(by simpa using hc0);omega
  subst hke;obtain⟨e1,e2,e3⟩:=hf k2;subst e1 e2 e3;refine i6 ?_;simp only[zT,reduceIte,Nat.reduceEqDiff];refine hK1 _ _ ?_;refine b6 [0] (Or.inr (by simp)) ?_;simp only[zP,Nat.reduceEqDiff,reduceIte];refine gS fun K hK=>?_;simp -dsimp;apply hK;clear hK K;exact j6 ⟨[some 0,some 1,some 2,some 3,some 4],rfl,by simp,by simp,by simp,by simp[C2,n6]⟩
theorem b8f (x:Value) (g:Gr) (fe wi:List Bool) (l:List Ld) (sv:List Bool) (vs fs:List Fr) (cuts:List Cu) (hl:l.length≤1000) (hs:sv.length=l.length) (hc:cuts.length≤1000)
  (hld:∀y∈l,0≤y.At∧y.At<g.Nodes) (hnt:o7 g ⟨[],wi⟩) (h12:I7 g ⟨[],wi⟩) (r:Bool) (sv2:List Bool) (cuts2:List Cu)
  (ht:∀i,i<l.length→F9 g ⟨[],wi⟩ l sv i=true→(∀j,j<i→F9 g ⟨[],wi⟩ l sv j=false)→r=true∧sv2=sv.set i false∧cuts2=cuts++[(⟨1,i,⟨0,1⟩⟩:Cu)])
  (hf:(∀j,j<l.length→F9 g ⟨[],wi⟩ l sv j=false)→r=false∧sv2=sv∧cuts2=cuts):
  g6 Try.prog 77 [.ptr 0 0 0] [hSb (.fptr x 1 0 0) l sv.length vs fs cuts.length,hNb g fe wi] [some (.els 1 (sv.map i9)),some (.els 4 (cuts.map Cu.cells))]
   (Bo r) [hSb (.fptr x 1 0 0) l sv2.length vs fs cuts2.length,hNb g fe wi] [some (.els 1 (sv2.map i9)),some (.els 4 (cuts2.map Cu.cells))]:=by
 refine g6.keep (Hk:=[_]) (Hk':=[_]) 0 0 0 (x:=x) (i:=0) (o:=0) ?_ rfl rfl rfl rfl rfl rfl;have hbd:=t9 hnt.gr;refine g6.of_bodyG [0] Try.func77 rfl (by decide) (by simp[Try.ntmps77]) rfl rfl ?_;intro J hJ;simp only[Try.ntmps77,Try.results77];refine gS fun K hK=>?_;simp -dsimp;apply hK;clear hK K;refine b9 fun K1 hK1=>?_;refine gS fun K hK=>?_;simp -dsimp;apply hK;clear hK K;refine d7 ?_;refine b6 [0,8,9,10] (Or.inr (by simp)) ?_;simp only[zP,Nat.reduceEqDiff,reduceIte];refine g9 [0,8,9] (α:=Nat) (fun k=>[(10,I k)]) (fun k=>[hSb (.fptr x 1 0 0) l sv.length vs fs cuts.length,hNb g fe wi,some (.els 1 (sv.map i9)),some (.els 4 (cuts.map Cu.cells))]) (fun k=>k≤l.length∧∀j,j<k→F9 g ⟨[],wi⟩ l sv j=false) (fun k=>l.length-k) 0 ?_ ?_ ?_
 ·exact⟨Nat.zero_le _,fun j hj=>by omega⟩
 ·exact o1 (j9 (by simp)) (by simp)
 rintro k ⟨k1,k2⟩;simp only[zP,Nat.reduceEqDiff,reduceIte];refine gS fun K hK=>?_;simp -dsimp;apply hK;clear hK K;refine b9 fun K2 hK2=>?_;refine d9 rfl (fun hc0=>?_) (fun hc0=>?_)
 ·have hkl:k<l.length:=by simpa using hc0
  obtain⟨y,hy⟩:∃y,l[k]?=some y:=⟨_,List.getElem?_eq_getElem hkl⟩;have hye:ldA l k=y:=by have:=z8 hkl;rw[hy]at this;exact(Option.some.inj this).symm
  have wk:=zW k (by omega);have gb:=v9 (l:=sv) (k:=k) (by omega);have hya:=hld y (List.mem_of_getElem? hy);have hpl:=o9 (z4 g ⟨[],wi⟩ y.At.toNat);have hpo:=L2 g ⟨[],wi⟩ y.At.toNat;have hdk:F9 g ⟨[],wi⟩ l sv k=(bAt sv k&&(decide (y.Units≠0)&&decide ((k8 g ⟨[],wi⟩ (upN (z4 g ⟨[],wi⟩ y.At.toNat))).length=0))):=by unfold F9;rw[hye]
  refine f6 ?_;simp only[zT,reduceIte,Nat.reduceEqDiff];refine hK2 _ _ ?_;refine b6 [0,8,9,10] (Or.inr (by simp)) ?_;simp only[zP,Nat.reduceEqDiff,reduceIte];refine b9 fun K3 hK3=>?_;refine d7 ?_;refine gS fun K hK=>?_;simp -dsimp [hy];apply hK;clear hK K;refine a9Q [39] [0,3,4,8,9,10] [(0,stg g ⟨[],wi⟩ l sv (fL vs) (fL fs) (cL cuts)),(3,I k),(4, .iptr y.cells)] (⟨.inr (by simp), .inr (by simp), .inr (by simp),trivial⟩) (by decide) (fun T'=>Go.AM.l6 T' 39=Bo (F9 g ⟨[],wi⟩ l sv k)) ?_ ?_
  ·intro J1 hJ1;refine o8 l9 rfl (by decide) rfl rfl fun K hK=>?_;simp -dsimp [gb];refine g8 _ (fun hm=>a5J g ⟨[],wi⟩ l sv (fL vs) (fL fs) (cL cuts) hnt h12 y.At hya.1 hya.2) (by simp) ?_;simp -dsimp [gb];refine g8 _ (fun hm=>a4V g ⟨[],wi⟩ _ hnt.sf (by omega) (by omega)) (by simp) ?_;simp -dsimp [gb];refine hK _ _ _ (by decide+kernel) ?_;clear hK K;exact⟨rfl,by rw[hdk];simp;rw[Bool.eq_iff_iff];simp[and_assoc]⟩
  ·intro T' hR;refine⟨by simp,?_⟩;simp only[List.map_cons,List.map_nil,List.cons_append,List.nil_append,hR,b1j,Go.AM.l6,Nat.reduceEqDiff,reduceIte];refine d9 rfl (fun hc1=>?_) (fun hc1=>?_)
   ·obtain⟨e1,e2,e3⟩:=ht k hkl hc1 k2;subst e1 e2 e3;refine gS fun K hK=>?_;simp -dsimp;refine k9 [0,1] [2,3] [some 0,some 1,none,none,none,some 2,some 3] ((b4a x g fe wi l sv vs fs cuts 1 k ⟨0,1⟩ (by omega) hc).keep (Hk:=[_]) (Hk':=[_]) 0 0 0 (x:=x) (i:=0) (o:=0) rfl rfl rfl rfl rfl rfl) (by decide) rfl (by simp) (by simp) rfl (by simp) ?_;simp -dsimp;apply hK;clear hK K;refine gS fun K hK=>?_;simp -dsimp;apply hK;clear hK K;exact j6 ⟨[some 0,some 1,some 5,some 6],rfl,by simp,by simp,by simp,by simp[C2,n6]⟩
   ·refine f6 ?_;simp only[zT,reduceIte,Nat.reduceEqDiff];refine hK3 _ _ ?_;refine b6 [0,8,9,10] (Or.inr (by simp)) ?_;simp only[zP,Nat.reduceEqDiff,reduceIte];refine gR fun K hK=>?_;simp -dsimp [wk];apply hK;clear hK K;simp only[zT,reduceIte,Nat.reduceEqDiff];exact⟨k+1,⟨by omega,fun j hj=>by rcases(by omega:j<k∨j=k)with h|rfl;exact k2 j h;exact hc1⟩,by omega,o1 (e9 [some 0,some 1,some 2,some 3] rfl (by simp) (by simp)) (by simp)⟩
 ·have hke:k=l.length:=by have hn:¬k<l.length:=(by simpa using hc0);omega
  subst hke;obtain⟨e1,e2,e3⟩:=hf k2;subst e1 e2 e3;refine i6 ?_;simp only[zT,reduceIte,Nat.reduceEqDiff];refine hK1 _ _ ?_;refine b6 [0] (Or.inr (by simp)) ?_;simp only[zP,Nat.reduceEqDiff,reduceIte];refine gS fun K hK=>?_;simp -dsimp;apply hK;clear hK K;exact j6 ⟨[some 0,some 1,some 2,some 3],rfl,by simp,by simp,by simp,by simp[C2,n6]⟩
end Go.Cur
end
section
namespace Go.Cur
open Go.AM Go.Proofs
theorem a4s (l:List Ld) (sv:List Bool) (hl:l.length≤1000) (hs:sv.length=l.length):g6 Try.prog 50 [lL l,bL sv] [] [] (.mp 0) [] [some (.map false [.i .i64] (tkK l sv))]:=by
 refine g6.of_bodyG [] Try.func50 rfl (by decide) (by simp[Try.ntmps50]) rfl rfl ?_;intro J hJ;simp only[Try.ntmps50,Try.results50];refine gS fun K hK=>?_;simp -dsimp;apply hK;clear hK K;refine gS fun K hK=>?_;simp -dsimp;apply hK;clear hK K;refine b9 fun K1 hK1=>?_;refine gS fun K hK=>?_;simp -dsimp;apply hK;clear hK K;refine d7 ?_;refine b6 [1,5,9,10,11] (Or.inr (by simp)) ?_;simp only[zP,Nat.reduceEqDiff,reduceIte];refine g9 [1,5,9,10] (α:=Nat) (fun k=>[(11,I k)]) (fun k=>[some (.map false [.i .i64] (tkK (l.take k) (sv.take k)))]) (fun k=>k≤l.length) (fun k=>l.length-k) 0 ?_ ?_ ?_
 ·exact Nat.zero_le _
 ·exact o1 (j9 (by simp[tkK])) (by simp)
 rintro k k1;simp only[zP,Nat.reduceEqDiff,reduceIte];refine gS fun K hK=>?_;simp -dsimp;apply hK;clear hK K;refine b9 fun K2 hK2=>?_;refine d9 rfl (fun hc0=>?_) (fun hc0=>?_)
 ·have hkl:k<l.length:=by simpa using hc0
  obtain⟨f,hf⟩:∃f,l[k]?=some f:=⟨_,List.getElem?_eq_getElem hkl⟩;have wk:=zW k (by omega);have gb:=v9 (l:=sv) (k:=k) (by omega);have hsn:=a9w hf gb;have hne:¬sv=[]:=by intro e;rw[e]at hs;simp at hs;omega
  refine f6 ?_;simp only[zT,reduceIte,Nat.reduceEqDiff];refine hK2 _ _ ?_;refine b6 [1,5,9,10,11] (Or.inr (by simp)) ?_;simp only[zP,Nat.reduceEqDiff,reduceIte];refine b9 fun K3 hK3=>?_;refine d7 ?_;refine gS fun K hK=>?_;simp -dsimp [hf];apply hK;clear hK K;refine gS fun K hK=>?_;simp -dsimp [gb,hne];refine l3 (i9 (bAt sv k)) (fun _=>by simp[gb]) ?_;simp -dsimp [gb,hne];apply hK;clear hK K;refine d9 rfl (fun hc1=>?_) (fun hc1=>?_)
  ·refine gR fun K hK=>?_;simp -dsimp;apply hK;clear hK K;simp only[zT,reduceIte,Nat.reduceEqDiff];refine hK3 _ _ ?_;refine b6 [1,5,9,10,11] (Or.inr (by simp)) ?_;simp only[zP,Nat.reduceEqDiff,reduceIte];refine gR fun K hK=>?_;simp -dsimp [wk];apply hK;clear hK K;simp only[zT,reduceIte,Nat.reduceEqDiff];have hb:bAt sv k=true:=by simpa using hc1
   exact⟨k+1,by omega,by omega,o1 (e9 [some 0] rfl (by simp) (by simp[hsn,tkS,hb])) (by simp)⟩
  ·refine f6 ?_;simp only[zT,reduceIte,Nat.reduceEqDiff];refine hK3 _ _ ?_;refine b6 [1,5,9,10,11] (Or.inr (by simp)) ?_;simp only[zP,Nat.reduceEqDiff,reduceIte];refine gR fun K hK=>?_;simp -dsimp [wk];apply hK;clear hK K;simp only[zT,reduceIte,Nat.reduceEqDiff];have hb:bAt sv k=false:=by simpa using hc1
   exact⟨k+1,by omega,by omega,o1 (e9 [some 0] rfl (by simp) (by simp[hsn,tkS,hb])) (by simp)⟩
 ·have hke:k=l.length:=by have hn:¬k<l.length:=(by simpa using hc0);omega
  subst hke;have htk:sv.take l.length=sv:=List.take_of_length_le (by omega);refine i6 ?_;simp only[zT,reduceIte,Nat.reduceEqDiff];refine hK1 _ _ ?_;refine b6 [5] (Or.inr (by simp)) ?_;simp only[zP,Nat.reduceEqDiff,reduceIte];refine gS fun K hK=>?_;simp -dsimp;apply hK;clear hK K;exact j6 ⟨[some 0],rfl,by simp,by simp[htk],by simp,by simp[C2,n6]⟩
def a7g (g:Gr) (s:Sta) (us:Kvs) (y:Ld):Bool:=decide (y.Units<0)&&decide (A5 us (z4 g s y.At.toNat)<0)
theorem b7k (g:Gr) (s:Sta) (l:List Ld) (sv:List Bool) (v f c:AV) (hnt:o7 g s) (h12:I7 g s) (us:Kvs) (hI:a1i us) (hus:∀x,-40≤igt us x∧igt us x≤40) (y:Ld) (h0:0≤y.At) (h1:y.At<g.Nodes):
  d6 Try.prog 97 (.agg y.cells::a5B [[stg g s l sv v f c],[.mpc false [.i .i64] us]]) (Bo (a7g g s us y)):=by
 show d6 Try.prog 97 [.agg y.cells, .iptr [stg g s l sv v f c], .iptr [.mpc false [.i .i64] us]] (Bo (a7g g s us y));have hp:=a5J g s l sv v f c hnt h12 y.At h0 h1;have hbd:=t9 hnt.gr;have hpo:=L2 g s y.At.toNat;unfold a7g;generalize z4 g s y.At.toNat=p at hp hpo ⊢;have hpl:=o9 p;refine d6.of_body Try.func97 rfl (by decide) (by simp[Try.ntmps97]) ?_;simp only[Try.ntmps97,Try.results97];refine aS fun K hK=>?_;simp -dsimp;apply hK;clear hK K;refine aS fun K hK=>?_;simp -dsimp;apply hK;clear hK K;refine b8 fun K1 hK1=>?_;refine aS fun K hK=>?_;simp -dsimp;refine d5 _ (hp) (by simp) ?_;simp -dsimp;apply hK;clear hK K;refine e8 ?_;refine b7 [2,3,5,11,12,13] ?_;simp only[zP,Nat.reduceEqDiff,reduceIte];refine i4 [2,3,11,12] (α:=Nat) (fun k=>[(5,I (A5 us (p.take k))),(13,I k)]) (fun k=>[some (.els 3 [y.cells])]) (fun k=>k≤p.length) (fun k=>p.length-k) 0 ?_ ?_ ?_
 ·exact Nat.zero_le _
 ·exact j9 (by simp[A5,sm])
 rintro k k1;simp only[zP,Nat.reduceEqDiff,reduceIte];refine aS fun K hK=>?_;simp -dsimp;apply hK;clear hK K;refine b8 fun K2 hK2=>?_;refine d8 rfl (fun hc0=>?_) (fun hc0=>?_)
 ·have hkn:k<p.length:=by rw[←hpl];simpa using hc0
  obtain⟨x,hx⟩:∃x,p[k]?=some x:=⟨_,List.getElem?_eq_getElem hkn⟩;have gx:=E9 hx;have wk:=zW k (by omega);have hsb:=a2O hus (p.take k);have htl:(p.take k).length=k:=by rw[List.length_take];omega
  rw[htl]at hsb;have ws:IntKind.i64.wrap (A5 us (p.take k)+igt us x)=A5 us (p.take k)+igt us x:=f7 (by have:=hus x;omega) (by have:=hus x;omega);refine f5 ?_;simp only[zT,reduceIte,Nat.reduceEqDiff];refine hK2 _ _ ?_;refine b7 [2,3,5,11,12,13] ?_;simp only[zP,Nat.reduceEqDiff,reduceIte];refine b8 fun K3 hK3=>?_;refine e8 ?_;refine aS fun K hK=>?_;simp -dsimp [gx];apply hK;clear hK K;refine aR fun K hK=>?_;simp -dsimp [p7 hI,ws];refine o4 (_) (fun hm=>rfl) ?_;simp -dsimp [p7 hI,ws];apply hK;clear hK K;simp only[zT,reduceIte,Nat.reduceEqDiff];refine hK3 _ _ ?_;refine b7 [2,3,5,11,12,13] ?_;simp only[zP,Nat.reduceEqDiff,reduceIte];refine aR fun K hK=>?_;simp -dsimp [wk];apply hK;clear hK K;simp only[zT,reduceIte,Nat.reduceEqDiff];exact⟨k+1,by omega,by omega,e9 [some 0] rfl (by simp[a2P hx]) (by simp)⟩
 ·have hkp:¬k<p.length:=by rw[←hpl];simpa using hc0
  have htp:p.take k=p:=List.take_of_length_le (by omega);rw[htp];refine j8 ?_;simp only[zT,reduceIte,Nat.reduceEqDiff];refine hK1 _ _ ?_;refine b7 [3,5] ?_;simp only[zP,Nat.reduceEqDiff,reduceIte];refine aS fun K hK=>?_;simp -dsimp;apply hK;clear hK K;exact g7 (by simp)
theorem a7n (x:Value) (g:Gr) (fe wi:List Bool) (l:List Ld) (sv:List Bool) (vs fs:List Fr) (cuts:List Cu) (hl:l.length≤1000) (hs:sv.length=l.length) (hc:cuts.length≤1000)
  (hld:∀y∈l,0≤y.At∧y.At<g.Nodes) (hnt:o7 g ⟨fe,wi⟩) (h12:I7 g ⟨fe,wi⟩) (hus:∀x,-40≤igt (tkK l sv) x∧igt (tkK l sv) x≤40) (r:Bool) (sv2:List Bool) (cuts2:List Cu)
  (ht:∀i:Nat,leL l sv (a7g g ⟨fe,wi⟩ (tkK l sv)) l.length=i→r=true∧sv2=sv.set i false∧cuts2=cuts++[(⟨2,i,⟨(ldA l i).Units,1⟩⟩:Cu)])
  (hf:leL l sv (a7g g ⟨fe,wi⟩ (tkK l sv)) l.length<0→r=false∧sv2=sv∧cuts2=cuts):
  g6 Try.prog 78 [.ptr 0 0 0] [hSa (.fptr x 1 0 0) l sv.length vs fs cuts.length,hNa g fe wi] [some (.els 1 (sv.map i9)),some (.els 1 (fe.map i9)),some (.els 4 (cuts.map Cu.cells))]
   (Bo r) [hSa (.fptr x 1 0 0) l sv2.length vs fs cuts2.length,hNa g fe wi] [some (.els 1 (sv2.map i9)),some (.els 1 (fe.map i9)),some (.els 4 (cuts2.map Cu.cells))]:=by
 refine g6.keep (Hk:=[_]) (Hk':=[_]) 0 0 0 (x:=x) (i:=0) (o:=0) ?_ rfl rfl rfl rfl rfl rfl;have hlb:=a2V l sv (a7g g ⟨fe,wi⟩ (tkK l sv)) l.length;have hle:=a5a (net g ⟨fe,wi⟩) l sv (fL vs) (fL fs) (cL cuts) 97 [[stg g ⟨fe,wi⟩ l sv (fL vs) (fL fs) (cL cuts)],[.mpc false [.i .i64] (tkK l sv)]] (a7g g ⟨fe,wi⟩ (tkK l sv)) hl hs
  (fun y hy=>b7k g ⟨fe,wi⟩ l sv (fL vs) (fL fs) (cL cuts) hnt h12 (tkK l sv) (W0 l sv) hus y (hld y hy).1 (hld y hy).2)
 generalize leL l sv (a7g g ⟨fe,wi⟩ (tkK l sv)) l.length=out at ht hf hlb hle;refine g6.of_bodyG [0] Try.func78 rfl (by decide) (by simp[Try.ntmps78]) rfl rfl ?_;intro J hJ;simp only[Try.ntmps78,Try.results78];refine gS fun K hK=>?_;simp -dsimp;apply hK;clear hK K;refine w9 l9 rfl (by decide) rfl rfl fun K hK=>?_;simp -dsimp;refine F0 [] [] [none,none,none,none,none,none,some 0] (a4s l sv hl hs) (by decide) rfl (by simp) (by simp) rfl (by simp) (by simp) (by simp) ?_;simp -dsimp;refine hK _ _ _ (by decide+kernel) ?_;clear hK K;refine gS fun K hK=>?_;simp -dsimp;refine d5 _ (hle) (by simp) ?_;simp -dsimp;apply hK;clear hK K;refine b9 fun K1 hK1=>?_;refine gS fun K hK=>?_;simp -dsimp;apply hK;clear hK K;refine d9 rfl (fun hc0=>?_) (fun hc0=>?_)
 ·obtain⟨i,rfl⟩:∃i:Nat,out=i:=⟨out.toNat,by have:0≤out:=(by simpa using hc0);omega⟩;have gl:=z8 (l:=l) (k:=i) (by omega);obtain⟨e1,e2,e3⟩:=ht i rfl;subst e1 e2 e3;refine o8 l9 rfl (by decide) rfl rfl fun K hK=>?_;simp -dsimp [gl];refine k9 [0,1] [2,3,4] [some 0,some 1,none,none,none,none,none,none,some 2,some 3,some 4] ((b3f x g fe wi l sv vs fs cuts 2 i ⟨(ldA l i).Units,1⟩ (by omega) hc).keep (Hk:=[_]) (Hk':=[_]) 0 0 0 (x:=x) (i:=0) (o:=0) rfl rfl rfl rfl rfl rfl) (by decide) rfl (by simp) (by simp) rfl (by simp) ?_;simp -dsimp [gl];refine hK _ _ _ (by decide+kernel) ?_;clear hK K;simp only[zT,reduceIte,Nat.reduceEqDiff];refine hK1 _ _ ?_;refine b6 [0,4] (Or.inr (by simp)) ?_;simp only[zP,Nat.reduceEqDiff,reduceIte];refine gS fun K hK=>?_;simp -dsimp;apply hK;clear hK K;exact j6 ⟨[some 0,some 1,some 8,some 9,some 10],rfl,by simp,by simp,by simp,by simp[C2,n6]⟩
 ·obtain⟨e1,e2,e3⟩:=hf (by have:¬0≤out:=(by simpa using hc0);omega);subst e1 e2 e3;refine f6 ?_;simp only[zT,reduceIte,Nat.reduceEqDiff];refine hK1 _ _ ?_;refine b6 [0,4] (Or.inr (by simp)) ?_;simp only[zP,Nat.reduceEqDiff,reduceIte];refine gS fun K hK=>?_;simp -dsimp;apply hK;clear hK K;exact j6 ⟨[some 0,some 1,some 2,some 3,some 4],rfl,by simp,by simp,by simp,by simp at hc0;simp[C2,n6];omega⟩
theorem a7Z (x:Value) (g:Gr) (fe wi:List Bool) (l:List Ld) (sv:List Bool) (vs fs:List Fr) (cuts:List Cu) (hl:l.length≤1000) (hs:sv.length=l.length) (hc:cuts.length≤1000)
  (hld:∀y∈l,0≤y.At∧y.At<g.Nodes) (hnt:o7 g ⟨[],wi⟩) (h12:I7 g ⟨[],wi⟩) (hus:∀x,-40≤igt (tkK l sv) x∧igt (tkK l sv) x≤40) (r:Bool) (sv2:List Bool) (cuts2:List Cu)
  (ht:∀i:Nat,leL l sv (a7g g ⟨[],wi⟩ (tkK l sv)) l.length=i→r=true∧sv2=sv.set i false∧cuts2=cuts++[(⟨2,i,⟨(ldA l i).Units,1⟩⟩:Cu)])
  (hf:leL l sv (a7g g ⟨[],wi⟩ (tkK l sv)) l.length<0→r=false∧sv2=sv∧cuts2=cuts):
  g6 Try.prog 78 [.ptr 0 0 0] [hSb (.fptr x 1 0 0) l sv.length vs fs cuts.length,hNb g fe wi] [some (.els 1 (sv.map i9)),some (.els 4 (cuts.map Cu.cells))]
   (Bo r) [hSb (.fptr x 1 0 0) l sv2.length vs fs cuts2.length,hNb g fe wi] [some (.els 1 (sv2.map i9)),some (.els 4 (cuts2.map Cu.cells))]:=by
 refine g6.keep (Hk:=[_]) (Hk':=[_]) 0 0 0 (x:=x) (i:=0) (o:=0) ?_ rfl rfl rfl rfl rfl rfl;have hlb:=a2V l sv (a7g g ⟨[],wi⟩ (tkK l sv)) l.length;have hle:=a5a (net g ⟨[],wi⟩) l sv (fL vs) (fL fs) (cL cuts) 97 [[stg g ⟨[],wi⟩ l sv (fL vs) (fL fs) (cL cuts)],[.mpc false [.i .i64] (tkK l sv)]] (a7g g ⟨[],wi⟩ (tkK l sv)) hl hs
  (fun y hy=>b7k g ⟨[],wi⟩ l sv (fL vs) (fL fs) (cL cuts) hnt h12 (tkK l sv) (W0 l sv) hus y (hld y hy).1 (hld y hy).2)
 generalize leL l sv (a7g g ⟨[],wi⟩ (tkK l sv)) l.length=out at ht hf hlb hle;refine g6.of_bodyG [0] Try.func78 rfl (by decide) (by simp[Try.ntmps78]) rfl rfl ?_;intro J hJ;simp only[Try.ntmps78,Try.results78];refine gS fun K hK=>?_;simp -dsimp;apply hK;clear hK K;refine w9 l9 rfl (by decide) rfl rfl fun K hK=>?_;simp -dsimp;refine F0 [] [] [none,none,none,none,none,some 0] (a4s l sv hl hs) (by decide) rfl (by simp) (by simp) rfl (by simp) (by simp) (by simp) ?_;simp -dsimp;refine hK _ _ _ (by decide+kernel) ?_;clear hK K;refine gS fun K hK=>?_;simp -dsimp;refine d5 _ (hle) (by simp) ?_;simp -dsimp;apply hK;clear hK K;refine b9 fun K1 hK1=>?_;refine gS fun K hK=>?_;simp -dsimp;apply hK;clear hK K;refine d9 rfl (fun hc0=>?_) (fun hc0=>?_)
 ·obtain⟨i,rfl⟩:∃i:Nat,out=i:=⟨out.toNat,by have:0≤out:=(by simpa using hc0);omega⟩;have gl:=z8 (l:=l) (k:=i) (by omega);obtain⟨e1,e2,e3⟩:=ht i rfl;subst e1 e2 e3;refine o8 l9 rfl (by decide) rfl rfl fun K hK=>?_;simp -dsimp [gl];refine k9 [0,1] [2,3] [some 0,some 1,none,none,none,none,none,some 2,some 3] ((b4a x g fe wi l sv vs fs cuts 2 i ⟨(ldA l i).Units,1⟩ (by omega) hc).keep (Hk:=[_]) (Hk':=[_]) 0 0 0 (x:=x) (i:=0) (o:=0) rfl rfl rfl rfl rfl rfl) (by decide) rfl (by simp) (by simp) rfl (by simp) ?_;simp -dsimp [gl];refine hK _ _ _ (by decide+kernel) ?_;clear hK K;simp only[zT,reduceIte,Nat.reduceEqDiff];refine hK1 _ _ ?_;refine b6 [0,4] (Or.inr (by simp)) ?_;simp only[zP,Nat.reduceEqDiff,reduceIte];refine gS fun K hK=>?_;simp -dsimp;apply hK;clear hK K;exact j6 ⟨[some 0,some 1,some 7,some 8],rfl,by simp,by simp,by simp,by simp[C2,n6]⟩
 ·obtain⟨e1,e2,e3⟩:=hf (by have:¬0≤out:=(by simpa using hc0);omega);subst e1 e2 e3;refine f6 ?_;simp only[zT,reduceIte,Nat.reduceEqDiff];refine hK1 _ _ ?_;refine b6 [0,4] (Or.inr (by simp)) ?_;simp only[zP,Nat.reduceEqDiff,reduceIte];refine gS fun K hK=>?_;simp -dsimp;apply hK;clear hK K;exact j6 ⟨[some 0,some 1,some 2,some 3],rfl,by simp,by simp,by simp,by simp at hc0;simp[C2,n6];omega⟩
end Go.Cur
end
section
namespace Go.Cur
open Go.AM Go.Proofs
def a8T (s:Kvs):Prop:=∀p∈s,∃b,p.2= .bool b
def ibt (s:Kvs) (x:Int):Bool:=match t5 s (ik x)with|some (.bool b)=>b|_=>false
theorem a9a {s:Kvs} (hs:a8T s) (x:Int):(t5 s (ik x)).getD (.bool false)= .bool (ibt s x):=by
 unfold ibt
 cases h:t5 s (ik x)with
 |none=>rfl
 |some v=>
  obtain⟨p,hp,e⟩:=c0s h;obtain⟨n,hn⟩:=hs p hp;rw[←e,hn];rfl
theorem a8T.set {s:Kvs} (hs:a8T s) (x:Int) (b:Bool):a8T (y5 s (ik x) (.bool b)):=fun p hp=>by
 rcases a6h hp with rfl|hp
 ·exact⟨b,rfl⟩
 ·exact hs p hp
theorem a8T.nil:a8T []:=fun p hp=>by cases hp
theorem b7X (s:Kvs) (x y:Int) (b:Bool):ibt (y5 s (ik x) (.bool b)) y=if y=x then b else ibt s y:=by
 unfold ibt;rw[a3T]
 by_cases h:y=x
 ·rw[if_pos (by rw[h]),if_pos h]
 ·rw[if_neg (fun e=>h (P6.1 e)),if_neg h]
@[simp] theorem b8X (x:Int):ibt [] x=false:=rfl
def a7e (bs:Kvs) (y:Ld):Bool:=decide (0<y.Units)&&ibt bs y.At
theorem b6w (bs:Kvs) (hb:a8T bs) (y:Ld):d6 Try.prog 98 (.agg y.cells::a5B [[.mpc false [.i .i64] bs]]) (Bo (a7e bs y)):=by
 show d6 Try.prog 98 [.agg y.cells, .iptr [.mpc false [.i .i64] bs]] (Bo (a7e bs y));unfold a7e;refine d6.of_body Try.func98 rfl (by decide) (by simp[Try.ntmps98]) ?_;simp only[Try.ntmps98,Try.results98];refine aS fun K hK=>?_;simp -dsimp;apply hK;clear hK K;refine aS fun K hK=>?_;simp -dsimp [a9a hb];refine o4 (_) (fun hm=>rfl) ?_;simp -dsimp [a9a hb];apply hK;clear hK K;exact g7 (by simp)
theorem X2 (g:Gr) (s:Sta) (us:Kvs) (hnt:o7 g s) (h12:I7 g s) (vf:Nat→Fr) (hv:∀p∈j7 g s,∃v d,a1A g s us p v d vf):
  g6 Try.prog 49 [net g s, .mpc false [.i .i64] us] [] [] (.tup [.agg [.row 0 0 g.Nodes.toNat, .row 1 0 g.Feeds.length],Bo true]) []
   [some (.els 2 ((vlA g.Nodes.toNat vf).map Fr.cells)),some (.els 2 ((flA g s vf).map Fr.cells)),some (.els 2 [[.row 0 0 g.Nodes.toNat, .row 1 0 g.Feeds.length]]),some (.els 1 [[Bo true]])]:=by
 have hbd:=t9 hnt.gr;obtain⟨N,hnn⟩:∃N:Nat,g.Nodes.toNat=N:=⟨g.Nodes.toNat,rfl⟩;have hn0:0≤g.Nodes:=by omega
 rw[hnn];have hit:=a6w g s hnt h12;have hc:=a2H (ntC g (bL s.Feeds) (bL s.Wires));have hcov:=fun k=>R8 (k:=k) hnt;have hlt:=fun p (hp:p∈j7 g s) k (hk:k∈p)=>G4 hp hk;rw[hnn]at hcov hlt;have h12':∀p∈j7 g s,p.length≤12:=h12;generalize j7 g s=L at hit hv hcov hlt h12';have f0:I9 N 17:=m8 (by omega) (by omega);have f1:I9 g.Feeds.length 17:=m8 (by omega) (by omega);refine g6.of_bodyG [] Try.func49 rfl (by decide) (by simp[Try.ntmps49]) rfl rfl ?_;intro J hJ;simp only[Try.ntmps49,Try.results49];refine gS fun K hK=>?_;simp -dsimp;apply hK;clear hK K;refine w9 l9 rfl (by decide) rfl rfl fun K hK=>?_;simp -dsimp [hn0,hnn,f0,f1];refine hK _ _ _ (by decide+kernel) ?_;clear hK K;refine b9 fun K1 hK1=>?_;refine gS fun K hK=>?_;simp -dsimp;refine d5 _ (hc) (by simp) ?_;simp -dsimp;apply hK;clear hK K;refine d7 ?_;refine b6 [2,3,4,5,6,32] (Or.inr (by simp)) ?_;simp only[zP,Nat.reduceEqDiff,reduceIte];refine G7 hJ [2,3,4,5,6,32] (fun t=>[some (.els 1 [[net g s]]),some (.els 1 [[.mpc false [.i .i64] us]]),some (.els 2 [[.v (.slice none 0 0), .v (.slice none 0 0)]]),some (.els 1 [[Bo false]]),some (.els 2 ((vlF N vf (L.take t).flatten).map Fr.cells)),some (.els 2 ((flF g s vf 0).map Fr.cells)),some (.els 2 [[.row 4 0 N, .row 5 0 g.Feeds.length]])]) (fun t=>True) rfl (hit) rfl (by simp) (by decide) (by decide) (by decide) (a2i L) ?_ ?_ ?_ ?_
 ·trivial
 ·exact e9 [some 0,some 1,some 2,some 3,some 4,some 5,some 6] rfl (by simp) (by simp[b1n,b0j])
 ·intro n xv hxn hi l1 J1 hJ1;obtain⟨p,hp,rfl⟩:∃p,L[n]?=some p∧pAV p=xv:=by simpa using hxn
  have hpm:=List.mem_of_getElem? hp;obtain⟨v,d,hV⟩:=hv p hpm;have hpl:=o9 p;have hcall:=hV.call;have hvl:=hV.len;have hp12:=h12' p hpm;have hd0:=hV.d0;have hd1:=hV.d1;simp only[pAV];simp only[List.zip_cons_cons,List.zip_nil_left,List.zip_nil_right,List.cons_append,List.nil_append];refine gR fun K hK=>?_;simp -dsimp;apply hK;clear hK K;simp only[a6z];intro J2 hJ2;refine b6 [2,3,4,5,6,7,32] (Or.inr (by simp)) ?_;simp only[zP,Nat.reduceEqDiff,reduceIte];refine d7 ?_;refine gS fun K hK=>?_;simp -dsimp;refine d5 _ (hcall) (by simp) ?_;simp -dsimp;apply hK;clear hK K;refine b9 fun K2 hK2=>?_;refine gS fun K hK=>?_;simp -dsimp;apply hK;clear hK K;refine d9 rfl (fun hc0=>?_) (fun hc0=>?_)
  ·simp at hc0
  ·refine f6 ?_;simp only[zT,reduceIte,Nat.reduceEqDiff];refine hK2 _ _ ?_;refine b6 [2,3,4,5,6,7,8,9,32] (Or.inr (by simp)) ?_;simp only[zP,Nat.reduceEqDiff,reduceIte];refine gS fun K hK=>?_;simp -dsimp;apply hK;clear hK K;refine d7 ?_;refine b6 [2,3,4,5,6,8,9,32,45,46,47] (Or.inr (by simp)) ?_;simp only[zP,Nat.reduceEqDiff,reduceIte];refine g9 [2,3,4,5,6,8,9,32,45,46] (α:=Nat) (fun i=>[(47,I i)]) (fun i=>[some (.els 1 [[net g s]]),some (.els 1 [[.mpc false [.i .i64] us]]),some (.els 2 [[.v (.slice none 0 0), .v (.slice none 0 0)]]),some (.els 1 [[Bo false]]),some (.els 2 ((vlF N vf ((L.take n).flatten++p.take i)).map Fr.cells)),some (.els 2 ((flF g s vf 0).map Fr.cells)),some (.els 2 [[.row 4 0 N, .row 5 0 g.Feeds.length]])]) (fun i=>i≤p.length) (fun i=>p.length-i) 0 ?_ ?_ ?_
   ·exact Nat.zero_le _
   ·exact o1 (e9 [some 0,some 1,some 2,some 3,some 4,some 5,some 6] rfl (by simp) (by simp)) (by simp)
   rintro i i1;simp only[zP,Nat.reduceEqDiff,reduceIte];refine gS fun K hK=>?_;simp -dsimp;apply hK;clear hK K;refine b9 fun K3 hK3=>?_;refine d9 rfl (fun hc1=>?_) (fun hc1=>?_)
   ·have hil:i<p.length:=by rw[←hpl];simpa using hc1
    obtain⟨k,hk⟩:∃k,p[i]?=some k:=⟨_,List.getElem?_eq_getElem hil⟩;have gk:=E9 hk;have gv:=C3 (l:=v) (k:=i) (by omega);have hkN:=hlt p hpm k (List.mem_of_getElem? hk);have wi:=zW i (by omega);have hnb:=hV.nb _ (List.mem_of_getElem? gv);have hfr:=F3 (at0 v (i:Nat)) d hd0 (by omega) (by omega) (by omega);have hfk:=hV.fr i k hk;rw[←hfk]at hfr;have hvls:=a7Y N vf ((L.take n).flatten++p.take i);have gvl:=a5y (vf:=vf) (done:=(L.take n).flatten++p.take i) hkN;have hst:=b3p (n:=N) (vf:=vf) (done:=(L.take n).flatten++p.take i) (k:=k);have hpt:p.take (i+1)=p.take i++[k]:=by rw[List.take_add_one,hk];rfl
    rw[List.append_assoc,←hpt]at hst;generalize vlF N vf ((L.take n).flatten++p.take i)=VL at hvls gvl hst ⊢;refine f6 ?_;simp only[zT,reduceIte,Nat.reduceEqDiff];refine hK3 _ _ ?_;refine b6 [2,3,4,5,6,8,9,32,45,46,47] (Or.inr (by simp)) ?_;simp only[zP,Nat.reduceEqDiff,reduceIte];refine b9 fun K4 hK4=>?_;refine d7 ?_;refine gS fun K hK=>?_;simp -dsimp [gk];apply hK;clear hK K;refine o8 l9 rfl (by decide) rfl rfl fun K hK=>?_;simp -dsimp [gv,hkN,hvls,gvl];refine d5 _ (hfr) (by simp) ?_;simp -dsimp [gv,hkN,hvls,gvl];refine hK _ _ _ (by decide+kernel) ?_;clear hK K;simp only[zT,reduceIte,Nat.reduceEqDiff];refine hK4 _ _ ?_;refine b6 [2,3,4,5,6,8,9,32,45,46,47] (Or.inr (by simp)) ?_;simp only[zP,Nat.reduceEqDiff,reduceIte];refine gR fun K hK=>?_;simp -dsimp [wi];apply hK;clear hK K;simp only[zT,reduceIte,Nat.reduceEqDiff];exact⟨i+1,by omega,by omega,o1 (e9 [some 0,some 1,some 2,some 3,some 4,some 5,some 6] rfl (by simp) (by simp[←hst,List.map_set])) (by simp)⟩
   ·have hil:¬i<p.length:=by rw[←hpl];simpa using hc1
    have hpt:p.take i=p:=List.take_of_length_le (by omega);rw[hpt];refine i6 ?_;simp only[Q8,B9,a1d,reduceIte,Nat.reduceEqDiff,eq_self];have hfl:(L.take (n+1)).flatten=(L.take n).flatten++p:=by rw[List.take_add_one,hp,List.flatten_append];simp
    exact⟨trivial,e9 [some 0,some 1,some 2,some 3,some 4,some 5,some 6] rfl (by simp) (by simp[hfl])⟩
 ·intro hdone;simp only[zT,reduceIte,Nat.reduceEqDiff];refine hK1 _ _ ?_;refine b6 [2,4,5,6] (Or.inr (by simp)) ?_;simp only[zP,Nat.reduceEqDiff,reduceIte];refine b9 fun K5 hK5=>?_;refine gS fun K hK=>?_;simp -dsimp;apply hK;clear hK K;refine d7 ?_;refine b6 [2,4,5,6,67,68,69] (Or.inr (by simp)) ?_;simp only[zP,Nat.reduceEqDiff,reduceIte];refine g9 [2,4,5,6,67,68] (α:=Nat) (fun i=>[(69,I i)]) (fun i=>[some (.els 1 [[net g s]]),some (.els 1 [[.mpc false [.i .i64] us]]),some (.els 2 [[.v (.slice none 0 0), .v (.slice none 0 0)]]),some (.els 1 [[Bo false]]),some (.els 2 ((vlA N vf).map Fr.cells)),some (.els 2 ((flF g s vf i).map Fr.cells)),some (.els 2 [[.row 4 0 N, .row 5 0 g.Feeds.length]])]) (fun i=>i≤g.Feeds.length) (fun i=>g.Feeds.length-i) 0 ?_ ?_ ?_
  ·exact Nat.zero_le _
  ·have hva:vlF N vf L.flatten=vlA N vf:=b8L fun k hk=>hcov k hk;rw[hva];exact o1 (e9 [some 0,some 1,some 2,some 3,some 4,some 5,some 6] rfl (by simp) (by simp)) (by simp)
  rintro i i1;simp only[zP,Nat.reduceEqDiff,reduceIte];refine gS fun K hK=>?_;simp -dsimp;apply hK;clear hK K;refine b9 fun K6 hK6=>?_;refine d9 rfl (fun hc2=>?_) (fun hc2=>?_)
  ·have hil:i<g.Feeds.length:=by simpa using hc2
   have hfi:g.Feeds[i]?=some (fdI g i):=by have:=a0B (g:=g) (i:=(i:Int)) (by omega) (by omega);rwa [Int.toNat_natCast]at this
   have hfb:=hnt.feeds _ (List.mem_of_getElem? hfi);have wi:=zW i (by omega);have hff:ffF g s vf i=if bAt s.Feeds i=true∧0<(fdI g i).Volts*(vf (fdI g i).At.toNat).Den-(vf (fdI g i).At.toNat).Num then red ((fdI g i).Siem*((fdI g i).Volts*(vf (fdI g i).At.toNat).Den-(vf (fdI g i).At.toNat).Num)) (vf (fdI g i).At.toNat).Den else⟨0,1⟩:=rfl;obtain⟨kA,hkA⟩:∃kA:Nat,kA=(fdI g i).At.toNat:=⟨_,rfl⟩;have hkN:kA<N:=by omega
   have hA0:0≤(fdI g i).At:=hfb.1;have gvv:=Q5 (vf:=vf) hkN;have hvb:0<(vf kA).Den∧(vf kA).Den≤100000000000000∧(vf kA).Num.natAbs≤300000000000000000:=by
    obtain⟨p,hp,hkp⟩:=List.mem_flatten.1 (hcov kA hkN);obtain⟨v,d,hV⟩:=hv p hp;obtain⟨j,hj⟩:=List.getElem?_of_mem hkp;have hjl:=(List.getElem?_eq_some_iff.1 hj).1;have hd0:=hV.d0;have hd1:=hV.d1;have hr:=a1j (n:=at0 v (j:Nat)) hd0;have hgv:=C3 (l:=v) (k:=j) (by rw[hV.len];exact hjl);have hnb:=hV.nb _ (List.mem_of_getElem? hgv);rw[hV.fr j kA hj];omega
   have gfe:=a7p (s:=s) (vf:=vf) (k:=i) hil;have hfll:=b1I g s vf i;have hfst:=b8C (g:=g) (s:=s) (vf:=vf) (k:=i);have hsf:=hnt.sf;have gsf:=v9 (l:=s.Feeds) (k:=i) (by omega);rw[←hkA]at hff;generalize fdI g i=f at hfi hfb hff hkA hA0;generalize vf kA=vk at gvv hvb hff;have hvd:0≤f.Volts*vk.Den∧f.Volts*vk.Den≤100000000000000000:=⟨Int.mul_nonneg (by omega) (by omega),Int.le_trans (Int.mul_le_mul hfb.2.2.2.1 hvb.2.1 (by omega) (by omega)) (by omega)⟩;have w1:IntKind.i64.wrap (f.Volts*vk.Den)=f.Volts*vk.Den:=f7 (by omega) (by omega);have w2:IntKind.i64.wrap (f.Volts*vk.Den-vk.Num)=f.Volts*vk.Den-vk.Num:=f7 (by omega) (by omega);generalize hD:f.Volts*vk.Den-vk.Num=D at w2 hff;have hsd:f.Siem*D≤4000000000000000000∧-4000000000000000000≤f.Siem*D:=by
    rcases(by omega:f.Siem=1∨f.Siem=2∨f.Siem=3∨f.Siem=4)with h|h|h|h<;>rw[h]<;>omega
   have w3:IntKind.i64.wrap (f.Siem*D)=f.Siem*D:=f7 (by omega) (by omega);have hfr:=F3 (f.Siem*D) vk.Den hvb.1 (by omega) (by omega) (by omega);refine f6 ?_;simp only[zT,reduceIte,Nat.reduceEqDiff];refine hK6 _ _ ?_;refine b6 [2,4,5,6,67,68,69] (Or.inr (by simp)) ?_;simp only[zP,Nat.reduceEqDiff,reduceIte];refine b9 fun K7 hK7=>?_;refine d7 ?_;refine gS fun K hK=>?_;simp -dsimp [hfi];apply hK;clear hK K;refine gS fun K hK=>?_;simp -dsimp [hil,hfll,gfe];apply hK;clear hK K;refine gS fun K hK=>?_;simp -dsimp [←hkA,hkN,gvv,hA0];apply hK;clear hK K;refine gS fun K hK=>?_;simp -dsimp [w1,hD,w2];apply hK;clear hK K;refine gS fun K hK=>?_;simp -dsimp [gsf];apply hK;clear hK K;refine d9 rfl (fun hc3=>?_) (fun hc3=>?_)
   ·refine o8 l9 rfl (by decide) rfl rfl fun K hK=>?_;simp -dsimp [hil,hfll,w3];refine d5 _ (hfr) (by simp) ?_;simp -dsimp [hil,hfll,w3];refine hK _ _ _ (by decide+kernel) ?_;clear hK K;simp only[zT,reduceIte,Nat.reduceEqDiff];refine hK7 _ _ ?_;refine b6 [2,4,5,6,67,68,69] (Or.inr (by simp)) ?_;simp only[zP,Nat.reduceEqDiff,reduceIte];refine gR fun K hK=>?_;simp -dsimp [wi];apply hK;clear hK K;simp only[zT,reduceIte,Nat.reduceEqDiff];have hcd:bAt s.Feeds i=true∧0<D:=by simpa using hc3
    rw[if_pos hcd]at hff;rw[hff]at hfst;exact⟨i+1,by omega,by omega,o1 (e9 [some 0,some 1,some 2,some 3,some 4,some 5,some 6] rfl (by simp) (by simp[←hfst,List.map_set])) (by simp)⟩
   ·refine f6 ?_;simp only[zT,reduceIte,Nat.reduceEqDiff];refine hK7 _ _ ?_;refine b6 [2,4,5,6,67,68,69] (Or.inr (by simp)) ?_;simp only[zP,Nat.reduceEqDiff,reduceIte];refine gR fun K hK=>?_;simp -dsimp [wi];apply hK;clear hK K;simp only[zT,reduceIte,Nat.reduceEqDiff];have hcd:¬(bAt s.Feeds i=true∧0<D):=by intro h;simp[h.1,h.2]at hc3
    rw[if_neg hcd]at hff;rw[hff]at hfst;exact⟨i+1,by omega,by omega,o1 (e9 [some 0,some 1,some 2,some 3,some 4,some 5,some 6] rfl (by simp) (by simp[←hfst,List.map_set])) (by simp)⟩
  ·have hil:¬i<g.Feeds.length:=by simpa using hc2
   have hie:i=g.Feeds.length:=by omega
   have hvN:(vlA N vf).length=N:=by simp[vlA]
   have hfN:(flA g s vf).length=g.Feeds.length:=by simp[flA]
   have htv:List.take N ((vlA N vf).map Fr.cells)=(vlA N vf).map Fr.cells:=List.take_of_length_le (by simp;omega);have htf:List.take g.Feeds.length ((flA g s vf).map Fr.cells)=(flA g s vf).map Fr.cells:=List.take_of_length_le (by simp;omega);rw[hie,b7U];refine i6 ?_;simp only[zT,reduceIte,Nat.reduceEqDiff];refine hK5 _ _ ?_;refine b6 [4,5,6] (Or.inr (by simp)) ?_;simp only[zP,Nat.reduceEqDiff,reduceIte];refine gS fun K hK=>?_;simp -dsimp;apply hK;clear hK K;exact j6 ⟨[some 4,some 5,some 2,some 3],rfl,by simp,by simp,by simp,by simp[C2,n6]⟩
end Go.Cur
end
section
namespace Go.AM
def b5G (n:Nat):AV→AV
 | .v x=> .v x
 | .row i k m=> .row (n+i) k m
 | .ptr i k o=> .ptr (n+i) k o
 | .mp i=> .mp (n+i)
 | .agg cs=> .agg (cs.map fun c=>match c with| .v x=> .v x| .row i k m=> .row (n+i) k m| .ptr i k o=> .ptr (n+i) k o| .mp i=> .mp (n+i)|_=> .any)
 |_=> .any
def a3j (n:Nat):l7→l7
 | .els sz es=> .els sz (es.map fun e=>e.map (b5G n))
 | .map ag kts kvs=> .map ag kts kvs
 | .itr ag kts left cur=> .itr ag kts left cur
def upρ (n:Nat) (ρ ρ1:Nat→Option Loc) (r:Nat):Option Loc:=if r<n then ρ r else ρ1 (r-n)
theorem a4T (n:Nat) (ρ ρ1:Nat→Option Loc) (i:Nat):upρ n ρ ρ1 (n+i)=ρ1 i:=by
 unfold upρ;rw[if_neg (by omega),Nat.add_sub_cancel_left]
theorem b7t {w:World} {ρ ρ1:Nat→Option Loc} {L1 L:Nat→Prop} {S1 S:Nat→Prop} {n:Nat} (hL:∀r,L1 r→L (n+r)) {x:AV} {y:Value} (h:k7 w S1 ρ1 L1 x y):k7 w S (upρ n ρ ρ1) L (b5G n x) y:=by
 have row:∀{i k m:Nat} {y:Value},k7 w S1 ρ1 L1 (.row i k m) y→k7 w S (upρ n ρ ρ1) L (.row (n+i) k m) y:=by
  intro i k m y h
  cases h with
  |pure _ _ h=>cases h
  |row _ _ _ _ h1 h2 h3=>exact .row _ _ _ _ (hL _ h1) h2 (fun l hl=>h3 l (a4T n ρ ρ1 i▸hl))
 have ptr:∀{i k m:Nat} {y:Value},k7 w S1 ρ1 L1 (.ptr i k m) y→k7 w S (upρ n ρ ρ1) L (.ptr (n+i) k m) y:=by
  intro i k m y h
  cases h with
  |pure _ _ h=>cases h
  |ptr _ _ _ _ h1 h2 h3=>exact .ptr _ _ _ _ (hL _ h1) h2 (fun l hl=>h3 l (a4T n ρ ρ1 i▸hl))
 have mp:∀{i:Nat} {y:Value},k7 w S1 ρ1 L1 (.mp i) y→k7 w S (upρ n ρ ρ1) L (.mp (n+i)) y:=by
  intro i y h
  cases h with
  |pure _ _ h=>cases h
  |mp _ _ h1 h2 h3=>exact .mp _ _ (hL _ h1) h2 (fun l hl=>h3 l (a4T n ρ ρ1 i▸hl))
 cases x with
 |v c=>rw[m7 h];exact .pure _ _ (.v _)
 |row i k m=>exact row h
 |ptr i k m=>exact ptr h
 |mp i=>exact mp h
 | agg cs=>
  obtain⟨vs,rfl,hl,hc⟩:=B7 h;refine .agg _ vs (by simpa using hl) (fun u hu=>?_) (fun i c u h1 h2=>?_)
  ·obtain⟨i,hi,rfl⟩:=List.getElem_of_mem hu;exact(hc i _ _ (List.getElem?_eq_getElem (by omega)) (List.getElem?_eq_getElem hi)).1
  ·simp only[List.getElem?_map,Option.map_eq_some_iff]at h1;obtain⟨c',h1,rfl⟩:=h1;have h3:=(hc i c' u h1 h2).2
   cases c' with
   |v c=>rw[m7 h3];exact .pure _ _ (.v _)
   |row i k m=>exact row h3
   |ptr i k m=>exact ptr h3
   |mp i=>exact mp h3
   |_=>exact .pure _ _ (.any _)
 |_=>exact .pure _ _ (.any _)
theorem a9N (H H':Hp) (r:Nat):m6 (H++H') r=if r<H.length then m6 H r else m6 H' (r-H.length):=by
 rw[G0,G0,G0]
 split
 ·rename_i h;rw[List.getElem?_append_left h]
 ·rename_i h;rw[List.getElem?_append_right (by omega)]
theorem Z6 {P:Program} {ro:Option Nat} {J:Jt} {nt:Nat} {kp0:List Nat} {T:Tm} {H:Hp} {Q:Exit→Tm→Hp→Prop} {x y:Code} (us kp:List Nat) (Tf:Tm) (hT:a1s H [] T Tf) (hkk:∀t∈kp0,t∈kp)
  (R:Tm→Hp→Prop) (hin:∀J1,JOk J1→GWp P ro J1 nt kp x Tf [] (fun e T' H'=>e= .normal∧a7K H'=true∧R T' H'))
  (hout:∀T' H',R T' H'→l6 (us.map (fun t=>(t,b5G H.length (l6 T' t)))++kp.map (fun t=>(t,l6 T t))) 999999=l6 T 999999∧
   GWp P ro J nt kp0 y (us.map (fun t=>(t,b5G H.length (l6 T' t)))++kp.map (fun t=>(t,l6 T t))) (H++H'.map (Option.map (a3j H.length))) Q):GWp P ro J nt kp0 (.seq x y) T H Q:=by
 intro hJ kv a w ⟨⟨S0,ρ,L,hc,hL,hj,hm⟩,hk⟩;have hf:=a2b (T':=Tf) (H':=[]) [] (by intro i j q h;simp at h) hT rfl hc
 let B1:Nat→Prop:=fun b=>w.heap.size≤b
 have hJ1:JOk (a7G B1 S0 w J.mark):=a4C fun b h=>h;have hs1:SG (a7G B1 S0 w J.mark) nt kp (fun t=>a.tmps.getD t undef) Tf [] a w:=by
  refine⟨⟨S0,m5 ρ [],fun r=>r<([]:List (Option Nat)).length,hf,fun r h=>by simp at h,⟨rfl,Ext.refl _ _,?_⟩,hm⟩,fun _ _=>rfl⟩;rintro b ⟨r,l,h1,_⟩;obtain⟨q,h,_⟩:=i7 h1;simp at h
 refine wpIn_seq (wpIn_mono (hin _ hJ1 hJ1 _ a w hs1) ?_);rintro e a' w' ⟨T',H',⟨rfl,hni,hR⟩,⟨⟨S0',ρ1,L1,hc1,hL1,⟨rfl,hx1,ho1⟩,hm1⟩,hk1⟩⟩;obtain⟨hy,ho⟩:=hout T' H' hR;have hnr:∀{r l},ρ r=some l→r<H.length:=fun h=>hL _ (hc.wf.given _ _ h);have hold:∀{r l b},ρ r=some l→l.b=some b→b<w.heap.size:=fun h1 h2=>(hc.wf.own _ _ _ h1 h2).1;have hnew:∀{r l b},ρ1 r=some l→l.b=some b→w.heap.size≤b:=fun h1 h2=>ho1 _ ⟨_,_,h1,h2⟩;have hcase:∀{r l},upρ H.length ρ ρ1 r=some l→(r<H.length∧ρ r=some l)∨(H.length≤r∧ρ1 (r-H.length)=some l):=by
  intro r l h;unfold upρ at h
  split at h
  ·rename_i h1;exact Or.inl ⟨h1,h⟩
  ·rename_i h1;exact Or.inr ⟨by omega,h⟩
 have hS:∀b,b<w.heap.size→¬Sx S0' ρ b→w'.heap[b]?=w.heap[b]?∧¬Sx S0' (upρ H.length ρ ρ1) b:=by
  intro b hb hn;refine⟨hx1.block b hb (by show¬w.heap.size≤b;omega),?_⟩;rintro(h|⟨r,l,h1,h2⟩)
  ·exact hn (Or.inl h)
  ·rcases hcase h1 with⟨_,h3⟩|⟨_,h3⟩
   ·exact hn (Or.inr ⟨r,l,h3,h2⟩)
   ·have:=hnew h3 h2;omega
 have hρ:∀r l,L r→upρ H.length ρ ρ1 r=some l→ρ r=some l:=by
  intro r l hr h;unfold upρ at h
  rwa [if_pos (hL r hr)]at h
 have hLo:∀r,L r→r<(H++H'.map (Option.map (a3j H.length))).length:=fun r hr=>by have:=hL r hr;rw[List.length_append];omega
 have hLn:∀r,L1 r→H.length+r<(H++H'.map (Option.map (a3j H.length))).length:=fun r hr=>by have:=hL1 r hr;rw[List.length_append,List.length_map];omega
 refine ho hJ kv a' w' ⟨⟨S0',upρ H.length ρ ρ1,fun r=>r<(H++H'.map (Option.map (a3j H.length))).length,⟨⟨?_,fun r l b h1 h2=>?_,fun r l h1=>?_,hc1.wf.low,fun _ _=>trivial⟩,hc1.size,rfl,?_,?_,?_⟩,fun r h=>h,?_,hm1⟩,fun t ht=>(hk1 t (hkk t ht)).trans (hk t ht)⟩
 ·intro r r' l l' b h1 h2 k1 k2
  rcases hcase h1 with⟨_,h3⟩|⟨_,h3⟩<;>rcases hcase h2 with⟨_,h4⟩|⟨_,h4⟩
  ·exact hc.wf.inj r r' l l' b h3 h4 k1 k2
  ·have:=hold h3 k1;have:=hnew h4 k2;omega
  ·have:=hold h4 k2;have:=hnew h3 k1;omega
  ·have:=hc1.wf.inj _ _ l l' b h3 h4 k1 k2;omega
 ·rcases hcase h1 with⟨_,h3⟩|⟨_,h3⟩
  ·obtain⟨p1,p2,p3⟩:=hc.wf.own r l b h3 h2;exact⟨Nat.lt_of_lt_of_le p1 hx1.size,p2,p3⟩
  ·obtain⟨p1,p2,p3⟩:=hc1.wf.own _ l b h3 h2;exact⟨p1,p2,p3⟩
 ·rcases hcase h1 with⟨h,_⟩|⟨h,h3⟩
  ·show r<_;rw[List.length_append];omega
  ·have:=hLn _ (hc1.wf.given _ _ h3);show r<_;omega
 ·have gen:∀(l:Tm),(∀p∈l,k7 w' (Sx S0' (upρ H.length ρ ρ1)) (upρ H.length ρ ρ1) (fun r=>r<(H++H'.map (Option.map (a3j H.length))).length) p.2 (a'.tmps.getD p.1 undef))→∀t,k7 w' (Sx S0' (upρ H.length ρ ρ1)) (upρ H.length ρ ρ1) (fun r=>r<(H++H'.map (Option.map (a3j H.length))).length) (l6 l t) (a'.tmps.getD t undef):=by
   intro l
   induction l with
   |nil=>intro _ t;exact .pure _ _ (.any _)
   |cons p l ih=>
    intro h t;obtain⟨i,x⟩:=p;simp only[l6]
    split
    ·rename_i e;subst e;exact h (_,x) (by simp)
    ·exact ih (fun p hp=>h p (by simp[hp])) t
  refine gen _ fun p hp=>?_;rw[List.mem_append]at hp
  rcases hp with hp|hp
  ·obtain⟨t,_,rfl⟩:=List.mem_map.1 hp;exact b7t hLn (hc1.tmps t)
  ·obtain⟨t,ht,rfl⟩:=List.mem_map.1 hp;show k7 _ _ _ _ (l6 T t) (a'.tmps.getD t undef);rw[hk1 t ht];exact(hc.tmps t).ext hx1.size hS hLo hρ
 ·intro r row hr;rw[a9N]at hr
  split at hr
  ·rename_i hrl;obtain⟨l,hl,hrow⟩:=hc.rows r row hr;refine⟨l,by unfold upρ;rw[if_pos hrl];exact hl,hrow.ext hx1.size hS hLo hρ (fun b hb=>?_)⟩;exact hx1.block b (hold hl hb) (by have:=hold hl hb;show¬w.heap.size≤b;omega)
  ·rename_i hrl;rw[A6]at hr
   split at hr
   ·rename_i q hq;obtain⟨row1,e1,rfl⟩:=Option.map_eq_some_iff.1 hr;have h1:m6 H' (r-H.length)=some row1:=by rw[G0,hq];exact e1
    obtain⟨l,hl,hrow⟩:=hc1.rows _ row1 h1;refine⟨l,by unfold upρ;rw[if_neg hrl];exact hl,?_⟩
    cases row1 with
    |map ag kts kvs=>exact hrow
    |itr ag kts left cur=>exact(a0K hni _ _ _ _ _ h1).elim
    |els sz es=>
     obtain⟨k1,k2,k3,k4⟩:=hrow;refine⟨k1,?_,fun hb=>by rw[k3 hb];rfl,fun b hb=>?_⟩
     ·intro e he;simp only[List.mem_map]at he;obtain⟨e',he',rfl⟩:=he;simpa using k2 e' he'
     ·obtain⟨c,t,q1,q2,q3,q4⟩:=k4 b hb;refine⟨c,t,q1,q2,by simpa using q3,fun i av hi=>?_⟩;rw[←List.map_flatten]at hi;simp only[List.getElem?_map,Option.map_eq_some_iff]at hi;obtain⟨av0,hi,rfl⟩:=hi;obtain⟨x,p1,p2,p3⟩:=q4 i av0 hi;exact⟨x,p1,p2,b7t hLn p3⟩
   ·cases hr
 ·intro r hr;rw[a9N]at hr;unfold upρ
  split at hr
  ·rename_i hrl;rw[if_pos hrl];exact hc.dead r hr
  ·rename_i hrl;rw[if_neg hrl];refine hc1.dead _ ?_;rw[A6]at hr;rw[G0]
   split at hr
   ·rename_i q hq;rw[hq];simpa using hr
   ·rename_i hq;rw[hq];rfl
 ·rw[hy];refine hJ _ _ _ _ _ _ hj hc.wf.low hc.owned (hx1.mono fun b hb h=>absurd hb (by show¬b<w.heap.size;exact Nat.not_lt.2 h)) ?_;rintro b ⟨r,l,h1,h2⟩
  rcases hcase h1 with⟨_,h3⟩|⟨_,h3⟩
  ·exact⟨Nat.lt_of_lt_of_le (hold h3 h2) hx1.size,Or.inl ⟨r,l,h3,h2⟩⟩
  ·exact⟨(hc1.wf.own _ l b h3 h2).1,Or.inr (hnew h3 h2)⟩
theorem a5I {P:Program} {ro:Option Nat} {J:Jt} {nt:Nat} {kp0:List Nat} {T:Tm} {H:Hp} {Q:Exit→Tm→Hp→Prop} {x b:Code} (gs us kp:List Nat) (Tf:Tm) (Hf:Hp) (hlt:∀r∈gs,r<H.length) (hnd:gs.Nodup) (hT:a1s H (gs.map some) T Tf) (hH:a0H H (gs.map some)=Hf) (hkk:∀t∈kp0,t∈kp)
  (R:Tm→Hp→Prop) (hin:∀J1,JOk J1→GWp P ro J1 nt kp x Tf Hf (fun e T' H'=>e= .normal∧GWp P ro J1 nt kp b T' H' (fun e T' H'=>e= .normal∧a7K H'=true∧R T' H')))
  (hout:∀T' H',R T' H'→l6 (a4W gs us kp H.length T T') 999999=l6 T 999999∧Q .normal (a4W gs us kp H.length T T') (a8l gs H H')):GWp P ro J nt kp0 (.seq x b) T H Q:=by
 intro hJ kv a w hs;obtain⟨J1,hJ1,hs1,back⟩:=b2l hJ hs gs us kp Tf Hf hlt hnd hT hH hkk;refine wpIn_seq (wpIn_mono (hin J1 hJ1 hJ1 _ a w hs1) ?_);rintro e a1 w1 ⟨T1,H1,⟨rfl,hb⟩,s1⟩;refine wpIn_mono (hb hJ1 _ a1 w1 s1) ?_;rintro e a' w' ⟨T',H',⟨rfl,hni,hR⟩,s⟩;obtain⟨hy,ho⟩:=hout T' H' hR;exact⟨_,_,ho,back T' H' a' w' hni s hy⟩
theorem g6.pure {P:Program} {f:FuncId} {args:List AV} {res res':AV} {Hn:Hp} (h:g6 P f args [] [] res [] Hn) (e:frz (m6 Hn) 6 res=res'):d6 P f args res':=by
 subst e;obtain⟨h1,_,h3⟩:=h;refine Or.inl ⟨h1,fun S0 w vs hlow hl hrep=>?_⟩;have hh:b5o S0 w (fun _=>none) ([]++[]):=⟨⟨(by intro r r' l l' b h;cases h),(by intro r l b h;cases h),(by intro r l h;cases h),hlow,fun _ _=>trivial⟩,fun r row hr=>by cases r<;>simp[m6]at hr,fun r _=>rfl⟩;have hsx:∀b,Sx S0 (fun _=>none) b→S0 b:=by
  rintro b (h|⟨r,l,h1,_⟩)
  ·exact h
  ·cases h1
 refine(h3 S0 w _ vs hh hl fun i c x hc hx=> .pure _ _ ((hrep i c x hc hx).ext (Nat.le_refl _) fun b _ hn=>⟨rfl,fun k=>hn (hsx b k)⟩)).mono ?_;rintro en w' ⟨v,ρ',rfl,hh',hr,_,hfresh,hx⟩;refine⟨v,rfl,a1K hh'.wf (S':=S0) (fun b hn k=>hn (Or.inl k)) (fun r l b row _ hl hb k=>(hh'.wf.own r l b hl hb).2.1 k) 6 res v (fun r _ row hr=>hh'.rows r row hr) hr,hx.mono ?_⟩;rintro b _ ⟨r,l,h1,_⟩
 cases h1
end Go.AM
end
section
namespace Go.Cur
open Go.AM Go.Proofs
def I6 (P:o5) (m:Nat):Nat:=((List.range (2^m)).find? fun a=>decide (1≤a)&&b0X P m a).getD 0
abbrev ptO (g:Gr) (s:Sta) (us:Kvs) (p:List Nat):o5:=Pt g (onW g.Wires s.Wires) us p (k8 g s (upN p)) (k8 g s (upN p)).length
def v6 (g:Gr) (s:Sta) (us:Kvs) (p:List Nat):List Int×Int×Bool:=
 if k8 g s (upN p)=[]then(a3V p.length,1,O8 us p)
 else if A5 us p<0 then([],0,false)
 else if A5 us p=0 then
  (p.map fun k=>(ptO g s us p).num0 (p.getD 0 0) k+D6 ((ptO g s us p).V 0*(ptO g s us p).den0 (p.getD 0 0)-(ptO g s us p).num0 (p.getD 0 0) ((ptO g s us p).p 0)) ((List.range (k8 g s (upN p)).length).map fun b=>(ptO g s us p).V b*(ptO g s us p).den0 (p.getD 0 0)-(ptO g s us p).num0 (p.getD 0 0) ((ptO g s us p).p b)),
   (ptO g s us p).den0 (p.getD 0 0),true)
 else(p.map fun k=>(ptO g s us p).num (D7 (I6 (ptO g s us p) (k8 g s (upN p)).length)) k,(ptO g s us p).den (D7 (I6 (ptO g s us p) (k8 g s (upN p)).length)),true)
theorem b1T (S:Nat→Bool):∀m,∃a,a<2^m∧∀b,b<m→a.testBit b=S b
 |0=>⟨0,by simp,fun b hb=>by omega⟩
 | m+1=>by
  obtain⟨a,h1,h2⟩:=b1T S m
  cases h:S m with
  |false=>
   refine⟨a,by rw[Nat.pow_succ];omega,fun b hb=>?_⟩
   rcases Nat.lt_succ_iff_lt_or_eq.1 hb with hb|rfl
   ·exact h2 b hb
   ·rw[h];exact Nat.testBit_lt_two_pow h1
  |true=>
   refine⟨a|||2^m,Nat.or_lt_two_pow (by rw[Nat.pow_succ];omega) (Nat.pow_lt_pow_right (by omega) (by omega)),fun b hb=>?_⟩;rw[Nat.testBit_or,Nat.testBit_two_pow]
   rcases Nat.lt_succ_iff_lt_or_eq.1 hb with hb|rfl
   ·rw[h2 b hb,decide_eq_false (by omega),Bool.or_false]
   ·rw[h];simp
theorem b1z {P:o5} {m a:Nat} (hfs:P.fs=List.range m) (ha:∃b,b<m∧a.testBit b=true):b0X P m a=true↔b3l P (D7 a):=by
 unfold b0X b3l;rw[hfs,List.all_eq_true];constructor
 ·intro h;refine⟨by obtain⟨b,hb,h⟩:=ha;exact⟨b,List.mem_range.2 hb,h⟩,fun b hb=>?_⟩;have:=h b hb;unfold D7 at this ⊢;constructor
  ·intro e;rw[if_pos e]at this;have:=of_decide_eq_true this;omega
  ·intro e;rw[if_neg (by simp[e])]at this;have:=of_decide_eq_true this;omega
 ·rintro⟨_,h⟩ b hb;have:=h b hb;unfold D7 at this ⊢
  cases e:a.testBit b with
  |true=>have:=this.1 e;simp;omega
  |false=>have:=this.2 e;simp;omega
theorem a6W {a m:Nat} (h1:1≤a) (h2:a<2^m):∃b,b<m∧a.testBit b=true:=by
 obtain⟨b,hb⟩:=Nat.exists_testBit_of_ne_zero (x:=a) (by omega);refine⟨b,?_,hb⟩
 rcases Nat.lt_or_ge b m with h|h
 ·exact h
 ·rw[Nat.testBit_lt_two_pow (Nat.lt_of_lt_of_le h2 (Nat.pow_le_pow_right (by omega) h))]at hb
  cases hb
theorem Z1 {P:o5} (ho:P.Ok) {m:Nat} (hfs:P.fs=List.range m) (hm:m≠0) (hsum:0<sm P.u P.ns):
  1≤I6 P m∧I6 P m<2^m∧b0X P m (I6 P m)=true∧∀a,1≤a→a<I6 P m→b0X P m a=false:=by
 obtain⟨S,hS⟩:=b0B ho hsum (by rw[hfs];intro e;have:=congrArg List.length e;simp at this;exact hm this);obtain⟨a,ha,hb⟩:=b1T S m;obtain⟨b0,hb0,hSb⟩:=hS.1;rw[hfs,List.mem_range]at hb0;have hbit:∃b,b<m∧a.testBit b=true:=⟨b0,hb0,by rw[hb b0 hb0,hSb]⟩;have ha1:1≤a:=by
  rcases Nat.eq_zero_or_pos a with h|h
  ·subst h;obtain⟨b,_,h⟩:=hbit;simp at h
  ·exact h
 have hnc:=b3o (P:=P) (S:=S) (S':=D7 a) fun b hb'=>by rw[hfs,List.mem_range]at hb';exact(hb b hb').symm
 have hfit:b0X P m a=true:=by
  rw[b1z hfs hbit];refine⟨⟨b0,by rw[hfs];exact List.mem_range.2 hb0,by show a.testBit b0=true;rw[hb b0 hb0,hSb]⟩,fun b hb'=>?_⟩;have h:=hS.2 b hb';rw[hnc.1,hnc.2]at h;rw[hfs,List.mem_range]at hb';rw[show D7 a b=S b from hb b hb'];exact h
 cases hf:(List.range (2^m)).find? (fun a=>decide (1≤a)&&b0X P m a)with
 |none=>
  rw[List.find?_eq_none]at hf;have:=hf a (List.mem_range.2 ha);simp[ha1,hfit]at this
 |some a0=>
  have e:I6 P m=a0:=by unfold I6;rw[hf];rfl
  rw[List.find?_range_eq_some]at hf;rw[e];obtain⟨h1,h2,h3⟩:=hf;simp only[Bool.and_eq_true,decide_eq_true_eq]at h1;refine⟨h1.1,List.mem_range.1 h2,h1.2,fun a h4 h5=>?_⟩;have:=h3 a h5;simpa [h4]using this
def Siz (us:Kvs) (p:List Nat):Prop:=p.length≤5∨(p.length≤10∧∀x,igt us x=0)
section
variable {g:Gr} {s:Sta} {us:Kvs} {p:List Nat}
theorem a2g (h:∀x,igt us x=0):∀p:List Nat,A5 us p=0
 |[]=>rfl
 |x::p=>by
  have:=a2g h p;unfold A5 at this ⊢;rw[sm,this,h];rfl
theorem a0O (g:Gr) (s:Sta) (us:Kvs) (p:List Nat):sm (ptO g s us p).u (ptO g s us p).ns=A5 us p:=rfl
theorem b3e (hnt:o7 g s) (hp:p∈j7 g s) (hz:Siz us p) (hI:a1i us) (hus:∀x,-40≤igt us x∧igt us x≤40):
  d6 Try.prog 69 [net g s,iL (upN p), .mpc false [.i .i64] us] (.tup [iL (v6 g s us p).1,I (v6 g s us p).2.1,Bo (v6 g s us p).2.2]):=by
 have h10:p.length≤10:=by rcases hz with h|h<;>omega
 refine b8M g s p us (k8 g s (upN p)) rfl hnt (P0 hnt hp h10) hI hus _ _ _ (p.getD 0 0) rfl ?_ ?_ ?_ ?_
 ·intro h;unfold v6;rw[if_pos h];exact⟨rfl,rfl,rfl⟩
 ·intro h h1;unfold v6;rw[if_neg h,if_pos h1];exact⟨rfl,rfl,rfl⟩
 ·intro h h1;refine⟨a5S hnt hp hz rfl hus _ rfl,?_⟩;unfold v6;rw[if_neg h,if_neg (by omega),if_pos h1];exact⟨rfl,rfl,rfl⟩
 ·intro h h1;have h5:p.length≤5:=by
   rcases hz with h|⟨_,h⟩
   ·exact h
   ·have:=a2g h p;omega
  refine⟨fun a h2 h3=>a9P hnt hp h5 rfl hus _ (a6W h2 h3),?_⟩;obtain⟨k1,k2,k3,k4⟩:=Z1 (P:=ptO g s us p) (a2f hnt hp rfl) (m:=(k8 g s (upN p)).length) rfl (by intro e;exact h (List.length_eq_zero_iff.1 e)) (by rw[a0O];exact h1);unfold v6;rw[if_neg h,if_neg (by omega),if_neg (by omega)];exact⟨rfl,_,k1,k2,k3,k4,rfl,rfl⟩
def vfS (g:Gr) (s:Sta) (us:Kvs) (k:Nat):Fr:=red (at0 (v6 g s us (z4 g s k)).1 ((z4 g s k).idxOf k:Nat)) (v6 g s us (z4 g s k)).2.1
theorem b4r (hnt:o7 g s) (hp:p∈j7 g s) (hz:Siz us p) (hI:a1i us) (hus:∀x,-40≤igt us x∧igt us x≤40) (hok:(v6 g s us p).2.2=true):
  (v6 g s us p).1.length=p.length∧0<(v6 g s us p).2.1∧(v6 g s us p).2.1≤100000000000000∧∀x∈(v6 g s us p).1,-300000000000000000≤x∧x≤300000000000000000:=by
 unfold v6 at hok ⊢
 by_cases h:k8 g s (upN p)=[]
 ·rw[if_pos h];refine⟨by simp[a3V],show(0:Int)<1 by decide,show(1:Int)≤100000000000000 by decide,fun x hx=>?_⟩;have:x=0:=(List.mem_replicate.1 hx).2;omega
 ·rw [if_neg h]at hok ⊢
  by_cases h1:A5 us p<0
  ·rw[if_pos h1]at hok;cases hok
  ·rw [if_neg h1]at hok ⊢
   by_cases h2:A5 us p=0
   ·rw[if_pos h2];obtain⟨z1,z2,z3⟩:c1U (ptO g s us p) (p.getD 0 0):=a5S (us:=us) hnt hp hz rfl hus (p.getD 0 0) rfl;refine⟨by simp,z2,z3,fun x hx=>?_⟩;obtain⟨k,_,rfl⟩:=List.mem_map.1 hx;have key:∀b,b<(k8 g s (upN p)).length→ -200000000000000000≤(ptO g s us p).V b*(ptO g s us p).den0 (p.getD 0 0)-(ptO g s us p).num0 (p.getD 0 0) ((ptO g s us p).p b)∧(ptO g s us p).V b*(ptO g s us p).den0 (p.getD 0 0)-(ptO g s us p).num0 (p.getD 0 0) ((ptO g s us p).p b)≤200000000000000000:=by
     intro b hb;have hf:=C9 hnt rfl hb;have h3:=z1 ((ptO g s us p).p b);have h4:0≤(ptO g s us p).V b∧(ptO g s us p).V b≤1000:=by
      show 0≤(fdI g _).Volts∧(fdI g _).Volts≤1000;omega
     have h5:=Int.mul_nonneg h4.1 (Int.le_of_lt z2);have h6:=Int.mul_le_mul h4.2 z3 (Int.le_of_lt z2) (by omega);omega
    have hpos:0<(k8 g s (upN p)).length:=List.length_pos_iff.2 h;have h3:=a0h (B:=200000000000000000) ((List.range (k8 g s (upN p)).length).map fun b=>(ptO g s us p).V b*(ptO g s us p).den0 (p.getD 0 0)-(ptO g s us p).num0 (p.getD 0 0) ((ptO g s us p).p b)) _ (key 0 hpos) fun x hx=>by
     obtain⟨b,hb,rfl⟩:=List.mem_map.1 hx;exact key b (List.mem_range.1 hb)
    have h4:=z1 k;omega
   ·rw[if_neg h2];have h5:p.length≤5:=by
     rcases hz with h|⟨_,h⟩
     ·exact h
     ·have:=a2g h p;omega
    obtain⟨k1,k2,k3,k4⟩:=Z1 (P:=ptO g s us p) (a2f hnt hp rfl) (m:=(k8 g s (upN p)).length) rfl (by intro e;exact h (List.length_eq_zero_iff.1 e)) (by rw[a0O];omega);obtain⟨z1,z2,z3⟩:Sml (ptO g s us p) (D7 (I6 (ptO g s us p) (k8 g s (upN p)).length)):=a9P (us:=us) hnt hp h5 rfl hus _ (a6W k1 k2);refine⟨by simp,z2,z3,fun x hx=>?_⟩;obtain⟨k,_,rfl⟩:=List.mem_map.1 hx;have:=z1 k;omega
theorem b2D (hnt:o7 g s) (hp:p∈j7 g s) (hz:Siz us p) (hI:a1i us) (hus:∀x,-40≤igt us x∧igt us x≤40) (hok:(v6 g s us p).2.2=true):a1A g s us p (v6 g s us p).1 (v6 g s us p).2.1 (vfS g s us):=by
 obtain⟨b1,b2,b3,b4⟩:=b4r hnt hp hz hI hus hok;have hc:=b3e hnt hp hz hI hus;rw[hok]at hc;refine⟨hc,b1,b2,b3,b4,fun i k hk=>?_⟩;have hpe:=S6 hp (List.mem_of_getElem? hk);have hnd:p.Nodup:=by obtain⟨_,_,e⟩:=E5 hp;rw[e];exact I8
 have hi:p.idxOf k=i:=by
  obtain⟨hil,e⟩:=List.getElem?_eq_some_iff.1 hk;rw[←e];exact List.Nodup.idxOf_getElem hnd i hil
 unfold vfS;rw[←hpe,hi]
end
def okS (g:Gr) (s:Sta) (us:Kvs):Bool:=(j7 g s).all fun p=>(v6 g s us p).2.2
theorem b3q (g:Gr) (s:Sta) (us:Kvs) (hnt:o7 g s) (h12:I7 g s) (vf:Nat→Fr) (hv:∀p∈j7 g s,∃v d,a1A g s us p v d vf):
  d6 Try.prog 49 [net g s, .mpc false [.i .i64] us] (.tup [.agg [fL (vlA g.Nodes.toNat vf),fL (flA g s vf)],Bo true]):=by
 refine g6.pure (X2 g s us hnt h12 vf hv) ?_;have htv:List.take g.Nodes.toNat ((vlA g.Nodes.toNat vf).map Fr.cells)=(vlA g.Nodes.toNat vf).map Fr.cells:=List.take_of_length_le (by simp[vlA]);have htf:List.take g.Feeds.length ((flA g s vf).map Fr.cells)=(flA g s vf).map Fr.cells:=List.take_of_length_le (by simp[flA]);have l1:(vlA g.Nodes.toNat vf).length=g.Nodes.toNat:=by simp[vlA]
 have l2:(flA g s vf).length=g.Feeds.length:=by simp[flA]
 simp[htv,htf,l1,l2]
theorem a9n (g:Gr) (s:Sta) (l:List Ld) (hl:l.length≤1000) (hf:t7 g s l=true) (hlo:C5 g s=false) (h12:I7 g s) (vf:Nat→Fr) (hv:∀p∈j7 g s,∃v d,a1A g s (tkK l (A4 l)) p v d vf):
  g6 Try.prog 18 [g.av,s.av,lL l] [] [] (.tup [.row 0 0 g.Nodes.toNat, .row 1 0 g.Feeds.length,I 0]) [] [some (.els 2 ((vlA g.Nodes.toNat vf).map Fr.cells)),some (.els 2 ((flA g s vf).map Fr.cells))]:=by
 have hb:=R2 g s l hl hf;have hnt:=u6 hf;have hlg:=X5 g s hnt h12;rw[hlo]at hlg;have htk:=a1Y l hl;have hsv:=X2 g s (tkK l (A4 l)) hnt h12 vf hv;generalize vlA g.Nodes.toNat vf=vs at hsv ⊢;generalize flA g s vf=fs at hsv ⊢;generalize tkK l (A4 l)=us at htk hsv;refine g6.of_bodyG [] Try.func18 rfl (by decide) (by simp[Try.ntmps18]) rfl rfl ?_;intro J hJ;simp only[Try.ntmps18,Try.results18];refine gS fun K hK=>?_;simp -dsimp;apply hK;clear hK K;refine gS fun K hK=>?_;simp -dsimp;refine d5 _ (hb) (by simp) ?_;simp -dsimp;apply hK;clear hK K;refine b9 fun K1 hK1=>?_;refine d7 ?_;refine gS fun K hK=>?_;simp -dsimp;apply hK;clear hK K;refine d9 rfl (fun hc0=>?_) (fun hc0=>?_)
 ·simp at hc0
 ·refine gS fun K hK=>?_;simp -dsimp;refine d5 _ (hlg) (by simp) ?_;simp -dsimp;apply hK;clear hK K;refine d9 rfl (fun hc1=>?_) (fun hc1=>?_)
  ·simp at hc1
  ·refine f6 ?_;simp only[zT,reduceIte,Nat.reduceEqDiff];refine hK1 _ _ ?_;refine b6 [2,9] (Or.inr (by simp)) ?_;simp only[zP,Nat.reduceEqDiff,reduceIte];refine gS fun K hK=>?_;simp -dsimp;refine d5 _ (htk) (by simp) ?_;simp -dsimp;refine k9 [] [] [none,none,some 0,some 1,some 2,some 3] (hsv) (by decide) rfl (by simp) (by simp) rfl (by simp) ?_;simp -dsimp;apply hK;clear hK K;refine b9 fun K2 hK2=>?_;refine gS fun K hK=>?_;simp -dsimp;apply hK;clear hK K;refine d9 rfl (fun hc2=>?_) (fun hc2=>?_)
   ·simp at hc2
   ·refine f6 ?_;simp only[zT,reduceIte,Nat.reduceEqDiff];refine hK2 _ _ ?_;refine b6 [11] (Or.inr (by simp)) ?_;simp only[zP,Nat.reduceEqDiff,reduceIte];refine w9 l9 rfl (by decide) rfl rfl fun K hK=>?_;simp -dsimp;refine hK _ _ _ (by decide+kernel) ?_;clear hK K;exact j6 ⟨[some 2,some 3],rfl,by simp,by simp,by simp,by simp[C2,n6]⟩
theorem b6a (g:Gr) (s:Sta) (l:List Ld) (hl:l.length≤1000) (hf:t7 g s l=true) (hlo:C5 g s=false) (h12:I7 g s) (vf:Nat→Fr) (hv:∀p∈j7 g s,∃v d,a1A g s (tkK l (A4 l)) p v d vf):
  d6 Try.prog 18 [g.av,s.av,lL l] (.tup [fL (vlA g.Nodes.toNat vf),fL (flA g s vf),I 0]):=by
 refine g6.pure (a9n g s l hl hf hlo h12 vf hv) ?_;have htv:List.take g.Nodes.toNat ((vlA g.Nodes.toNat vf).map Fr.cells)=(vlA g.Nodes.toNat vf).map Fr.cells:=List.take_of_length_le (by simp[vlA]);have htf:List.take g.Feeds.length ((flA g s vf).map Fr.cells)=(flA g s vf).map Fr.cells:=List.take_of_length_le (by simp[flA]);have l1:(vlA g.Nodes.toNat vf).length=g.Nodes.toNat:=by simp[vlA]
 have l2:(flA g s vf).length=g.Feeds.length:=by simp[flA]
 simp[htv,htf,l1,l2]
theorem b9k (g:Gr) (s:Sta) (us:Kvs) (hnt:o7 g s) (h12:I7 g s) (hz:∀p∈j7 g s,Siz us p) (hI:a1i us) (hus:∀x,-40≤igt us x∧igt us x≤40):
  d6 Try.prog 49 [net g s, .mpc false [.i .i64] us] (if okS g s us=true then .tup [.agg [fL (vlA g.Nodes.toNat (vfS g s us)),fL (flA g s (vfS g s us))],Bo true]else .tup [.agg [.v (.slice none 0 0), .v (.slice none 0 0)],Bo false]):=by
 by_cases h:okS g s us=true
 ·rw[if_pos h];unfold okS at h;rw[List.all_eq_true]at h;exact b3q g s us hnt h12 _ fun p hp=>⟨_,_,b2D hnt hp (hz p hp) hI hus (h p hp)⟩
 ·rw[if_neg h];unfold okS at h;have hlt:(j7 g s).findIdx (fun p=> !(v6 g s us p).2.2)<(j7 g s).length:=by
   rw[List.findIdx_lt_length];simpa using h
  have hno:=List.findIdx_getElem (w:=hlt);have hg:=List.getElem?_eq_getElem hlt;have hpm:=List.mem_of_getElem? hg;have hc:=b3e hnt hpm (hz _ hpm) hI hus;simp only[Bool.not_eq_true']at hno;rw[hno]at hc;exact b2P g s us hnt h12 (vfS g s us) _ _ hg _ _ hc fun t p ht hpt=>⟨_,_,b2D hnt (List.mem_of_getElem? hpt) (hz _ (List.mem_of_getElem? hpt)) hI hus (by
   have:=List.not_of_lt_findIdx ht;have e:=(List.getElem?_eq_some_iff.1 hpt).2;rw[e]at this;simpa using this)⟩
theorem b1x (x:Int):∀(l:List (Ld×Bool)) (c:Int),l.foldl (a5D x) c=c∨∃p∈l,p.2=true∧p.1.At=x∧l.foldl (a5D x) c=p.1.Units
 |[],c=>Or.inl rfl
 | p::l,c=>by
  rw[List.foldl_cons]
  rcases b1x x l (a5D x c p)with h|⟨q,hq,h1,h2,h3⟩
  ·rw[h];unfold a5D
   by_cases hc:p.2=true∧p.1.At=x
   ·rw[if_pos hc];exact Or.inr ⟨p,by simp,hc.1,hc.2,rfl⟩
   ·rw[if_neg hc];exact Or.inl rfl
  ·exact Or.inr ⟨q,by simp[hq],h1,h2,h3⟩
theorem b6N (l:List Ld) (sv:List Bool) (x:Int):igt (tkK l sv) x=0∨∃(i:Nat) (y:Ld),l[i]?=some y∧sv[i]?=some true∧y.At=x∧igt (tkK l sv) x=y.Units:=by
 rw[X0];unfold cur
 rcases b1x x (l.zip sv) 0 with h|⟨q,hq,h1,h2,h3⟩
 ·exact Or.inl h
 ·obtain⟨i,hi⟩:=List.getElem?_of_mem hq;rw[List.getElem?_zip_eq_some]at hi;exact Or.inr ⟨i,q.1,hi.1,by rw[hi.2,h1],h2,h3⟩
theorem a0n {g:Gr} {l:List Ld}:∀{k:Nat},a1D g l k=true→∀(i:Nat) y,i<k→l[i]?=some y→0≤y.At∧y.At<g.Nodes∧-40≤y.Units∧y.Units≤40∧0≤y.Rank∧y.Rank≤100∧∀(j:Nat) z,j<i→l[j]?=some z→z.At≠y.At
 |0,_,i,y,hi,_=>by omega
 |k+1,h,i,y,hi,hy=>by
  simp only[a1D,Bool.and_eq_true]at h
  rcases Nat.lt_succ_iff_lt_or_eq.1 hi with h1|h1
  ·exact a0n h.1 i y h1 hy
  ·subst h1;have h2:=h.2;rw[hy]at h2;simp only[ldB,Bool.and_eq_true,t4,Bool.not_eq_true',List.any_eq_false,decide_eq_true_eq]at h2;obtain⟨⟨⟨a,b⟩,c⟩,d⟩:=h2;refine⟨a.1,by omega,b.1,b.2,c.1,c.2,fun j z hj hz=>?_⟩;exact d z (List.mem_of_getElem? (i:=j) (by rw[List.getElem?_take,if_pos hj];exact hz))
structure b6x (g:Gr) (l:List Ld):Prop where
 at_:∀y∈l,0≤y.At∧y.At<g.Nodes
 un:∀y∈l,-40≤y.Units∧y.Units≤40
 rk:∀y∈l,0≤y.Rank∧y.Rank≤100
 one:∀(i j:Nat) y z,l[i]?=some y→l[j]?=some z→y.At=z.At→i=j
theorem O4 {g:Gr} {s:Sta} {l:List Ld} (h:t7 g s l=true):b6x g l:=by
 simp only[t7,Bool.and_eq_true]at h;have key:∀y∈l,∃i:Nat,i<l.length∧l[i]?=some y:=fun y hy=>by
  obtain⟨i,hi⟩:=List.getElem?_of_mem hy;exact⟨i,(List.getElem?_eq_some_iff.1 hi).1,hi⟩
 refine⟨fun y hy=>?_,fun y hy=>?_,fun y hy=>?_,fun i j y z hi hj e=>?_⟩
 ·obtain⟨i,h1,h2⟩:=key y hy;have:=a0n h.2 i y h1 h2;omega
 ·obtain⟨i,h1,h2⟩:=key y hy;have:=a0n h.2 i y h1 h2;omega
 ·obtain⟨i,h1,h2⟩:=key y hy;have:=a0n h.2 i y h1 h2;omega
 ·have h1:=(a0n h.2 i y (List.getElem?_eq_some_iff.1 hi).1 hi).2.2.2.2.2.2;have h2:=(a0n h.2 j z (List.getElem?_eq_some_iff.1 hj).1 hj).2.2.2.2.2.2
  rcases Nat.lt_trichotomy i j with h3|h3|h3
  ·exact absurd e (h2 i y h3 hi)
  ·exact h3
  ·exact absurd e.symm (h1 j z h3 hj)
theorem a2d {g:Gr} {l:List Ld} (h:b6x g l) (sv:List Bool) (x:Int):-40≤igt (tkK l sv) x∧igt (tkK l sv) x≤40:=by
 rcases b6N l sv x with e|⟨i,y,h1,_,_,e⟩
 ·omega
 ·have:=h.un y (List.mem_of_getElem? h1);omega
def a6K (g:Gr) (s:Sta) (l:List Ld):AV:=
 if t7 g s l=true then(if C5 g s=true then .tup [.v (.slice none 0 0), .v (.slice none 0 0),I 3]else
  if okS g s (tkK l (A4 l))=true then .tup [fL (vlA g.Nodes.toNat (vfS g s (tkK l (A4 l)))),fL (flA g s (vfS g s (tkK l (A4 l)))),I 0]else .tup [.v (.slice none 0 0), .v (.slice none 0 0),I 4])
 else .tup [.v (.slice none 0 0), .v (.slice none 0 0),I 2]
theorem a4X (g:Gr) (s:Sta) (l:List Ld) (hl:l.length≤1000) (h12:t7 g s l=true→I7 g s) (hz:t7 g s l=true→C5 g s=false→∀p∈j7 g s,Siz (tkK l (A4 l)) p):
  d6 Try.prog 18 [g.av,s.av,lL l] (a6K g s l):=by
 unfold a6K
 cases hf:t7 g s l with
 |false=>exact b2K g s l hl hf
 | true=>
  rw[if_pos rfl]
  cases hlo:C5 g s with
  |true=>exact b1S g s l hl hf (h12 hf) hlo
  | false=>
   have hc:=b9k g s (tkK l (A4 l)) (u6 hf) (h12 hf) (hz hf hlo) (W0 _ _) (a2d (O4 hf) _);rw[if_neg (by simp)]
   cases ho:okS g s (tkK l (A4 l))with
   |true=>
    unfold okS at ho;rw[List.all_eq_true]at ho;exact b6a g s l hl hf hlo (h12 hf) _ fun p hp=>⟨_,_,b2D (u6 hf) hp (hz hf hlo p hp) (W0 _ _) (a2d (O4 hf) _) (ho p hp)⟩
   |false=>rw[ho]at hc;exact b1O g s l hl hf (h12 hf) hlo hc
end Go.Cur
end
section
namespace Go.Cur
open Go.AM Go.Proofs
abbrev Wd (x:Nat):AV:= .v (.int .u64 (x:Int))
theorem a0C (x:Nat) (hx:x<18446744073709551616):bits .and .u64 (x:Int) 4294967295=((x % 4294967296:Nat):Int):=by
 show IntKind.u64.wrap ((BitVec.ofInt 64 x&&&BitVec.ofInt 64 (4294967295:Nat)).toNat:Int)=_;have h:(BitVec.ofInt 64 x&&&BitVec.ofInt 64 (4294967295:Nat)).toNat=x % 4294967296:=by
  simp only[BitVec.toNat_and,BitVec.ofInt_natCast,BitVec.toNat_ofNat];rw[Nat.mod_eq_of_lt (by omega),Nat.mod_eq_of_lt (by omega)];exact Nat.and_two_pow_sub_one_eq_mod x 32
 rw[h];exact IntWalk.u64_in _ (by omega)
theorem b2c (x:Nat):(x:Int)/4294967296=((x/4294967296:Nat):Int):=by omega
theorem F8 {x:Nat} (h:x<18446744073709551616):IntKind.u64.wrap (x:Int)=(x:Int):=IntWalk.u64_in _ (by omega)
theorem b7F (x:Nat):IntKind.u64.wrap (x:Int)=((x % 18446744073709551616:Nat):Int):=by
 show(x:Int) % 18446744073709551616=_;omega
theorem b2t (x y:Nat) (hx:x<18446744073709551616) (hy:y<18446744073709551616):d6 Try.prog 103 [Wd x,Wd y] (.tup [Wd (x*y/18446744073709551616),Wd (x*y % 18446744073709551616)]):=by
 have hb:(32:Int)≤(IntKind.u64.bits:Int):=by decide
 have hb':32≤IntKind.u64.bits:=by decide
 obtain⟨h1,h2,h3,h4⟩:=Go.Lib.mul64_hi x y hx hy;have hxy:=b7F (x*y);have a1:=a0C x hx;have a2:=a0C y hy;have s1:=b2c x;have s2:=b2c y;have b0:x/4294967296<4294967296:=by omega
 have b1:y/4294967296<4294967296:=by omega
 have b2:x % 4294967296<4294967296:=by omega
 have b3:y % 4294967296<4294967296:=by omega
 have hhi:x*y/18446744073709551616<18446744073709551616:=by
  have:=Nat.mul_le_mul (Nat.le_of_lt_succ (show x<Nat.succ 18446744073709551615 by omega)) (Nat.le_of_lt_succ (show y<Nat.succ 18446744073709551615 by omega));omega
 generalize x/4294967296=x1 at*
 generalize x % 4294967296=x0 at*
 generalize y/4294967296=y1 at*
 generalize y % 4294967296=y0 at*
 have c1:IntKind.u64.wrap ((x0:Int)*y0)=((x0*y0:Nat):Int):=by rw[←Int.natCast_mul];exact F8 h1
 have hp1:x1*y0<18446744073709551616:=by omega
 have c2:IntKind.u64.wrap ((x1:Int)*y0)=((x1*y0:Nat):Int):=by rw[←Int.natCast_mul];exact F8 hp1
 have d1:=b2c (x0*y0);have c3:IntKind.u64.wrap ((x1:Int)*y0+(x0:Int)*y0/4294967296)=((x1*y0+x0*y0/4294967296:Nat):Int):=by rw[show(x1:Int)*y0+(x0:Int)*y0/4294967296=((x1*y0+x0*y0/4294967296:Nat):Int)by simp];exact F8 h2
 generalize x1*y0+x0*y0/4294967296=t at*
 have a3:=a0C t h2;have d2:=b2c t;have hp2:x0*y1<18446744073709551616:=by omega
 have c4:IntKind.u64.wrap ((x0:Int)*y1)=((x0*y1:Nat):Int):=by rw[←Int.natCast_mul];exact F8 hp2
 have c5:IntKind.u64.wrap ((t:Int) % 4294967296+(x0:Int)*y1)=((t % 4294967296+x0*y1:Nat):Int):=by rw[show(t:Int) % 4294967296+(x0:Int)*y1=((t % 4294967296+x0*y1:Nat):Int)by simp];exact F8 h3
 generalize t % 4294967296+x0*y1=w at*
 have d3:=b2c w;have hp3:x1*y1<18446744073709551616:=by omega
 have c6:IntKind.u64.wrap ((x1:Int)*y1)=((x1*y1:Nat):Int):=by rw[←Int.natCast_mul];exact F8 hp3
 have c7:IntKind.u64.wrap ((x1:Int)*y1+(t:Int)/4294967296)=((x1*y1+t/4294967296:Nat):Int):=by rw[show(x1:Int)*y1+(t:Int)/4294967296=((x1*y1+t/4294967296:Nat):Int)by simp];exact F8 (by omega)
 have c8:IntKind.u64.wrap ((x1:Int)*y1+(t:Int)/4294967296+(w:Int)/4294967296)=((x*y/18446744073709551616:Nat):Int):=by rw[show(x1:Int)*y1+(t:Int)/4294967296+(w:Int)/4294967296=((x1*y1+t/4294967296+w/4294967296:Nat):Int)by simp,h4];exact F8 hhi
 have c9:IntKind.u64.wrap ((x:Int)*y)=((x*y % 18446744073709551616:Nat):Int):=by rw[←Int.natCast_mul];exact hxy
 refine d6.of_body Try.func103 rfl (by decide) (by simp[Try.ntmps103]) ?_;simp only[Try.ntmps103,Try.results103];refine aS fun K hK=>?_;simp -dsimp;apply hK;clear hK K;refine aS fun K hK=>?_;simp -dsimp [a1];apply hK;clear hK K;refine aS fun K hK=>?_;simp -dsimp [s1,hb,hb'];apply hK;clear hK K;refine aS fun K hK=>?_;simp -dsimp [a2];apply hK;clear hK K;refine aS fun K hK=>?_;simp -dsimp [s2,hb,hb'];apply hK;clear hK K;refine aS fun K hK=>?_;simp -dsimp [c1];apply hK;clear hK K;refine aS fun K hK=>?_;simp -dsimp [c2,c3,hb,hb'];apply hK;clear hK K;refine aS fun K hK=>?_;simp -dsimp [a3];apply hK;clear hK K;refine aS fun K hK=>?_;simp -dsimp [hb,hb'];apply hK;clear hK K;refine aS fun K hK=>?_;simp -dsimp [c4,c5];apply hK;clear hK K;refine aS fun K hK=>?_;simp -dsimp [c6,c7,c8,hb,hb'];apply hK;clear hK K;refine aS fun K hK=>?_;simp -dsimp [c9];apply hK;clear hK K;exact g7 (by simp)
theorem a5f (n:Int) (w:World):(convert 3 156 (.int .i64 n)).run Try.prog w= .ok (.int .u64 (IntKind.u64.wrap n)) w:=by
 simp[convert,run_underlying a8p,run_underlying b2i,Conv.intToInt]
theorem b8S (p q:Nat):(q/18446744073709551616<p/18446744073709551616∨p/18446744073709551616=q/18446744073709551616∧q % 18446744073709551616<p % 18446744073709551616)↔q<p:=by omega
theorem b3m (a b:Fr) (ha:0≤a.Num∧a.Num≤9223372036854775807) (ha':0≤a.Den∧a.Den≤9223372036854775807) (hb:0≤b.Num∧b.Num≤9223372036854775807) (hb':0≤b.Den∧b.Den≤9223372036854775807):
  d6 Try.prog 99 [a.av,b.av] (Bo (decide (b.Num*a.Den<a.Num*b.Den))):=by
 obtain⟨an,ad⟩:=a;obtain⟨bn,bd⟩:=b;simp only at ha ha' hb hb';obtain⟨an,rfl⟩:=Int.eq_ofNat_of_zero_le ha.1;obtain⟨ad,rfl⟩:=Int.eq_ofNat_of_zero_le ha'.1;obtain⟨bn,rfl⟩:=Int.eq_ofNat_of_zero_le hb.1;obtain⟨bd,rfl⟩:=Int.eq_ofNat_of_zero_le hb'.1;have m1:=b2t an bd (by omega) (by omega);have m2:=b2t bn ad (by omega) (by omega);have u1:=F8 (x:=an) (by omega);have u2:=F8 (x:=bd) (by omega);have u3:=F8 (x:=bn) (by omega);have u4:=F8 (x:=ad) (by omega);have hw:=b8S (an*bd) (bn*ad);have e:decide ((bn:Int)*ad<an*bd)=decide (bn*ad<an*bd):=by
  rw[←Int.natCast_mul,←Int.natCast_mul];exact decide_eq_decide.2 Int.ofNat_lt
 show d6 Try.prog 99 _ (Bo (decide ((bn:Int)*ad<an*bd)));rw[e];generalize an*bd=p at m1 hw ⊢;generalize bn*ad=q at m2 hw ⊢;refine d6.of_body Try.func99 rfl (by decide) (by simp[Try.ntmps99]) ?_;simp only[Try.ntmps99,Try.results99];refine aS fun K hK=>?_;simp -dsimp;apply hK;clear hK K;refine aS fun K hK=>?_;simp -dsimp;refine⟨_,a5f _,?_⟩;simp -dsimp [u1,u2];refine⟨_,a5f _,?_⟩;simp -dsimp [u1,u2];refine d5 _ (m1) (by simp) ?_;simp -dsimp;apply hK;clear hK K;refine aS fun K hK=>?_;simp -dsimp;refine⟨_,a5f _,?_⟩;simp -dsimp [u3,u4];refine⟨_,a5f _,?_⟩;simp -dsimp [u3,u4];refine d5 _ (m2) (by simp) ?_;simp -dsimp;apply hK;clear hK K;refine aS fun K hK=>?_;simp -dsimp;apply hK;clear hK K;refine g7 ?_;simp;rw[Bool.eq_iff_iff];simp only[Bool.or_eq_true,Bool.and_eq_true,decide_eq_true_eq,beq_iff_eq];omega
end Go.Cur
end
section
namespace Go.Cur
open Go.AM Go.Proofs
def frA (fs:List Fr) (k:Nat):Fr:=(fs[k]?).getD default
theorem V4 {fs:List Fr} {k:Nat} (h:k<fs.length):fs[k]?=some (frA fs k):=by
 unfold frA;rw[List.getElem?_eq_getElem h];rfl
def fdA (g:Gr) (k:Nat):Fd:=(g.Feeds[k]?).getD default
theorem b1R {g:Gr} {k:Nat} (h:k<g.Feeds.length):g.Feeds[k]?=some (fdA g k):=by
 unfold fdA;rw[List.getElem?_eq_getElem h];rfl
def ovr (g:Gr) (fs:List Fr) (i:Nat):Fr:=⟨(frA fs i).Num-(fdA g i).Limit*(frA fs i).Den,(frA fs i).Den⟩
def trS (g:Gr) (fs:List Fr) (s:Int×Fr) (i:Nat):Int×Fr:=
 if 0<(ovr g fs i).Num∧(s.1<0∨s.2.Num*(ovr g fs i).Den<(ovr g fs i).Num*s.2.Den)then(i,ovr g fs i)else s
def trL (g:Gr) (fs:List Fr) (n:Nat):Int×Fr:=(List.range n).foldl (trS g fs) (-1,⟨0,0⟩)
theorem a4A (g:Gr) (fs:List Fr) (n:Nat):trL g fs (n+1)=trS g fs (trL g fs n) n:=by
 unfold trL;rw[List.range_succ,List.foldl_append];rfl
structure c1p (g:Gr) (fs:List Fr):Prop where
 len:fs.length=g.Feeds.length
 num:∀y∈fs,0≤y.Num∧y.Num≤4000000000000000000
 den:∀y∈fs,1≤y.Den∧y.Den≤100000000000000
 lim:∀f∈g.Feeds,0≤f.Limit∧f.Limit≤10000
theorem c1p.prod {g:Gr} {fs:List Fr} (h:c1p g fs) {k:Nat} (hk:k<g.Feeds.length):0≤(fdA g k).Limit*(frA fs k).Den∧(fdA g k).Limit*(frA fs k).Den≤1000000000000000000:=by
 have h1:=h.lim _ (List.mem_of_getElem? (b1R hk));have h2:=h.den _ (List.mem_of_getElem? (V4 (by rw[h.len];exact hk)));exact⟨Int.mul_nonneg h1.1 (by omega),Int.le_trans (Int.mul_le_mul h1.2 h2.2 (by omega) (by omega)) (by omega)⟩
theorem b1K {g:Gr} {fs:List Fr} (h:c1p g fs):∀n,n≤g.Feeds.length→ -1≤(trL g fs n).1∧(trL g fs n).1<n∧(0≤(trL g fs n).2.Num∧(trL g fs n).2.Num≤4000000000000000000)∧0≤(trL g fs n).2.Den∧(trL g fs n).2.Den≤100000000000000
 |0,_=>by simp[trL]
 |n+1,hn=>by
  have ih:=b1K h n (by omega);have h1:=h.prod (k:=n) (by omega);have h2:=h.den _ (List.mem_of_getElem? (V4 (fs:=fs) (k:=n) (by rw[h.len];omega)));have h3:=h.num _ (List.mem_of_getElem? (V4 (fs:=fs) (k:=n) (by rw[h.len];omega)));rw[a4A];unfold trS
  split
  ·rename_i hc;have hc1:=hc.1;simp only[ovr]at hc1 ⊢;omega
  ·omega
theorem b9M (x:Value) (g:Gr) (fe wi:List Bool) (l:List Ld) (sv:List Bool) (vs fs:List Fr) (cuts:List Cu) (hc:cuts.length≤1000) (hn:g.Feeds.length≤1000) (hfe:fe.length=g.Feeds.length) (hok:c1p g fs) (r:Bool) (fe2:List Bool) (cuts2:List Cu)
  (ht:∀i:Nat,(trL g fs g.Feeds.length).1=i→r=true∧fe2=fe.set i false∧cuts2=cuts++[(⟨4,i,frA fs i⟩:Cu)])
  (hf:(trL g fs g.Feeds.length).1<0→r=false∧fe2=fe∧cuts2=cuts):
  g6 Try.prog 80 [.ptr 0 0 0] [hSa (.fptr x 1 0 0) l sv.length vs fs cuts.length,hNa g fe wi] [some (.els 1 (sv.map i9)),some (.els 1 (fe.map i9)),some (.els 4 (cuts.map Cu.cells))]
   (Bo r) [hSa (.fptr x 1 0 0) l sv.length vs fs cuts2.length,hNa g fe2 wi] [some (.els 1 (sv.map i9)),some (.els 1 (fe2.map i9)),some (.els 4 (cuts2.map Cu.cells))]:=by
 refine g6.keep (Hk:=[_]) (Hk':=[_]) 0 0 0 (x:=x) (i:=0) (o:=0) ?_ rfl rfl rfl rfl rfl rfl;have f1:I9 (cuts.length+1) 33:=m8 (by omega) (by omega);refine g6.of_bodyG [0] Try.func80 rfl (by decide) (by simp[Try.ntmps80]) rfl rfl ?_;intro J hJ;simp only[Try.ntmps80,Try.results80];refine gS fun K hK=>?_;simp -dsimp;apply hK;clear hK K;refine gS fun K hK=>?_;simp -dsimp;apply hK;clear hK K;refine gS fun K hK=>?_;simp -dsimp;apply hK;clear hK K;refine b9 fun K1 hK1=>?_;refine gS fun K hK=>?_;simp -dsimp;apply hK;clear hK K;refine d7 ?_;refine b6 [0,3,4,16,17,18] (Or.inr (by simp)) ?_;simp only[zP,Nat.reduceEqDiff,reduceIte];refine g9 [0,4,16,17] (α:=Nat) (fun k=>[(3,I (trL g fs k).1),(18,I k)]) (fun k=>[hSa (.fptr x 1 0 0) l sv.length vs fs cuts.length,hNa g fe wi,some (.els 1 (sv.map i9)),some (.els 1 (fe.map i9)),some (.els 4 (cuts.map Cu.cells)),some (.els 2 [(trL g fs k).2.cells])]) (fun k=>k≤g.Feeds.length) (fun k=>g.Feeds.length-k) 0 ?_ ?_ ?_
 ·exact Nat.zero_le _
 ·exact o1 (j9 (by simp[trL])) (by simp)
 rintro k k1;simp only[zP,Nat.reduceEqDiff,reduceIte];refine gS fun K hK=>?_;simp -dsimp;apply hK;clear hK K;refine b9 fun K2 hK2=>?_;refine d9 rfl (fun hc0=>?_) (fun hc0=>?_)
 ·have hkl:k<g.Feeds.length:=by simpa using hc0
  have wk:=zW k (by omega);have gf:=b1R hkl;have hfl:=hok.len;have gx:=V4 (fs:=fs) (k:=k) (by omega);have hpr:=hok.prod hkl;have hnm:=hok.num _ (List.mem_of_getElem? gx);have hdn:=hok.den _ (List.mem_of_getElem? gx);have hbd:=b1K hok k k1;have hsu:=a4A g fs k;have w1:IntKind.i64.wrap ((fdA g k).Limit*(frA fs k).Den)=(fdA g k).Limit*(frA fs k).Den:=f7 (by omega) (by omega);have w2:IntKind.i64.wrap ((frA fs k).Num-(fdA g k).Limit*(frA fs k).Den)=(frA fs k).Num-(fdA g k).Limit*(frA fs k).Den:=f7 (by omega) (by omega);unfold trS ovr at hsu;simp only at hsu;generalize trL g fs k=m at hsu hbd ⊢;obtain⟨at_,mn,md⟩:=m;simp only at hsu hbd ⊢;refine f6 ?_;simp only[zT,reduceIte,Nat.reduceEqDiff];refine hK2 _ _ ?_;refine b6 [0,3,4,16,17,18] (Or.inr (by simp)) ?_;simp only[zP,Nat.reduceEqDiff,reduceIte];refine b9 fun K3 hK3=>?_;refine d7 ?_;refine gS fun K hK=>?_;simp -dsimp [gf];apply hK;clear hK K;refine gS fun K hK=>?_;simp -dsimp [gx];apply hK;clear hK K;refine gS fun K hK=>?_;simp -dsimp [w1,w2];apply hK;clear hK K;refine gS fun K hK=>?_;simp -dsimp;refine g8 _ (fun hm=>b3m ⟨(frA fs k).Num-(fdA g k).Limit*(frA fs k).Den,(frA fs k).Den⟩ ⟨mn,md⟩ (by simp at hm;simp;omega) (by simp;omega) (by simp;omega) (by simp;omega)) (by simp) ?_;simp -dsimp;apply hK;clear hK K;refine d9 rfl (fun hc1=>?_) (fun hc1=>?_)
  ·refine o8 l9 rfl (by decide) rfl rfl fun K hK=>?_;simp -dsimp;refine hK _ _ _ (by decide+kernel) ?_;clear hK K;simp only[zT,reduceIte,Nat.reduceEqDiff];refine hK3 _ _ ?_;refine b6 [0,3,4,16,17,18] (Or.inr (by simp)) ?_;simp only[zP,Nat.reduceEqDiff,reduceIte];refine gR fun K hK=>?_;simp -dsimp [wk];apply hK;clear hK K;simp only[zT,reduceIte,Nat.reduceEqDiff];have hcd:0<(frA fs k).Num-(fdA g k).Limit*(frA fs k).Den∧(at_<0∨mn*(frA fs k).Den<((frA fs k).Num-(fdA g k).Limit*(frA fs k).Den)*md):=by simpa using hc1
   rw[if_pos hcd]at hsu;exact⟨k+1,by omega,by omega,o1 (e9 [some 0,some 1,some 2,some 3,some 4,some 5] rfl (by simp[hsu]) (by simp[hsu])) (by simp)⟩
  ·refine f6 ?_;simp only[zT,reduceIte,Nat.reduceEqDiff];refine hK3 _ _ ?_;refine b6 [0,3,4,16,17,18] (Or.inr (by simp)) ?_;simp only[zP,Nat.reduceEqDiff,reduceIte];refine gR fun K hK=>?_;simp -dsimp [wk];apply hK;clear hK K;simp only[zT,reduceIte,Nat.reduceEqDiff];have hcd:¬(0<(frA fs k).Num-(fdA g k).Limit*(frA fs k).Den∧(at_<0∨mn*(frA fs k).Den<((frA fs k).Num-(fdA g k).Limit*(frA fs k).Den)*md)):=fun h=>by have h1:(fdA g k).Limit*(frA fs k).Den<(frA fs k).Num:=(by omega);simp only[h1,decide_true,Bool.true_and,Bool.or_eq_false_iff,decide_eq_false_iff_not]at hc1;exact h.2.elim hc1.1 hc1.2
   rw[if_neg hcd]at hsu;exact⟨k+1,by omega,by omega,o1 (e9 [some 0,some 1,some 2,some 3,some 4,some 5] rfl (by simp[hsu]) (by simp[hsu])) (by simp)⟩
 ·have hke:k=g.Feeds.length:=by have hn:¬k<g.Feeds.length:=(by simpa using hc0);omega
  subst hke;have hbd:=b1K hok g.Feeds.length (Nat.le_refl _);have hfl:=hok.len;generalize trL g fs g.Feeds.length=m at ht hf hbd ⊢;obtain⟨at_,mn,md⟩:=m;simp only at ht hf hbd ⊢;refine i6 ?_;simp only[zT,reduceIte,Nat.reduceEqDiff];refine hK1 _ _ ?_;refine b6 [0,3] (Or.inr (by simp)) ?_;simp only[zP,Nat.reduceEqDiff,reduceIte];refine b9 fun K4 hK4=>?_;refine gS fun K hK=>?_;simp -dsimp;apply hK;clear hK K;refine d9 rfl (fun hc2=>?_) (fun hc2=>?_)
  ·obtain⟨i,rfl⟩:∃i:Nat,at_=i:=⟨at_.toNat,by have:0≤at_:=(by simpa using hc2);omega⟩;have hil:i<g.Feeds.length:=by omega
   have gx:=V4 (fs:=fs) (k:=i) (by omega);obtain⟨e1,e2,e3⟩:=ht i rfl;subst e1 e2 e3;refine gS fun K hK=>?_;simp -dsimp [hil,hfe];apply hK;clear hK K;refine o8 l9 rfl (by decide) rfl rfl fun K hK=>?_;simp -dsimp [gx,f1];refine hK _ _ _ (by decide+kernel) ?_;clear hK K;simp only[zT,reduceIte,Nat.reduceEqDiff];refine hK4 _ _ ?_;refine b6 [0,3] (Or.inr (by simp)) ?_;simp only[zP,Nat.reduceEqDiff,reduceIte];refine gS fun K hK=>?_;simp -dsimp;apply hK;clear hK K;exact j6 ⟨[some 0,some 1,some 2,some 3,some 6],rfl,by simp,by simp[List.map_set],by simp,by simp[C2,n6]⟩
  ·obtain⟨e1,e2,e3⟩:=hf (by have:¬0≤at_:=(by simpa using hc2);omega);subst e1 e2 e3;refine f6 ?_;simp only[zT,reduceIte,Nat.reduceEqDiff];refine hK4 _ _ ?_;refine b6 [0,3] (Or.inr (by simp)) ?_;simp only[zP,Nat.reduceEqDiff,reduceIte];refine gS fun K hK=>?_;simp -dsimp;apply hK;clear hK K;exact j6 ⟨[some 0,some 1,some 2,some 3,some 4],rfl,by simp,by simp,by simp,by simp at hc2;simp[C2,n6];omega⟩
end Go.Cur
end
section
namespace Go.Cur
open Go.AM Go.Proofs
theorem b8y (x:Value) (g:Gr) (fe wi:List Bool) (l:List Ld) (sv:List Bool) (vs fs:List Fr) (cuts:List Cu) (hg:g.Feeds=[]):
  g6 Try.prog 80 [.ptr 0 0 0] [hSb (.fptr x 1 0 0) l sv.length vs fs cuts.length,hNb g fe wi] [some (.els 1 (sv.map i9)),some (.els 4 (cuts.map Cu.cells))]
   (Bo false) [hSb (.fptr x 1 0 0) l sv.length vs fs cuts.length,hNb g fe wi] [some (.els 1 (sv.map i9)),some (.els 4 (cuts.map Cu.cells))]:=by
 refine g6.keep (Hk:=[_]) (Hk':=[_]) 0 0 0 (x:=x) (i:=0) (o:=0) ?_ rfl rfl rfl rfl rfl rfl;refine g6.of_bodyG [0] Try.func80 rfl (by decide) (by simp[Try.ntmps80]) rfl rfl ?_;intro J hJ;simp only[Try.ntmps80,Try.results80];refine gS fun K hK=>?_;simp -dsimp;apply hK;clear hK K;refine gS fun K hK=>?_;simp -dsimp;apply hK;clear hK K;refine gS fun K hK=>?_;simp -dsimp;apply hK;clear hK K;refine b9 fun K1 hK1=>?_;refine gS fun K hK=>?_;simp -dsimp;apply hK;clear hK K;refine d7 ?_;refine b6 [0,3,4,16,17,18] (Or.inr (by simp)) ?_;simp only[zP,Nat.reduceEqDiff,reduceIte];refine g9 [0,4,16,17] (α:=Nat) (fun k=>[(3,I (-1)),(18,I 0)]) (fun k=>[hSb (.fptr x 1 0 0) l sv.length vs fs cuts.length,hNb g fe wi,some (.els 1 (sv.map i9)),some (.els 4 (cuts.map Cu.cells)),some (.els 2 [[I 0,I 0]])]) (fun k=>True) (fun k=>0) 0 ?_ ?_ ?_
 ·trivial
 ·exact o1 (j9 (by simp)) (by simp)
 rintro k k1;simp only[zP,Nat.reduceEqDiff,reduceIte];refine gS fun K hK=>?_;simp -dsimp;apply hK;clear hK K;refine b9 fun K2 hK2=>?_;refine d9 rfl (fun hc0=>?_) (fun hc0=>?_)
 ·simp[hg]at hc0
 ·refine i6 ?_;simp only[zT,reduceIte,Nat.reduceEqDiff];refine hK1 _ _ ?_;refine b6 [0,3] (Or.inr (by simp)) ?_;simp only[zP,Nat.reduceEqDiff,reduceIte];refine b9 fun K3 hK3=>?_;refine gS fun K hK=>?_;simp -dsimp;apply hK;clear hK K;refine d9 rfl (fun hc2=>?_) (fun hc2=>?_)
  ·simp at hc2
  ·refine f6 ?_;simp only[zT,reduceIte,Nat.reduceEqDiff];refine hK3 _ _ ?_;refine b6 [0,3] (Or.inr (by simp)) ?_;simp only[zP,Nat.reduceEqDiff,reduceIte];refine gS fun K hK=>?_;simp -dsimp;apply hK;clear hK K;exact j6 ⟨[some 0,some 1,some 2,some 3],rfl,by simp,by simp,by simp,by simp[C2,n6]⟩
end Go.Cur
end
section
namespace Go.Cur
open Go.AM Go.Proofs
def setT (bs:Kvs) (p:List Int):Kvs:=p.foldl (fun b k=>y5 b (ik k) (.bool true)) bs
theorem a6S {bs:Kvs} {p:List Int} {k:Nat} {x:Int} (h:p[k]?=some x):setT bs (p.take (k+1))=y5 (setT bs (p.take k)) (ik x) (.bool true):=by
 unfold setT;rw[List.take_add_one,h,List.foldl_append];rfl
theorem a4g (y:Int):∀(p:List Int) (bs:Kvs),ibt (setT bs p) y=(decide (y∈p)||ibt bs y)
 |[],bs=>by simp[setT]
 |x::p,bs=>by
  have ih:=a4g y p (y5 bs (ik x) (.bool true));unfold setT at ih ⊢;rw[List.foldl_cons,ih,b7X]
  by_cases h:y=x
  ·subst h;simp
  ·simp[h]
theorem a8T.setT:∀(p:List Int) {bs:Kvs},a8T bs→a8T (Cur.setT bs p)
 |[],bs,h=>h
 |x::p,bs,h=>a8T.setT p (h.set x true)
def b5w (g:Gr) (vf:Nat→Fr) (l:List Ld) (sv:List Bool) (i:Nat):Bool:=
 bAt sv i&&(decide (0<(ldA l i).Units)&&decide ((vf (ldA l i).At.toNat).Num<g.Least*(vf (ldA l i).At.toNat).Den))
def b8m (g:Gr) (s:Sta) (vf:Nat→Fr) (l:List Ld) (sv:List Bool) (bs:Kvs) (i:Nat):Kvs:=
 if b5w g vf l sv i=true then setT bs (upN (z4 g s (ldA l i).At.toNat))else bs
def a3h (g:Gr) (s:Sta) (vf:Nat→Fr) (l:List Ld) (sv:List Bool) (n:Nat):Kvs:=(List.range n).foldl (b8m g s vf l sv) []
theorem Q9 (g:Gr) (s:Sta) (vf:Nat→Fr) (l:List Ld) (sv:List Bool) (n:Nat):a3h g s vf l sv (n+1)=b8m g s vf l sv (a3h g s vf l sv n) n:=by
 unfold a3h;rw[List.range_succ,List.foldl_append];rfl
theorem a1H (g:Gr) (s:Sta) (vf:Nat→Fr) (l:List Ld) (sv:List Bool):∀n,a8T (a3h g s vf l sv n)
 |0=>a8T.nil
 |n+1=>by
  rw[Q9];unfold b8m
  split
  ·exact a8T.setT _ (a1H g s vf l sv n)
  ·exact a1H g s vf l sv n
theorem b9Y (n:Nat) (l:List Fr):(l.map Fr.cells).map (fun e=>e.map (b5G n))=l.map Fr.cells:=by
 rw[List.map_map];exact List.map_congr_left fun x _=>rfl
theorem c0I (x:Value) (g:Gr) (fe wi:List Bool) (l:List Ld) (sv:List Bool) (vs fs:List Fr) (cuts:List Cu) (hl:l.length≤1000) (hs:sv.length=l.length) (hc:cuts.length≤1000)
  (hld:∀y∈l,0≤y.At∧y.At<g.Nodes) (hnt:o7 g ⟨fe,wi⟩) (h12:I7 g ⟨fe,wi⟩) (vf:Nat→Fr) (hv:∀p∈j7 g ⟨fe,wi⟩,∃v d,a1A g ⟨fe,wi⟩ (tkK l sv) p v d vf)
  (hvd:∀k,k<g.Nodes.toNat→0<(vf k).Den∧(vf k).Den≤100000000000000) (r:Bool) (sv2:List Bool) (cuts2:List Cu)
  (ht:∀i:Nat,leL l sv (a7e (a3h g ⟨fe,wi⟩ vf l sv l.length)) l.length=i→r=true∧sv2=sv.set i false∧cuts2=cuts++[(⟨3,i,vf (ldA l i).At.toNat⟩:Cu)])
  (hf:leL l sv (a7e (a3h g ⟨fe,wi⟩ vf l sv l.length)) l.length<0→r=false∧sv2=sv∧cuts2=cuts):
  g6 Try.prog 79 [.ptr 0 0 0] [hSa (.fptr x 1 0 0) l sv.length vs fs cuts.length,hNa g fe wi] [some (.els 1 (sv.map i9)),some (.els 1 (fe.map i9)),some (.els 4 (cuts.map Cu.cells))]
   (Bo r) [hSa (.fptr x 1 0 0) l sv2.length (vlA g.Nodes.toNat vf) (flA g ⟨fe,wi⟩ vf) cuts2.length,hNa g fe wi] [some (.els 1 (sv2.map i9)),some (.els 1 (fe.map i9)),some (.els 4 (cuts2.map Cu.cells))]:=by
 refine g6.keep (Hk:=[_]) (Hk':=[_]) 0 0 0 (x:=x) (i:=0) (o:=0) ?_ rfl rfl rfl rfl rfl rfl;have hbd:=t9 hnt.gr;have hsol:=X2 g ⟨fe,wi⟩ (tkK l sv) hnt h12 vf hv;have hvN:(vlA g.Nodes.toNat vf).length=g.Nodes.toNat:=by simp[vlA]
 have hfN:(flA g ⟨fe,wi⟩ vf).length=g.Feeds.length:=by simp[flA]
 have htv:List.take g.Nodes.toNat ((vlA g.Nodes.toNat vf).map Fr.cells)=(vlA g.Nodes.toNat vf).map Fr.cells:=List.take_of_length_le (by simp;omega);have htf:List.take g.Feeds.length ((flA g ⟨fe,wi⟩ vf).map Fr.cells)=(flA g ⟨fe,wi⟩ vf).map Fr.cells:=List.take_of_length_le (by simp;omega);have hlb:=a2V l sv (a7e (a3h g ⟨fe,wi⟩ vf l sv l.length)) l.length;have hle:=a5a (net g ⟨fe,wi⟩) l sv (fL (vlA g.Nodes.toNat vf)) (fL (flA g ⟨fe,wi⟩ vf)) (cL cuts) 98 [[.mpc false [.i .i64] (a3h g ⟨fe,wi⟩ vf l sv l.length)]] (a7e (a3h g ⟨fe,wi⟩ vf l sv l.length)) hl hs
  (fun y hy=>b6w (a3h g ⟨fe,wi⟩ vf l sv l.length) (a1H _ _ _ _ _ _) y)
 have hgv:=fun k (hk:k<g.Nodes.toNat)=>Q5 (vf:=vf) hk;obtain⟨VS,hVS⟩:∃VS,VS=vlA g.Nodes.toNat vf:=⟨_,rfl⟩;obtain⟨FS,hFS⟩:∃FS,FS=flA g ⟨fe,wi⟩ vf:=⟨_,rfl⟩;obtain⟨lm,hlm⟩:∃lm:Nat→Kvs,lm=a3h g ⟨fe,wi⟩ vf l sv:=⟨_,rfl⟩;have hls:=fun n=>Q9 g ⟨fe,wi⟩ vf l sv n;have hl0:lm 0=[]:=by rw[hlm];rfl
 rw[←hVS]at hsol hvN htv hle hgv ⊢;rw[←hFS]at hsol hfN htf hle ⊢;rw[←hlm]at hle hlb ht hf hls;clear hVS hFS hlm;generalize leL l sv (a7e (lm l.length)) l.length=out at ht hf hlb hle;refine g6.of_bodyG [0] Try.func79 rfl (by decide) (by simp[Try.ntmps79]) rfl rfl ?_;intro J hJ;simp only[Try.ntmps79,Try.results79];refine gS fun K hK=>?_;simp -dsimp;apply hK;clear hK K;refine Z6 [3,4] [0] [(0,stg g ⟨fe,wi⟩ l sv (fL vs) (fL fs) (cL cuts))] (⟨.inr (by simp),trivial⟩) (by decide) (fun T' H'=>Go.AM.l6 T' 3= .ptr 5 0 0∧Go.AM.l6 T' 4=Bo true∧H'=[some (.map false [.i .i64] (tkK l sv)),some (.els 2 (VS.map Fr.cells)),some (.els 2 (FS.map Fr.cells)),some (.els 2 [[.row 1 0 g.Nodes.toNat, .row 2 0 g.Feeds.length]]),some (.els 1 [[Bo true]]),some (.els 2 [[.row 1 0 g.Nodes.toNat, .row 2 0 g.Feeds.length]])]) ?_ ?_
 ·intro J1 hJ1;refine o8 l9 rfl (by decide) rfl rfl fun K hK=>?_;simp -dsimp;refine F0 [] [] [some 0] (a4s l sv hl hs) (by decide) rfl (by simp) (by simp) rfl (by simp) (by simp) (by simp) ?_;simp -dsimp;refine F0 [] [] [none,some 0,some 1,some 2,some 3] (hsol) (by decide) rfl (by simp) (by simp) rfl (by simp) (by simp) (by simp) ?_;simp -dsimp;refine hK _ _ _ (by decide+kernel) ?_;clear hK K;exact⟨rfl,rfl,by simp⟩
 ·intro T' H' hR;obtain⟨hR,hR4,rfl⟩:=hR;refine⟨by simp,?_⟩;simp only[List.map_cons,List.map_nil,List.cons_append,List.nil_append,List.length_cons,List.length_nil,Nat.reduceAdd,Nat.zero_add,Option.map_some,b5G,a3j,Go.AM.l6,Nat.reduceEqDiff,reduceIte,hR,hR4,b9Y];refine b9 fun K1 hK1=>?_;refine gS fun K hK=>?_;simp -dsimp;apply hK;clear hK K;refine d9 rfl (fun hc0=>?_) (fun hc0=>?_)
  ·simp at hc0
  ·refine f6 ?_;simp only[zT,reduceIte,Nat.reduceEqDiff];refine hK1 _ _ ?_;refine b6 [0,3] (Or.inr (by simp)) ?_;simp only[zP,Nat.reduceEqDiff,reduceIte];refine gS fun K hK=>?_;simp -dsimp;apply hK;clear hK K;refine p9 (o1 (D5 (T':=[(0, .ptr 0 0 0),(3, .ptr 5 0 0)]) (H':=[hSa (.fptr x 1 0 0) l sv.length VS FS cuts.length,hNa g fe wi,some (.els 1 (sv.map i9)),some (.els 1 (fe.map i9)),some (.els 4 (cuts.map Cu.cells)),some (.els 2 [[fL VS,fL FS]])]) [some 0,some 1,some 2,some 3,some 4,some 10] rfl ⟨.inr (by simp), .inr (by simp),trivial⟩ (by simp[htv,htf];omega)) (by simp)) ?_
   ·refine gS fun K hK=>?_;simp -dsimp;apply hK;clear hK K;refine b9 fun K2 hK2=>?_;refine gS fun K hK=>?_;simp -dsimp;apply hK;clear hK K;refine d7 ?_;refine b6 [0,3,5,38,39,40] (Or.inr (by simp)) ?_;simp only[zP,Nat.reduceEqDiff,reduceIte];refine g9 [0,3,5,38,39] (α:=Nat) (fun k=>[(40,I k)]) (fun k=>[hSa (.fptr x 1 0 0) l sv.length VS FS cuts.length,hNa g fe wi,some (.els 1 (sv.map i9)),some (.els 1 (fe.map i9)),some (.els 4 (cuts.map Cu.cells)),some (.els 2 [[fL VS,fL FS]]),some (.map false [.i .i64] (lm k)),some (.els 1 [[.mp 6]])]) (fun k=>k≤l.length) (fun k=>l.length-k) 0 ?_ ?_ ?_
    ·exact Nat.zero_le _
    ·rw[hl0];exact o1 (j9 (by simp)) (by simp)
    rintro k k1;simp only[zP,Nat.reduceEqDiff,reduceIte];refine gS fun K hK=>?_;simp -dsimp;apply hK;clear hK K;refine b9 fun K3 hK3=>?_;refine d9 rfl (fun hc1=>?_) (fun hc1=>?_)
    ·have hkl:k<l.length:=by simpa using hc1
     have wk:=zW k (by omega);have gl:=z8 (l:=l) (k:=k) hkl;have gb:=v9 (l:=sv) (k:=k) (by omega);have hne:¬sv=[]:=by intro e;rw[e]at hs;simp at hs;omega
     have hks:k<sv.length:=by omega
     have hbe:sv[k]=bAt sv k:=Option.some.inj (by rw[←List.getElem?_eq_getElem hks];exact gb);have hya:=hld _ (List.mem_of_getElem? gl);have hlk:=hls k;unfold b8m b5w at hlk;have hcp:=a5J g ⟨fe,wi⟩ l sv (fL VS) (fL FS) (cL cuts) hnt h12 (ldA l k).At hya.1 hya.2;have hpl:=o9 (z4 g ⟨fe,wi⟩ (ldA l k).At.toNat);have hpo:=L2 g ⟨fe,wi⟩ (ldA l k).At.toNat;generalize upN (z4 g ⟨fe,wi⟩ (ldA l k).At.toNat)=pl at hlk hcp hpl;obtain⟨kA,hkA⟩:∃kA:Nat,(ldA l k).At=kA:=⟨(ldA l k).At.toNat,by omega⟩;have hkN:kA<g.Nodes.toNat:=by omega
     have gv:=hgv kA hkN;have hd:=hvd kA hkN;rw[hkA,Int.toNat_natCast]at hlk;rw[hkA]at hcp;have hLd:0≤g.Least*(vf kA).Den∧g.Least*(vf kA).Den≤1000000000000000000:=⟨Int.mul_nonneg (by omega) (by omega),Int.le_trans (Int.mul_le_mul hbd.2.2.2.2.2 hd.2 (by omega) (by omega)) (by omega)⟩;have w1:IntKind.i64.wrap (g.Least*(vf kA).Den)=g.Least*(vf kA).Den:=f7 (by omega) (by omega);obtain⟨LD,hLD⟩:∃LD,g.Least*(vf kA).Den=LD:=⟨_,rfl⟩;rw[hLD]at w1 hlk;refine f6 ?_;simp only[zT,reduceIte,Nat.reduceEqDiff];refine hK3 _ _ ?_;refine b6 [0,3,5,38,39,40] (Or.inr (by simp)) ?_;simp only[zP,Nat.reduceEqDiff,reduceIte];refine b9 fun K4 hK4=>?_;refine d7 ?_;refine gS fun K hK=>?_;simp -dsimp [gl];apply hK;clear hK K;refine w9 l9 rfl (by decide) rfl rfl fun K hK=>?_;simp -dsimp [gb,hne,hkA,hLD,w1,hks,hbe];refine l3 ((vf kA).cells) (fun _=>by simp[gv]) ?_;simp -dsimp [gb,hne,hkA,hLD,w1,hks,hbe];refine l3 ((vf kA).cells) (fun _=>by simp[gv]) ?_;simp -dsimp [gb,hne,hkA,hLD,w1,hks,hbe];refine hK _ _ _ (by decide+kernel) ?_;clear hK K;refine d9 rfl (fun hc2=>?_) (fun hc2=>?_)
     ·refine a5I [6,7] [5] [0,3,38,39,40] [(0,stg g ⟨fe,wi⟩ l sv (fL VS) (fL FS) (cL cuts)),(5, .ptr 1 0 0),(7, .iptr (ldA l k).cells)] [some (.map false [.i .i64] (lm k)),some (.els 1 [[.mp 0]])] (by simp) (by decide) (⟨.inr (by simp), .inr (by simp), .inr (by simp[hkA]),trivial⟩) (by simp) (by decide) (fun T' H'=>Go.AM.l6 T' 5= .ptr 1 0 0∧H'=[some (.map false [.i .i64] (setT (lm k) pl)),some (.els 1 [[.mp 0]])]) ?_ ?_
      ·intro J1 hJ1;refine gR fun K hK=>?_;simp -dsimp [hkA];refine d5 _ (hcp) (by simp) ?_;simp -dsimp [hkA];apply hK;clear hK K;refine⟨rfl,?_⟩;refine d7 ?_;refine b6 [0,3,5,38,39,40,86,87,88] (Or.inr (by simp)) ?_;simp only[zP,Nat.reduceEqDiff,reduceIte];refine g9 [0,3,5,38,39,40,86,87] (α:=Nat) (fun j=>[(88,I j)]) (fun j=>[some (.map false [.i .i64] (setT (lm k) (pl.take j))),some (.els 1 [[.mp 0]])]) (fun j=>j≤pl.length) (fun j=>pl.length-j) 0 ?_ ?_ ?_
       ·exact Nat.zero_le _
       ·exact o1 (j9 (by simp[setT])) (by simp)
       rintro j j1;simp only[zP,Nat.reduceEqDiff,reduceIte];refine gS fun K hK=>?_;simp -dsimp;apply hK;clear hK K;refine b9 fun K5 hK5=>?_;refine d9 rfl (fun hc3=>?_) (fun hc3=>?_)
       ·have hjl:j<pl.length:=by simpa using hc3
        obtain⟨y,hy⟩:∃y,pl[j]?=some y:=⟨_,List.getElem?_eq_getElem hjl⟩;have hst:=a6S (bs:=lm k) hy;have wj:=zW j (by omega);refine f6 ?_;simp only[zT,reduceIte,Nat.reduceEqDiff];refine hK5 _ _ ?_;refine b6 [0,3,5,38,39,40,86,87,88] (Or.inr (by simp)) ?_;simp only[zP,Nat.reduceEqDiff,reduceIte];refine b9 fun K6 hK6=>?_;refine d7 ?_;refine gS fun K hK=>?_;simp -dsimp [hy];apply hK;clear hK K;refine gR fun K hK=>?_;simp -dsimp;apply hK;clear hK K;simp only[zT,reduceIte,Nat.reduceEqDiff];refine hK6 _ _ ?_;refine b6 [0,3,5,38,39,40,86,87,88] (Or.inr (by simp)) ?_;simp only[zP,Nat.reduceEqDiff,reduceIte];refine gR fun K hK=>?_;simp -dsimp [wj];apply hK;clear hK K;simp only[zT,reduceIte,Nat.reduceEqDiff];exact⟨j+1,by omega,by omega,o1 (e9 [some 0,some 1] rfl (by simp) (by simp[hst])) (by simp)⟩
       ·have hje:j=pl.length:=by have hn:¬j<pl.length:=(by simpa using hc3);omega
        have htk:pl.take pl.length=pl:=List.take_of_length_le (by omega);refine i6 ?_;simp only[zT,reduceIte,Nat.reduceEqDiff];exact⟨trivial,rfl,by simp,by rw[hje,htk]⟩
      ·intro T' H' hR;obtain⟨hR,rfl⟩:=hR;refine⟨by simp[a4W],?_⟩;have hg:b2b [6,7] 9=[some 0,some 1,some 2,some 3,some 4,some 5,none,none,some 8]:=rfl;have e1:b1j [6,7] (.ptr 1 0 0)= .ptr 7 0 0:=rfl;have e2:∀a b c,b4s [6,7] (.map a b c)= .map a b c:=fun _ _ _=>rfl;have e3:b4s [6,7] (.els 1 [[.mp 0]])= .els 1 [[.mp 6]]:=rfl;have hr:List.range 9=[0,1,2,3,4,5,6,7,8]:=rfl;simp only[a4W,a8l,List.length_cons,List.length_nil,Nat.reduceAdd,Nat.zero_add,hg,hr,List.map_cons,List.map_nil,List.cons_append,List.nil_append,hR];simp only[zT,reduceIte,Nat.reduceEqDiff];refine hK4 _ _ ?_;refine b6 [0,3,5,38,39,40] (Or.inr (by simp)) ?_;simp only[zP,Nat.reduceEqDiff,reduceIte];refine gR fun K hK=>?_;simp -dsimp [wk];apply hK;clear hK K;simp only[zT,reduceIte,Nat.reduceEqDiff];have hcd:(bAt sv k&&(decide (0<(ldA l k).Units)&&decide ((vf kA).Num<LD)))=true:=by simpa [and_assoc]using hc2
       rw[if_pos hcd]at hlk;exact⟨k+1,by omega,by omega,o1 (e9 [some 0,some 1,some 2,some 3,some 4,some 5,some 6,some 7] rfl (by simp[e1]) (by simp[hlk,e2,e3])) (by simp)⟩
     ·refine f6 ?_;simp only[zT,reduceIte,Nat.reduceEqDiff];refine hK4 _ _ ?_;refine b6 [0,3,5,38,39,40] (Or.inr (by simp)) ?_;simp only[zP,Nat.reduceEqDiff,reduceIte];refine gR fun K hK=>?_;simp -dsimp [wk];apply hK;clear hK K;simp only[zT,reduceIte,Nat.reduceEqDiff];have hcd:¬(bAt sv k&&(decide (0<(ldA l k).Units)&&decide ((vf kA).Num<LD)))=true:=by intro h;simp at h;simp[h.1,h.2.1,h.2.2]at hc2
      rw[if_neg hcd]at hlk;exact⟨k+1,by omega,by omega,o1 (e9 [some 0,some 1,some 2,some 3,some 4,some 5,some 6,some 7] rfl (by simp) (by simp[hlk])) (by simp)⟩
    ·have hke:k=l.length:=by have hn:¬k<l.length:=(by simpa using hc1);omega
     subst hke;refine i6 ?_;simp only[zT,reduceIte,Nat.reduceEqDiff];refine hK2 _ _ ?_;refine b6 [0,3,5] (Or.inr (by simp)) ?_;simp only[zP,Nat.reduceEqDiff,reduceIte];refine gS fun K hK=>?_;simp -dsimp;refine d5 _ (hle) (by simp) ?_;simp -dsimp;apply hK;clear hK K;refine b9 fun K7 hK7=>?_;refine gS fun K hK=>?_;simp -dsimp;apply hK;clear hK K;refine d9 rfl (fun hc4=>?_) (fun hc4=>?_)
     ·obtain⟨i,rfl⟩:∃i:Nat,out=i:=⟨out.toNat,by have:0≤out:=(by simpa using hc4);omega⟩;have gl:=z8 (l:=l) (k:=i) (by omega);have hya:=hld _ (List.mem_of_getElem? gl);obtain⟨e1,e2,e3⟩:=ht i rfl;obtain⟨kA,hkA⟩:∃kA:Nat,(ldA l i).At=kA:=⟨(ldA l i).At.toNat,by omega⟩;have gv:=hgv kA (by omega);rw[hkA,Int.toNat_natCast]at e3;subst e1 e2 e3;refine o8 l9 rfl (by decide) rfl rfl fun K hK=>?_;simp -dsimp [gl,hkA,gv];refine k9 [0,1] [2,3,4] [some 0,some 1,none,none,none,none,none,none,some 2,some 3,some 4] ((b3f x g fe wi l sv VS FS cuts 3 i (vf kA) (by omega) hc).keep (Hk:=[_]) (Hk':=[_]) 0 0 0 (x:=x) (i:=0) (o:=0) rfl rfl rfl rfl rfl rfl) (by decide) rfl (by simp) (by simp) rfl (by simp) ?_;simp -dsimp [gl,hkA,gv];refine hK _ _ _ (by decide+kernel) ?_;clear hK K;simp only[zT,reduceIte,Nat.reduceEqDiff];refine hK7 _ _ ?_;refine b6 [0,10] (Or.inr (by simp)) ?_;simp only[zP,Nat.reduceEqDiff,reduceIte];refine gS fun K hK=>?_;simp -dsimp;apply hK;clear hK K;exact j6 ⟨[some 0,some 1,some 8,some 9,some 10],rfl,by simp,by simp,by simp,by simp[C2,n6]⟩
     ·obtain⟨e1,e2,e3⟩:=hf (by have:¬0≤out:=(by simpa using hc4);omega);subst e1 e2 e3;refine f6 ?_;simp only[zT,reduceIte,Nat.reduceEqDiff];refine hK7 _ _ ?_;refine b6 [0,10] (Or.inr (by simp)) ?_;simp only[zP,Nat.reduceEqDiff,reduceIte];refine gS fun K hK=>?_;simp -dsimp;apply hK;clear hK K;exact j6 ⟨[some 0,some 1,some 2,some 3,some 4],rfl,by simp,by simp,by simp,by simp at hc4;simp[C2,n6];omega⟩
theorem c0n (x:Value) (g:Gr) (fe wi:List Bool) (l:List Ld) (sv:List Bool) (vs fs:List Fr) (cuts:List Cu) (hl:l.length≤1000) (hs:sv.length=l.length) (hc:cuts.length≤1000)
  (hld:∀y∈l,0≤y.At∧y.At<g.Nodes) (hnt:o7 g ⟨[],wi⟩) (h12:I7 g ⟨[],wi⟩) (vf:Nat→Fr) (hv:∀p∈j7 g ⟨[],wi⟩,∃v d,a1A g ⟨[],wi⟩ (tkK l sv) p v d vf)
  (hvd:∀k,k<g.Nodes.toNat→0<(vf k).Den∧(vf k).Den≤100000000000000) (r:Bool) (sv2:List Bool) (cuts2:List Cu)
  (ht:∀i:Nat,leL l sv (a7e (a3h g ⟨[],wi⟩ vf l sv l.length)) l.length=i→r=true∧sv2=sv.set i false∧cuts2=cuts++[(⟨3,i,vf (ldA l i).At.toNat⟩:Cu)])
  (hf:leL l sv (a7e (a3h g ⟨[],wi⟩ vf l sv l.length)) l.length<0→r=false∧sv2=sv∧cuts2=cuts):
  g6 Try.prog 79 [.ptr 0 0 0] [hSb (.fptr x 1 0 0) l sv.length vs fs cuts.length,hNb g fe wi] [some (.els 1 (sv.map i9)),some (.els 4 (cuts.map Cu.cells))]
   (Bo r) [hSb (.fptr x 1 0 0) l sv2.length (vlA g.Nodes.toNat vf) (flA g ⟨[],wi⟩ vf) cuts2.length,hNb g fe wi] [some (.els 1 (sv2.map i9)),some (.els 4 (cuts2.map Cu.cells))]:=by
 refine g6.keep (Hk:=[_]) (Hk':=[_]) 0 0 0 (x:=x) (i:=0) (o:=0) ?_ rfl rfl rfl rfl rfl rfl;have hbd:=t9 hnt.gr;have hsol:=X2 g ⟨[],wi⟩ (tkK l sv) hnt h12 vf hv;have hvN:(vlA g.Nodes.toNat vf).length=g.Nodes.toNat:=by simp[vlA]
 have hfN:(flA g ⟨[],wi⟩ vf).length=g.Feeds.length:=by simp[flA]
 have htv:List.take g.Nodes.toNat ((vlA g.Nodes.toNat vf).map Fr.cells)=(vlA g.Nodes.toNat vf).map Fr.cells:=List.take_of_length_le (by simp;omega);have htf:List.take g.Feeds.length ((flA g ⟨[],wi⟩ vf).map Fr.cells)=(flA g ⟨[],wi⟩ vf).map Fr.cells:=List.take_of_length_le (by simp;omega);have hlb:=a2V l sv (a7e (a3h g ⟨[],wi⟩ vf l sv l.length)) l.length;have hle:=a5a (net g ⟨[],wi⟩) l sv (fL (vlA g.Nodes.toNat vf)) (fL (flA g ⟨[],wi⟩ vf)) (cL cuts) 98 [[.mpc false [.i .i64] (a3h g ⟨[],wi⟩ vf l sv l.length)]] (a7e (a3h g ⟨[],wi⟩ vf l sv l.length)) hl hs
  (fun y hy=>b6w (a3h g ⟨[],wi⟩ vf l sv l.length) (a1H _ _ _ _ _ _) y)
 have hgv:=fun k (hk:k<g.Nodes.toNat)=>Q5 (vf:=vf) hk;obtain⟨VS,hVS⟩:∃VS,VS=vlA g.Nodes.toNat vf:=⟨_,rfl⟩;obtain⟨FS,hFS⟩:∃FS,FS=flA g ⟨[],wi⟩ vf:=⟨_,rfl⟩;obtain⟨lm,hlm⟩:∃lm:Nat→Kvs,lm=a3h g ⟨[],wi⟩ vf l sv:=⟨_,rfl⟩;have hls:=fun n=>Q9 g ⟨[],wi⟩ vf l sv n;have hl0:lm 0=[]:=by rw[hlm];rfl
 rw[←hVS]at hsol hvN htv hle hgv ⊢;rw[←hFS]at hsol hfN htf hle ⊢;rw[←hlm]at hle hlb ht hf hls;clear hVS hFS hlm;generalize leL l sv (a7e (lm l.length)) l.length=out at ht hf hlb hle;refine g6.of_bodyG [0] Try.func79 rfl (by decide) (by simp[Try.ntmps79]) rfl rfl ?_;intro J hJ;simp only[Try.ntmps79,Try.results79];refine gS fun K hK=>?_;simp -dsimp;apply hK;clear hK K;refine Z6 [3,4] [0] [(0,stg g ⟨[],wi⟩ l sv (fL vs) (fL fs) (cL cuts))] (⟨.inr (by simp),trivial⟩) (by decide) (fun T' H'=>Go.AM.l6 T' 3= .ptr 5 0 0∧Go.AM.l6 T' 4=Bo true∧H'=[some (.map false [.i .i64] (tkK l sv)),some (.els 2 (VS.map Fr.cells)),some (.els 2 (FS.map Fr.cells)),some (.els 2 [[.row 1 0 g.Nodes.toNat, .row 2 0 g.Feeds.length]]),some (.els 1 [[Bo true]]),some (.els 2 [[.row 1 0 g.Nodes.toNat, .row 2 0 g.Feeds.length]])]) ?_ ?_
 ·intro J1 hJ1;refine o8 l9 rfl (by decide) rfl rfl fun K hK=>?_;simp -dsimp;refine F0 [] [] [some 0] (a4s l sv hl hs) (by decide) rfl (by simp) (by simp) rfl (by simp) (by simp) (by simp) ?_;simp -dsimp;refine F0 [] [] [none,some 0,some 1,some 2,some 3] (hsol) (by decide) rfl (by simp) (by simp) rfl (by simp) (by simp) (by simp) ?_;simp -dsimp;refine hK _ _ _ (by decide+kernel) ?_;clear hK K;exact⟨rfl,rfl,by simp⟩
 ·intro T' H' hR;obtain⟨hR,hR4,rfl⟩:=hR;refine⟨by simp,?_⟩;simp only[List.map_cons,List.map_nil,List.cons_append,List.nil_append,List.length_cons,List.length_nil,Nat.reduceAdd,Nat.zero_add,Option.map_some,b5G,a3j,Go.AM.l6,Nat.reduceEqDiff,reduceIte,hR,hR4,b9Y];refine b9 fun K1 hK1=>?_;refine gS fun K hK=>?_;simp -dsimp;apply hK;clear hK K;refine d9 rfl (fun hc0=>?_) (fun hc0=>?_)
  ·simp at hc0
  ·refine f6 ?_;simp only[zT,reduceIte,Nat.reduceEqDiff];refine hK1 _ _ ?_;refine b6 [0,3] (Or.inr (by simp)) ?_;simp only[zP,Nat.reduceEqDiff,reduceIte];refine gS fun K hK=>?_;simp -dsimp;apply hK;clear hK K;refine p9 (o1 (D5 (T':=[(0, .ptr 0 0 0),(3, .ptr 4 0 0)]) (H':=[hSb (.fptr x 1 0 0) l sv.length VS FS cuts.length,hNb g fe wi,some (.els 1 (sv.map i9)),some (.els 4 (cuts.map Cu.cells)),some (.els 2 [[fL VS,fL FS]])]) [some 0,some 1,some 2,some 3,some 9] rfl ⟨.inr (by simp), .inr (by simp),trivial⟩ (by simp[htv,htf];omega)) (by simp)) ?_
   ·refine gS fun K hK=>?_;simp -dsimp;apply hK;clear hK K;refine b9 fun K2 hK2=>?_;refine gS fun K hK=>?_;simp -dsimp;apply hK;clear hK K;refine d7 ?_;refine b6 [0,3,5,38,39,40] (Or.inr (by simp)) ?_;simp only[zP,Nat.reduceEqDiff,reduceIte];refine g9 [0,3,5,38,39] (α:=Nat) (fun k=>[(40,I k)]) (fun k=>[hSb (.fptr x 1 0 0) l sv.length VS FS cuts.length,hNb g fe wi,some (.els 1 (sv.map i9)),some (.els 4 (cuts.map Cu.cells)),some (.els 2 [[fL VS,fL FS]]),some (.map false [.i .i64] (lm k)),some (.els 1 [[.mp 5]])]) (fun k=>k≤l.length) (fun k=>l.length-k) 0 ?_ ?_ ?_
    ·exact Nat.zero_le _
    ·rw[hl0];exact o1 (j9 (by simp)) (by simp)
    rintro k k1;simp only[zP,Nat.reduceEqDiff,reduceIte];refine gS fun K hK=>?_;simp -dsimp;apply hK;clear hK K;refine b9 fun K3 hK3=>?_;refine d9 rfl (fun hc1=>?_) (fun hc1=>?_)
    ·have hkl:k<l.length:=by simpa using hc1
     have wk:=zW k (by omega);have gl:=z8 (l:=l) (k:=k) hkl;have gb:=v9 (l:=sv) (k:=k) (by omega);have hne:¬sv=[]:=by intro e;rw[e]at hs;simp at hs;omega
     have hks:k<sv.length:=by omega
     have hbe:sv[k]=bAt sv k:=Option.some.inj (by rw[←List.getElem?_eq_getElem hks];exact gb);have hya:=hld _ (List.mem_of_getElem? gl);have hlk:=hls k;unfold b8m b5w at hlk;have hcp:=a5J g ⟨[],wi⟩ l sv (fL VS) (fL FS) (cL cuts) hnt h12 (ldA l k).At hya.1 hya.2;have hpl:=o9 (z4 g ⟨[],wi⟩ (ldA l k).At.toNat);have hpo:=L2 g ⟨[],wi⟩ (ldA l k).At.toNat;generalize upN (z4 g ⟨[],wi⟩ (ldA l k).At.toNat)=pl at hlk hcp hpl;obtain⟨kA,hkA⟩:∃kA:Nat,(ldA l k).At=kA:=⟨(ldA l k).At.toNat,by omega⟩;have hkN:kA<g.Nodes.toNat:=by omega
     have gv:=hgv kA hkN;have hd:=hvd kA hkN;rw[hkA,Int.toNat_natCast]at hlk;rw[hkA]at hcp;have hLd:0≤g.Least*(vf kA).Den∧g.Least*(vf kA).Den≤1000000000000000000:=⟨Int.mul_nonneg (by omega) (by omega),Int.le_trans (Int.mul_le_mul hbd.2.2.2.2.2 hd.2 (by omega) (by omega)) (by omega)⟩;have w1:IntKind.i64.wrap (g.Least*(vf kA).Den)=g.Least*(vf kA).Den:=f7 (by omega) (by omega);obtain⟨LD,hLD⟩:∃LD,g.Least*(vf kA).Den=LD:=⟨_,rfl⟩;rw[hLD]at w1 hlk;refine f6 ?_;simp only[zT,reduceIte,Nat.reduceEqDiff];refine hK3 _ _ ?_;refine b6 [0,3,5,38,39,40] (Or.inr (by simp)) ?_;simp only[zP,Nat.reduceEqDiff,reduceIte];refine b9 fun K4 hK4=>?_;refine d7 ?_;refine gS fun K hK=>?_;simp -dsimp [gl];apply hK;clear hK K;refine w9 l9 rfl (by decide) rfl rfl fun K hK=>?_;simp -dsimp [gb,hne,hkA,hLD,w1,hks,hbe];refine l3 ((vf kA).cells) (fun _=>by simp[gv]) ?_;simp -dsimp [gb,hne,hkA,hLD,w1,hks,hbe];refine l3 ((vf kA).cells) (fun _=>by simp[gv]) ?_;simp -dsimp [gb,hne,hkA,hLD,w1,hks,hbe];refine hK _ _ _ (by decide+kernel) ?_;clear hK K;refine d9 rfl (fun hc2=>?_) (fun hc2=>?_)
     ·refine a5I [5,6] [5] [0,3,38,39,40] [(0,stg g ⟨[],wi⟩ l sv (fL VS) (fL FS) (cL cuts)),(5, .ptr 1 0 0),(7, .iptr (ldA l k).cells)] [some (.map false [.i .i64] (lm k)),some (.els 1 [[.mp 0]])] (by simp) (by decide) (⟨.inr (by simp), .inr (by simp), .inr (by simp[hkA]),trivial⟩) (by simp) (by decide) (fun T' H'=>Go.AM.l6 T' 5= .ptr 1 0 0∧H'=[some (.map false [.i .i64] (setT (lm k) pl)),some (.els 1 [[.mp 0]])]) ?_ ?_
      ·intro J1 hJ1;refine gR fun K hK=>?_;simp -dsimp [hkA];refine d5 _ (hcp) (by simp) ?_;simp -dsimp [hkA];apply hK;clear hK K;refine⟨rfl,?_⟩;refine d7 ?_;refine b6 [0,3,5,38,39,40,86,87,88] (Or.inr (by simp)) ?_;simp only[zP,Nat.reduceEqDiff,reduceIte];refine g9 [0,3,5,38,39,40,86,87] (α:=Nat) (fun j=>[(88,I j)]) (fun j=>[some (.map false [.i .i64] (setT (lm k) (pl.take j))),some (.els 1 [[.mp 0]])]) (fun j=>j≤pl.length) (fun j=>pl.length-j) 0 ?_ ?_ ?_
       ·exact Nat.zero_le _
       ·exact o1 (j9 (by simp[setT])) (by simp)
       rintro j j1;simp only[zP,Nat.reduceEqDiff,reduceIte];refine gS fun K hK=>?_;simp -dsimp;apply hK;clear hK K;refine b9 fun K5 hK5=>?_;refine d9 rfl (fun hc3=>?_) (fun hc3=>?_)
       ·have hjl:j<pl.length:=by simpa using hc3
        obtain⟨y,hy⟩:∃y,pl[j]?=some y:=⟨_,List.getElem?_eq_getElem hjl⟩;have hst:=a6S (bs:=lm k) hy;have wj:=zW j (by omega);refine f6 ?_;simp only[zT,reduceIte,Nat.reduceEqDiff];refine hK5 _ _ ?_;refine b6 [0,3,5,38,39,40,86,87,88] (Or.inr (by simp)) ?_;simp only[zP,Nat.reduceEqDiff,reduceIte];refine b9 fun K6 hK6=>?_;refine d7 ?_;refine gS fun K hK=>?_;simp -dsimp [hy];apply hK;clear hK K;refine gR fun K hK=>?_;simp -dsimp;apply hK;clear hK K;simp only[zT,reduceIte,Nat.reduceEqDiff];refine hK6 _ _ ?_;refine b6 [0,3,5,38,39,40,86,87,88] (Or.inr (by simp)) ?_;simp only[zP,Nat.reduceEqDiff,reduceIte];refine gR fun K hK=>?_;simp -dsimp [wj];apply hK;clear hK K;simp only[zT,reduceIte,Nat.reduceEqDiff];exact⟨j+1,by omega,by omega,o1 (e9 [some 0,some 1] rfl (by simp) (by simp[hst])) (by simp)⟩
       ·have hje:j=pl.length:=by have hn:¬j<pl.length:=(by simpa using hc3);omega
        have htk:pl.take pl.length=pl:=List.take_of_length_le (by omega);refine i6 ?_;simp only[zT,reduceIte,Nat.reduceEqDiff];exact⟨trivial,rfl,by simp,by rw[hje,htk]⟩
      ·intro T' H' hR;obtain⟨hR,rfl⟩:=hR;refine⟨by simp[a4W],?_⟩;have hg:b2b [5,6] 8=[some 0,some 1,some 2,some 3,some 4,none,none,some 7]:=rfl;have e1:b1j [5,6] (.ptr 1 0 0)= .ptr 6 0 0:=rfl;have e2:∀a b c,b4s [5,6] (.map a b c)= .map a b c:=fun _ _ _=>rfl;have e3:b4s [5,6] (.els 1 [[.mp 0]])= .els 1 [[.mp 5]]:=rfl;have hr:List.range 8=[0,1,2,3,4,5,6,7]:=rfl;simp only[a4W,a8l,List.length_cons,List.length_nil,Nat.reduceAdd,Nat.zero_add,hg,hr,List.map_cons,List.map_nil,List.cons_append,List.nil_append,hR];simp only[zT,reduceIte,Nat.reduceEqDiff];refine hK4 _ _ ?_;refine b6 [0,3,5,38,39,40] (Or.inr (by simp)) ?_;simp only[zP,Nat.reduceEqDiff,reduceIte];refine gR fun K hK=>?_;simp -dsimp [wk];apply hK;clear hK K;simp only[zT,reduceIte,Nat.reduceEqDiff];have hcd:(bAt sv k&&(decide (0<(ldA l k).Units)&&decide ((vf kA).Num<LD)))=true:=by simpa [and_assoc]using hc2
       rw[if_pos hcd]at hlk;exact⟨k+1,by omega,by omega,o1 (e9 [some 0,some 1,some 2,some 3,some 4,some 5,some 6] rfl (by simp[e1]) (by simp[hlk,e2,e3])) (by simp)⟩
     ·refine f6 ?_;simp only[zT,reduceIte,Nat.reduceEqDiff];refine hK4 _ _ ?_;refine b6 [0,3,5,38,39,40] (Or.inr (by simp)) ?_;simp only[zP,Nat.reduceEqDiff,reduceIte];refine gR fun K hK=>?_;simp -dsimp [wk];apply hK;clear hK K;simp only[zT,reduceIte,Nat.reduceEqDiff];have hcd:¬(bAt sv k&&(decide (0<(ldA l k).Units)&&decide ((vf kA).Num<LD)))=true:=by intro h;simp at h;simp[h.1,h.2.1,h.2.2]at hc2
      rw[if_neg hcd]at hlk;exact⟨k+1,by omega,by omega,o1 (e9 [some 0,some 1,some 2,some 3,some 4,some 5,some 6] rfl (by simp) (by simp[hlk])) (by simp)⟩
    ·have hke:k=l.length:=by have hn:¬k<l.length:=(by simpa using hc1);omega
     subst hke;refine i6 ?_;simp only[zT,reduceIte,Nat.reduceEqDiff];refine hK2 _ _ ?_;refine b6 [0,3,5] (Or.inr (by simp)) ?_;simp only[zP,Nat.reduceEqDiff,reduceIte];refine gS fun K hK=>?_;simp -dsimp;refine d5 _ (hle) (by simp) ?_;simp -dsimp;apply hK;clear hK K;refine b9 fun K7 hK7=>?_;refine gS fun K hK=>?_;simp -dsimp;apply hK;clear hK K;refine d9 rfl (fun hc4=>?_) (fun hc4=>?_)
     ·obtain⟨i,rfl⟩:∃i:Nat,out=i:=⟨out.toNat,by have:0≤out:=(by simpa using hc4);omega⟩;have gl:=z8 (l:=l) (k:=i) (by omega);have hya:=hld _ (List.mem_of_getElem? gl);obtain⟨e1,e2,e3⟩:=ht i rfl;obtain⟨kA,hkA⟩:∃kA:Nat,(ldA l i).At=kA:=⟨(ldA l i).At.toNat,by omega⟩;have gv:=hgv kA (by omega);rw[hkA,Int.toNat_natCast]at e3;subst e1 e2 e3;refine o8 l9 rfl (by decide) rfl rfl fun K hK=>?_;simp -dsimp [gl,hkA,gv];refine k9 [0,1] [2,3] [some 0,some 1,none,none,none,none,none,some 2,some 3] ((b4a x g fe wi l sv VS FS cuts 3 i (vf kA) (by omega) hc).keep (Hk:=[_]) (Hk':=[_]) 0 0 0 (x:=x) (i:=0) (o:=0) rfl rfl rfl rfl rfl rfl) (by decide) rfl (by simp) (by simp) rfl (by simp) ?_;simp -dsimp [gl,hkA,gv];refine hK _ _ _ (by decide+kernel) ?_;clear hK K;simp only[zT,reduceIte,Nat.reduceEqDiff];refine hK7 _ _ ?_;refine b6 [0,10] (Or.inr (by simp)) ?_;simp only[zP,Nat.reduceEqDiff,reduceIte];refine gS fun K hK=>?_;simp -dsimp;apply hK;clear hK K;exact j6 ⟨[some 0,some 1,some 7,some 8],rfl,by simp,by simp,by simp,by simp[C2,n6]⟩
     ·obtain⟨e1,e2,e3⟩:=hf (by have:¬0≤out:=(by simpa using hc4);omega);subst e1 e2 e3;refine f6 ?_;simp only[zT,reduceIte,Nat.reduceEqDiff];refine hK7 _ _ ?_;refine b6 [0,10] (Or.inr (by simp)) ?_;simp only[zP,Nat.reduceEqDiff,reduceIte];refine gS fun K hK=>?_;simp -dsimp;apply hK;clear hK K;exact j6 ⟨[some 0,some 1,some 2,some 3],rfl,by simp,by simp,by simp,by simp at hc4;simp[C2,n6];omega⟩
end Go.Cur
end
section
namespace Go.Cur
open Go.AM Go.Proofs
structure SS where
 sv:List Bool
 fe:List Bool
 cuts:List Cu
 deriving DecidableEq
section
variable (g:Gr) (wi:List Bool) (l:List Ld)
def vfZ (z:SS):Nat→Fr:=vfS g ⟨z.fe,wi⟩ (tkK l z.sv)
def y8 (z:SS):Option SS:=((List.range l.length).find? (F9 g ⟨z.fe,wi⟩ l z.sv)).map fun(i:Nat)=>⟨z.sv.set i false,z.fe,z.cuts++[(⟨1,i,⟨0,1⟩⟩:Cu)]⟩
def b2G (z:SS):Int:=leL l z.sv (a7g g ⟨z.fe,wi⟩ (tkK l z.sv)) l.length
def J8 (z:SS):Option SS:=if 0≤b2G g wi l z then some ⟨z.sv.set (b2G g wi l z).toNat false,z.fe,z.cuts++[(⟨2,(b2G g wi l z).toNat,⟨(ldA l (b2G g wi l z).toNat).Units,1⟩⟩:Cu)]⟩else none
def b4H (z:SS):Int:=leL l z.sv (a7e (a3h g ⟨z.fe,wi⟩ (vfZ g wi l z) l z.sv l.length)) l.length
def P9 (z:SS):Option SS:=if 0≤b4H g wi l z then some ⟨z.sv.set (b4H g wi l z).toNat false,z.fe,z.cuts++[(⟨3,(b4H g wi l z).toNat,vfZ g wi l z (ldA l (b4H g wi l z).toNat).At.toNat⟩:Cu)]⟩else none
def Y4 (z:SS):Int:=(trL g (flA g ⟨z.fe,wi⟩ (vfZ g wi l z)) g.Feeds.length).1
def C6 (z:SS):Option SS:=if 0≤Y4 g wi l z then some ⟨z.sv,z.fe.set (Y4 g wi l z).toNat false,z.cuts++[(⟨4,(Y4 g wi l z).toNat,frA (flA g ⟨z.fe,wi⟩ (vfZ g wi l z)) (Y4 g wi l z).toNat⟩:Cu)]⟩else none
def D8 (z:SS):Option SS:=(y8 g wi l z).orElse fun _=>(J8 g wi l z).orElse fun _=>(P9 g wi l z).orElse fun _=>C6 g wi l z
def O3:Nat→SS→SS
 |0,z=>z
 |n+1,z=>match D8 g wi l z with
  |some z'=>O3 n z'
  |none=>z
end
def b5Z:List Bool→Nat
 |[]=>0
 |b::l=>(if b=true then 1 else 0)+b5Z l
def a7i (z:SS):Nat:=b5Z z.sv+b5Z z.fe
theorem a8k:∀{l:List Bool} {i:Nat},bAt l i=true→b5Z (l.set i false)+1=b5Z l
 |[],i,h=>by simp[bAt]at h
 |b::l,0,h=>by
  have:b=true:=by simpa [bAt]using h
  subst this;simp[b5Z];omega
 |b::l,i+1,h=>by
  have:=a8k (l:=l) (i:=i) (by simpa [bAt]using h);simp only[List.set_cons_succ,b5Z];omega
theorem a7S:∀l:List Bool,b5Z l≤l.length
 |[]=>Nat.le_refl _
 |b::l=>by
  have:=a7S l;simp only[b5Z,List.length_cons];split<;>omega
theorem a1E {l:List Ld} {sv:List Bool} {q:Ld→Bool}:∀{n:Nat},leL l sv q n<0→∀i,i<n→bAt sv i=true→q (ldA l i)=false
 |0,_,i,hi,_=>by omega
 | n+1,h,i,hi,hb=>by
  rw[a1F]at h;have hbd:=a2V l sv q n;unfold leS at h
  split at h
  ·omega
  ·rename_i hc
   rcases Nat.lt_succ_iff_lt_or_eq.1 hi with h1|rfl
   ·exact a1E h i h1 hb
   ·cases hq:q (ldA l i)with
    |false=>rfl
    |true=>exact absurd ⟨hb,hq,Or.inl h⟩ hc
theorem a1Q {l:List Ld} {sv:List Bool} {q:Ld→Bool}:∀{n:Nat},0≤leL l sv q n→bAt sv (leL l sv q n).toNat=true∧q (ldA l (leL l sv q n).toNat)=true
 |0,h=>by simp[leL]at h
 |n+1,h=>by
  rw[a1F]at h ⊢;unfold leS at h ⊢
  split at h
  ·rename_i hc;rw[if_pos hc,Int.toNat_natCast];exact⟨hc.1,hc.2.1⟩
  ·rename_i hc;rw[if_neg hc];exact a1Q h
theorem a9S {g:Gr} {fs:List Fr}:∀{n:Nat},0≤(trL g fs n).1→(trL g fs n).1<n∧0<(ovr g fs (trL g fs n).1.toNat).Num
 |0,h=>by simp[trL]at h
 |n+1,h=>by
  rw[a4A]at h ⊢;unfold trS at h ⊢
  split at h
  ·rename_i hc;rw[if_pos hc];simp only[Int.toNat_natCast];exact⟨by omega,hc.1⟩
  ·rename_i hc;rw[if_neg hc];have:=a9S h;exact⟨by omega,this.2⟩
structure C4 (g:Gr) (wi:List Bool) (l:List Ld):Prop where
 gr:grB g=true
 sw:wi.length=g.Wires.length
 ld:b6x g l
 ll:l.length≤900
 p5:∀p∈j7 g ⟨[],wi⟩,p.length≤5
structure ZOk (g:Gr) (wi:List Bool) (l:List Ld) (z:SS):Prop where
 sv:z.sv.length=l.length
 fe:z.fe.length=g.Feeds.length
 cu:z.cuts.length+a7i z≤950
section
variable {g:Gr} {wi:List Bool} {l:List Ld} {z:SS}
theorem C4.net (h:C4 g wi l) (hz:ZOk g wi l z):o7 g ⟨z.fe,wi⟩:=⟨h.gr,hz.fe,h.sw⟩
theorem C4.p5' (h:C4 g wi l) (fe:List Bool):∀p∈j7 g ⟨fe,wi⟩,p.length≤5:=h.p5
theorem C4.few (h:C4 g wi l) (fe:List Bool):I7 g ⟨fe,wi⟩:=fun p hp=>by have:=h.p5' fe p hp;omega
theorem C4.siz (h:C4 g wi l) (fe:List Bool) (us:Kvs):∀p∈j7 g ⟨fe,wi⟩,Siz us p:=fun p hp=>Or.inl (h.p5' fe p hp)
theorem a9i {us:Kvs}:∀{p:List Nat},A5 us p<0→∃k∈p,igt us k<0
 |[],h=>by simp[A5,sm]at h
 | k::p,h=>by
  by_cases hk:igt us k<0
  ·exact⟨k,by simp,hk⟩
  ·have:A5 us p<0:=by unfold A5 at h ⊢;rw[sm]at h;omega
   obtain⟨j,hj,h⟩:=a9i this;exact⟨j,by simp[hj],h⟩
theorem okZ (h:C4 g wi l) (hz:ZOk g wi l z) (h1:y8 g wi l z=none) (h2:J8 g wi l z=none):okS g ⟨z.fe,wi⟩ (tkK l z.sv)=true:=by
 have hd:∀i,i<l.length→F9 g ⟨z.fe,wi⟩ l z.sv i=false:=by
  unfold y8 at h1;rw[Option.map_eq_none_iff,List.find?_eq_none]at h1;intro i hi;have:=h1 i (List.mem_range.2 hi);simpa using this
 have hr:b2G g wi l z<0:=by
  unfold J8 at h2
  split at h2
  ·cases h2
  ·omega
 have hr2:=a1E hr;have load:∀p∈j7 g ⟨z.fe,wi⟩,∀k∈p,igt (tkK l z.sv) (k:Nat)≠0→∃i,i<l.length∧bAt z.sv i=true∧(ldA l i).At=(k:Int)∧igt (tkK l z.sv) (k:Nat)=(ldA l i).Units∧p=z4 g ⟨z.fe,wi⟩ (ldA l i).At.toNat:=by
  intro p hp k hk hne
  rcases b6N l z.sv (k:Nat)with e|⟨i,y,hi,hs,hy,e⟩
  ·exact absurd e hne
  ·have hil:=(List.getElem?_eq_some_iff.1 hi).1;have hla:ldA l i=y:=by have:=z8 hil;rw[hi]at this;exact(Option.some.inj this).symm
   refine⟨i,hil,by unfold bAt;rw[hs];rfl,by rw[hla];exact hy,by rw[hla];exact e,?_⟩;rw[hla,hy,Int.toNat_natCast];exact S6 hp hk
 unfold okS;rw[List.all_eq_true];intro p hp;unfold v6
 by_cases hf:k8 g ⟨z.fe,wi⟩ (upN p)=[]
 ·rw[if_pos hf];show O8 (tkK l z.sv) p=true;unfold O8;rw[List.all_eq_true];intro k hk;rw[beq_iff_eq];refine Decidable.byContradiction fun hne=>?_;obtain⟨i,hil,hb,hat,hu,hpe⟩:=load p hp k hk hne;have:=hd i hil;unfold F9 at this;rw[hb,←hpe,hf,←hu]at this;simp[hne]at this
 ·rw[if_neg hf]
  by_cases hs:A5 (tkK l z.sv) p<0
  ·exfalso;obtain⟨k,hk,hneg⟩:=a9i hs;obtain⟨i,hil,hb,hat,hu,hpe⟩:=load p hp k hk (by omega);have:=hr2 i hil hb;unfold a7g at this;rw[←hpe,←hu]at this;simp[hneg,hs]at this
  ·rw[if_neg hs]
   split<;>rfl
theorem vpZ (h:C4 g wi l) (hz:ZOk g wi l z) (h1:y8 g wi l z=none) (h2:J8 g wi l z=none):∀p∈j7 g ⟨z.fe,wi⟩,∃v d,a1A g ⟨z.fe,wi⟩ (tkK l z.sv) p v d (vfZ g wi l z):=by
 have ho:=okZ h hz h1 h2;unfold okS at ho;rw[List.all_eq_true]at ho;exact fun p hp=>⟨_,_,b2D (h.net hz) hp (h.siz _ _ p hp) (W0 _ _) (a2d h.ld _) (ho p hp)⟩
theorem b8z {s:Sta} {us:Kvs} {vf:Nat→Fr} (hnt:o7 g s) (hv:∀p∈j7 g s,∃v d,a1A g s us p v d vf) {k:Nat} (hk:k<g.Nodes.toNat):0<(vf k).Den∧(vf k).Den≤100000000000000∧(vf k).Num.natAbs≤300000000000000000:=by
 obtain⟨p,hp,hkp⟩:=List.mem_flatten.1 (R8 hnt hk);obtain⟨v,d,hV⟩:=hv p hp;obtain⟨j,hj⟩:=List.getElem?_of_mem hkp;have hjl:=(List.getElem?_eq_some_iff.1 hj).1;have hd0:=hV.d0;have hd1:=hV.d1;have hr:=a1j (n:=at0 v (j:Nat)) hd0;have hgv:=C3 (l:=v) (k:=j) (by rw[hV.len];exact hjl);have hnb:=hV.nb _ (List.mem_of_getElem? hgv);rw[hV.fr j k hj];omega
theorem b7R {s:Sta} {us:Kvs} {vf:Nat→Fr} (hnt:o7 g s) (hv:∀p∈j7 g s,∃v d,a1A g s us p v d vf) {i:Nat} (hi:i<g.Feeds.length):
  0≤(ffF g s vf i).Num∧(ffF g s vf i).Num≤4000000000000000000∧1≤(ffF g s vf i).Den∧(ffF g s vf i).Den≤100000000000000∧(0<(ffF g s vf i).Num→bAt s.Feeds i=true):=by
 have hg:g.Feeds[i]?=some (fdI g (i:Int)):=by have:=a0B (g:=g) (i:=(i:Int)) (by omega) (by omega);rwa [Int.toNat_natCast]at this
 have hb:=hnt.feeds _ (List.mem_of_getElem? hg);have hvb:=b8z hnt hv (k:=(fdI g (i:Int)).At.toNat) (by omega);unfold ffF;simp only;generalize vf (fdI g (i:Int)).At.toNat=v at hvb ⊢;have h1:0≤(fdI g (i:Int)).Volts*v.Den∧(fdI g (i:Int)).Volts*v.Den≤100000000000000000:=⟨Int.mul_nonneg (by omega) (by omega),Int.le_trans (Int.mul_le_mul hb.2.2.2.1 hvb.2.1 (by omega) (by omega)) (by omega)⟩
 split
 ·rename_i hc;have hd1:(fdI g (i:Int)).Volts*v.Den-v.Num≤400000000000000000:=by omega
  generalize (fdI g (i:Int)).Volts*v.Den-v.Num=d at*
  have hr:=a1j (n:=(fdI g (i:Int)).Siem*d) hvb.1;have h2:0≤(fdI g (i:Int)).Siem*d∧(fdI g (i:Int)).Siem*d≤4000000000000000000:=by
   have hc2:=hc.2
   rcases(by omega:(fdI g (i:Int)).Siem=1∨(fdI g (i:Int)).Siem=2∨(fdI g (i:Int)).Siem=3∨(fdI g (i:Int)).Siem=4)with h|h|h|h<;>rw[h]<;>omega
  have h3:0≤(red ((fdI g (i:Int)).Siem*d) v.Den).Num:=by
   unfold red;exact Int.ediv_nonneg h2.1 (by omega)
  exact⟨h3,by omega,by omega,by omega,fun _=>hc.1⟩
 ·exact⟨by decide,by decide,by decide,by decide,fun h=>absurd h (by decide)⟩
theorem b4h {s:Sta} {vf:Nat→Fr} {i:Nat} (hi:i<g.Feeds.length):frA (flA g s vf) i=ffF g s vf i:=by
 unfold frA flA;rw[List.getElem?_map,List.getElem?_range hi];rfl
theorem c0N {s:Sta} {us:Kvs} {vf:Nat→Fr} (hnt:o7 g s) (hv:∀p∈j7 g s,∃v d,a1A g s us p v d vf):c1p g (flA g s vf):=by
 have key:∀y∈flA g s vf,∃i,i<g.Feeds.length∧y=ffF g s vf i:=fun y hy=>by
  obtain⟨i,hi,rfl⟩:=List.mem_map.1 hy;exact⟨i,List.mem_range.1 hi,rfl⟩
 refine⟨by simp[flA],fun y hy=>?_,fun y hy=>?_,fun f hf=>?_⟩
 ·obtain⟨i,hi,rfl⟩:=key y hy;have:=b7R hnt hv hi;exact⟨this.1,this.2.1⟩
 ·obtain⟨i,hi,rfl⟩:=key y hy;have:=b7R hnt hv hi;exact⟨this.2.2.1,this.2.2.2.1⟩
 ·have:=hnt.feeds f hf;omega
theorem R7 (h:C4 g wi l) (hz:ZOk g wi l z) {z':SS} (hs:D8 g wi l z=some z'):ZOk g wi l z'∧a7i z'+1=a7i z∧z'.cuts.length=z.cuts.length+1:=by
 have svc:∀{i:Nat} {c:Cu},bAt z.sv i=true→ZOk g wi l ⟨z.sv.set i false,z.fe,z.cuts++[c]⟩∧a7i ⟨z.sv.set i false,z.fe,z.cuts++[c]⟩+1=a7i z∧(z.cuts++[c]).length=z.cuts.length+1:=by
  intro i c hb;have h1:=a8k hb;have h2:=hz.cu;refine⟨⟨by simp[hz.sv],hz.fe,?_⟩,?_,by simp⟩
  ·unfold a7i at h2 ⊢;simp only[List.length_append,List.length_singleton];omega
  ·unfold a7i;simp only;omega
 unfold D8 at hs
 cases h1:y8 g wi l z with
 |some a=>
  rw[h1]at hs;simp only[Option.orElse_some,Option.some.injEq]at hs;subst hs;unfold y8 at h1;rw[Option.map_eq_some_iff]at h1;obtain⟨i,hi,rfl⟩:=h1;have:=List.find?_some hi;refine svc ?_;unfold F9 at this;simp only[Bool.and_eq_true]at this;exact this.1
 | none=>
  rw[h1]at hs
  cases h2:J8 g wi l z with
  |some a=>
   rw[h2]at hs;simp only[Option.orElse_none,Option.orElse_some,Option.some.injEq]at hs;subst hs;unfold J8 at h2
   split at h2
   ·rename_i hi;simp only[Option.some.injEq]at h2;subst h2;exact svc (a1Q hi).1
   ·cases h2
  | none=>
   rw[h2]at hs;have hv:=vpZ h hz h1 h2
   cases h3:P9 g wi l z with
   |some a=>
    rw[h3]at hs;simp only[Option.orElse_none,Option.orElse_some,Option.some.injEq]at hs;subst hs;unfold P9 at h3
    split at h3
    ·rename_i hi;simp only[Option.some.injEq]at h3;subst h3;exact svc (a1Q hi).1
    ·cases h3
   | none=>
    rw[h3]at hs;simp only[Option.orElse_none]at hs;unfold C6 at hs
    split at hs
    ·rename_i hi;simp only[Option.some.injEq]at hs;subst hs;obtain⟨k1,k2⟩:=a9S hi;change Y4 g wi l z<_ at k1;change 0<(ovr g (flA g ⟨z.fe,wi⟩ (vfZ g wi l z)) (Y4 g wi l z).toNat).Num at k2;generalize Y4 g wi l z=i at hi k1 k2;have hfr:=b4h (g:=g) (s:=⟨z.fe,wi⟩) (vf:=vfZ g wi l z) (i:=i.toNat) (by omega);have hb:=b7R (h.net hz) hv (i:=i.toNat) (by omega);have hl:=(c0N (h.net hz) hv).prod (k:=i.toNat) (by omega);unfold ovr at k2;simp only at k2;rw[hfr]at k2 hl;have hb2:bAt z.fe i.toNat=true:=hb.2.2.2.2 (by omega);have h4:=a8k hb2;have h5:=hz.cu;refine⟨⟨hz.sv,by simp[hz.fe],?_⟩,?_,by simp⟩
     ·unfold a7i at h5 ⊢;simp only[List.length_append,List.length_singleton];omega
     ·unfold a7i;simp only;omega
    ·cases hs
theorem A9 {n:Nat} {z z':SS} (hs:D8 g wi l z=some z'):O3 g wi l (n+1) z=O3 g wi l n z':=by
 simp only[O3,hs]
theorem V1 {n:Nat} {z:SS} (hs:D8 g wi l z=none):O3 g wi l n z=z:=by
 cases n with
 |zero=>rfl
 |succ n=>simp only[O3,hs]
end
end Go.Cur
end
section
namespace Go
section
variable {P:Program} {b:Frame} {a:Act} {k:List Item} {cs:List Frame} {w:World}
theorem E8 {c:Code}:step P (lone (b.atR a (.code (.scope c)::k)) cs w)= .next (lone (b.atR a (.code c:: .inScope c::k)) cs w):=
 step_lone_go (by simp[stepG,stepG.exec,Frame.atR])
theorem a5b {c:Code}:step P (lone (b.atR a (.inScope c::k)) cs w)= .next (lone (b.atR a k) cs w):=
 step_lone_go (by simp[stepG,stepG.exec,Frame.atR])
theorem W7 {F:Fence} {n:Nat} {Q:Exit→Act→World→Prop} {c:Code} (h:c.wpIn F n P (Exit.noGoto Q) a w):(Code.scope c).wpIn F n P Q a w:=by
 intro b k cs hro hb hr;have h0:(lone (b.atR a (.code (.scope c)::k)) cs w).fenced P F:=fenced_calm hb hr rfl;obtain⟨e,a₁,w₁,hq,harr⟩:=h b (.inScope c::k) cs hro hb hr
 cases e with
 |normal=>exact⟨.normal,a₁,w₁,hq, .head h0 E8 (StepsIn.trans harr (.one (fenced_calm hb hr rfl) a5b))⟩
 | exit id'=>
  have hx:exitTo id' (.inScope c::k)=exitTo id' k:=by simp[exitTo]
  exact⟨.exit id',a₁,w₁,hq,fun k' hk=> .head h0 E8 (harr.1 k' (by rw[hx];exact hk)),
   fun hr' hk=>let ⟨k₁,h1,h2⟩:=harr.2 hr' (by rw[hx];exact hk);⟨k₁,h1, .head h0 E8 h2⟩⟩
 |goto l=>exact hq.elim
 |ret=>exact⟨_,a₁,w₁,hq, .of_steps (.one h0 E8) harr⟩
 |panic ch=>exact⟨_,a₁,w₁,hq, .of_steps (.one h0 E8) harr⟩
 |outgrown=>exact⟨_,a₁,w₁,hq, .of_steps (.one h0 E8) harr⟩
end
end Go
namespace Go.AM
theorem a7d {P:Program} {ro:Option Nat} {J:Jt} {nt:Nat} {kp:List Nat} {c:Code} {T:Tm} {H:Hp} {Q:Exit→Tm→Hp→Prop} (h:GWp P ro J nt kp c T H (a1X Q)):GWp P ro J nt kp (.scope c) T H Q:=by
 intro hJ kv a w hs;refine W7 (wpIn_mono (h hJ kv a w hs) ?_);rintro e a' w' ⟨T',H',q,s⟩
 cases e with
 |goto l=>exact q.elim
 |normal=>exact⟨T',H',q,s⟩
 |exit id=>exact⟨T',H',q,s⟩
 |ret=>exact⟨T',H',q,s⟩
 |panic c=>exact⟨T',H',q,s⟩
 |outgrown=>exact⟨T',H',q,s⟩
theorem b6U {P:Program} {ro:Option Nat} {J:Jt} {nt l:Nat} {kp:List Nat} {c:Code} {T:Tm} {H:Hp} {Q:Exit→Tm→Hp→Prop} (h:GWp P ro J nt kp c T H Q):GWp P ro J nt kp (.seq (.label l) c) T H Q:=by
 intro hJ kv a w hs;exact wpIn_seq (wpIn_label (h hJ kv a w hs))
end Go.AM
namespace Go.Cur
open Go.AM Go.Proofs
theorem b8g (x:Value) (g:Gr) (wi:List Bool) (l:List Ld) (z:SS) (vs fs:List Fr) (h:C4 g wi l) (hz:ZOk g wi l z):
  g6 Try.prog 77 [.ptr 0 0 0] [hSa (.fptr x 1 0 0) l z.sv.length vs fs z.cuts.length,hNa g z.fe wi] [some (.els 1 (z.sv.map i9)),some (.els 1 (z.fe.map i9)),some (.els 4 (z.cuts.map Cu.cells))]
   (Bo (y8 g wi l z).isSome) [hSa (.fptr x 1 0 0) l ((y8 g wi l z).getD z).sv.length vs fs ((y8 g wi l z).getD z).cuts.length,hNa g ((y8 g wi l z).getD z).fe wi] [some (.els 1 (((y8 g wi l z).getD z).sv.map i9)),some (.els 1 (((y8 g wi l z).getD z).fe.map i9)),some (.els 4 (((y8 g wi l z).getD z).cuts.map Cu.cells))]:=by
 obtain⟨sv,fe,cuts⟩:=z;have hfe:((y8 g wi l ⟨sv,fe,cuts⟩).getD ⟨sv,fe,cuts⟩).fe=fe:=by
  unfold y8
  cases (List.range l.length).find? (F9 g ⟨fe,wi⟩ l sv)<;>rfl
 rw[hfe];have hcu:=hz.cu;simp only at hcu;exact b9q x g fe wi l sv vs fs cuts (by have:=h.ll;omega) hz.sv (by omega) h.ld.at_ (h.net hz) (h.few _) _ _ _
  (fun i hi hd hj=>by
   have e:(List.range l.length).find? (F9 g ⟨fe,wi⟩ l sv)=some i:=List.find?_range_eq_some.2 ⟨hd,List.mem_range.2 hi,fun j hj'=>by rw[hj j hj'];rfl⟩;unfold y8;simp only[e];exact⟨rfl,rfl,rfl⟩)
  (fun hj=>by
   have e:(List.range l.length).find? (F9 g ⟨fe,wi⟩ l sv)=none:=List.find?_eq_none.2 fun x hx=>by rw[hj x (List.mem_range.1 hx)];simp
   unfold y8;simp only[e];exact⟨rfl,rfl,rfl⟩)
theorem c1E (x:Value) (g:Gr) (wi:List Bool) (l:List Ld) (z:SS) (vs fs:List Fr) (h:C4 g wi l) (hz:ZOk g wi l z):
  g6 Try.prog 78 [.ptr 0 0 0] [hSa (.fptr x 1 0 0) l z.sv.length vs fs z.cuts.length,hNa g z.fe wi] [some (.els 1 (z.sv.map i9)),some (.els 1 (z.fe.map i9)),some (.els 4 (z.cuts.map Cu.cells))]
   (Bo (J8 g wi l z).isSome) [hSa (.fptr x 1 0 0) l ((J8 g wi l z).getD z).sv.length vs fs ((J8 g wi l z).getD z).cuts.length,hNa g ((J8 g wi l z).getD z).fe wi] [some (.els 1 (((J8 g wi l z).getD z).sv.map i9)),some (.els 1 (((J8 g wi l z).getD z).fe.map i9)),some (.els 4 (((J8 g wi l z).getD z).cuts.map Cu.cells))]:=by
 obtain⟨sv,fe,cuts⟩:=z;have hfe:((J8 g wi l ⟨sv,fe,cuts⟩).getD ⟨sv,fe,cuts⟩).fe=fe:=by
  unfold J8
  split<;>rfl
 rw [hfe];have hcu:=hz.cu;simp only at hcu;exact a7n x g fe wi l sv vs fs cuts (by have:=h.ll;omega) hz.sv (by omega) h.ld.at_ (h.net hz) (h.few _) (a2d h.ld _) _ _ _
  (fun i hi=>by
   have e:b2G g wi l ⟨sv,fe,cuts⟩=(i:Int):=hi;have e2:J8 g wi l ⟨sv,fe,cuts⟩=some ⟨sv.set i false,fe,cuts++[(⟨2,i,⟨(ldA l i).Units,1⟩⟩:Cu)]⟩:=by
    unfold J8;rw[e,if_pos (by omega),Int.toNat_natCast]
   rw[e2];exact⟨rfl,rfl,rfl⟩)
  (fun hi=>by
   have e:b2G g wi l ⟨sv,fe,cuts⟩<0:=hi;have e2:J8 g wi l ⟨sv,fe,cuts⟩=none:=by
    unfold J8;rw[if_neg (by omega)]
   rw[e2];exact⟨rfl,rfl,rfl⟩)
theorem c1l (x:Value) (g:Gr) (wi:List Bool) (l:List Ld) (z:SS) (vs fs:List Fr) (h:C4 g wi l) (hz:ZOk g wi l z) (h1:y8 g wi l z=none) (h2:J8 g wi l z=none):
  g6 Try.prog 79 [.ptr 0 0 0] [hSa (.fptr x 1 0 0) l z.sv.length vs fs z.cuts.length,hNa g z.fe wi] [some (.els 1 (z.sv.map i9)),some (.els 1 (z.fe.map i9)),some (.els 4 (z.cuts.map Cu.cells))]
   (Bo (P9 g wi l z).isSome) [hSa (.fptr x 1 0 0) l ((P9 g wi l z).getD z).sv.length (vlA g.Nodes.toNat (vfZ g wi l z)) (flA g ⟨z.fe,wi⟩ (vfZ g wi l z)) ((P9 g wi l z).getD z).cuts.length,hNa g ((P9 g wi l z).getD z).fe wi] [some (.els 1 (((P9 g wi l z).getD z).sv.map i9)),some (.els 1 (((P9 g wi l z).getD z).fe.map i9)),some (.els 4 (((P9 g wi l z).getD z).cuts.map Cu.cells))]:=by
 obtain⟨sv,fe,cuts⟩:=z;have hfe:((P9 g wi l ⟨sv,fe,cuts⟩).getD ⟨sv,fe,cuts⟩).fe=fe:=by
  unfold P9
  split<;>rfl
 rw [hfe];have hcu:=hz.cu;simp only at hcu;have hv:=vpZ h hz h1 h2;exact c0I x g fe wi l sv vs fs cuts (by have:=h.ll;omega) hz.sv (by omega) h.ld.at_ (h.net hz) (h.few _) (vfZ g wi l ⟨sv,fe,cuts⟩) hv (fun k hk=>by have:=b8z (h.net hz) hv hk;omega) _ _ _
  (fun i hi=>by
   have e:b4H g wi l ⟨sv,fe,cuts⟩=(i:Int):=hi;have e2:P9 g wi l ⟨sv,fe,cuts⟩=some ⟨sv.set i false,fe,cuts++[(⟨3,i,vfZ g wi l ⟨sv,fe,cuts⟩ (ldA l i).At.toNat⟩:Cu)]⟩:=by
    unfold P9;rw[e,if_pos (by omega),Int.toNat_natCast]
   rw[e2];exact⟨rfl,rfl,rfl⟩)
  (fun hi=>by
   have e:b4H g wi l ⟨sv,fe,cuts⟩<0:=hi;have e2:P9 g wi l ⟨sv,fe,cuts⟩=none:=by
    unfold P9;rw[if_neg (by omega)]
   rw[e2];exact⟨rfl,rfl,rfl⟩)
theorem b8i (x:Value) (g:Gr) (wi:List Bool) (l:List Ld) (z:SS) (vs fs:List Fr) (h:C4 g wi l) (hz:ZOk g wi l z) (hb:z.fe=[]):
  g6 Try.prog 77 [.ptr 0 0 0] [hSb (.fptr x 1 0 0) l z.sv.length vs fs z.cuts.length,hNb g z.fe wi] [some (.els 1 (z.sv.map i9)),some (.els 4 (z.cuts.map Cu.cells))]
   (Bo (y8 g wi l z).isSome) [hSb (.fptr x 1 0 0) l ((y8 g wi l z).getD z).sv.length vs fs ((y8 g wi l z).getD z).cuts.length,hNb g ((y8 g wi l z).getD z).fe wi] [some (.els 1 (((y8 g wi l z).getD z).sv.map i9)),some (.els 4 (((y8 g wi l z).getD z).cuts.map Cu.cells))]:=by
 obtain⟨sv,fe,cuts⟩:=z;subst hb;have hfe:((y8 g wi l ⟨sv,[],cuts⟩).getD ⟨sv,[],cuts⟩).fe=[]:=by
  unfold y8
  cases (List.range l.length).find? (F9 g ⟨[],wi⟩ l sv)<;>rfl
 rw[hfe];have hcu:=hz.cu;simp only at hcu;exact b8f x g [] wi l sv vs fs cuts (by have:=h.ll;omega) hz.sv (by omega) h.ld.at_ (h.net hz) (h.few _) _ _ _
  (fun i hi hd hj=>by
   have e:(List.range l.length).find? (F9 g ⟨[],wi⟩ l sv)=some i:=List.find?_range_eq_some.2 ⟨hd,List.mem_range.2 hi,fun j hj'=>by rw[hj j hj'];rfl⟩;unfold y8;simp only[e];exact⟨rfl,rfl,rfl⟩)
  (fun hj=>by
   have e:(List.range l.length).find? (F9 g ⟨[],wi⟩ l sv)=none:=List.find?_eq_none.2 fun x hx=>by rw[hj x (List.mem_range.1 hx)];simp
   unfold y8;simp only[e];exact⟨rfl,rfl,rfl⟩)
theorem b9W (x:Value) (g:Gr) (wi:List Bool) (l:List Ld) (z:SS) (vs fs:List Fr) (h:C4 g wi l) (hz:ZOk g wi l z) (hb:z.fe=[]):
  g6 Try.prog 78 [.ptr 0 0 0] [hSb (.fptr x 1 0 0) l z.sv.length vs fs z.cuts.length,hNb g z.fe wi] [some (.els 1 (z.sv.map i9)),some (.els 4 (z.cuts.map Cu.cells))]
   (Bo (J8 g wi l z).isSome) [hSb (.fptr x 1 0 0) l ((J8 g wi l z).getD z).sv.length vs fs ((J8 g wi l z).getD z).cuts.length,hNb g ((J8 g wi l z).getD z).fe wi] [some (.els 1 (((J8 g wi l z).getD z).sv.map i9)),some (.els 4 (((J8 g wi l z).getD z).cuts.map Cu.cells))]:=by
 obtain⟨sv,fe,cuts⟩:=z;subst hb;have hfe:((J8 g wi l ⟨sv,[],cuts⟩).getD ⟨sv,[],cuts⟩).fe=[]:=by
  unfold J8
  split<;>rfl
 rw [hfe];have hcu:=hz.cu;simp only at hcu;exact a7Z x g [] wi l sv vs fs cuts (by have:=h.ll;omega) hz.sv (by omega) h.ld.at_ (h.net hz) (h.few _) (a2d h.ld _) _ _ _
  (fun i hi=>by
   have e:b2G g wi l ⟨sv,[],cuts⟩=(i:Int):=hi;have e2:J8 g wi l ⟨sv,[],cuts⟩=some ⟨sv.set i false,[],cuts++[(⟨2,i,⟨(ldA l i).Units,1⟩⟩:Cu)]⟩:=by
    unfold J8;rw[e,if_pos (by omega),Int.toNat_natCast]
   rw[e2];exact⟨rfl,rfl,rfl⟩)
  (fun hi=>by
   have e:b2G g wi l ⟨sv,[],cuts⟩<0:=hi;have e2:J8 g wi l ⟨sv,[],cuts⟩=none:=by
    unfold J8;rw[if_neg (by omega)]
   rw[e2];exact⟨rfl,rfl,rfl⟩)
theorem c0g (x:Value) (g:Gr) (wi:List Bool) (l:List Ld) (z:SS) (vs fs:List Fr) (h:C4 g wi l) (hz:ZOk g wi l z) (hb:z.fe=[]) (h1:y8 g wi l z=none) (h2:J8 g wi l z=none):
  g6 Try.prog 79 [.ptr 0 0 0] [hSb (.fptr x 1 0 0) l z.sv.length vs fs z.cuts.length,hNb g z.fe wi] [some (.els 1 (z.sv.map i9)),some (.els 4 (z.cuts.map Cu.cells))]
   (Bo (P9 g wi l z).isSome) [hSb (.fptr x 1 0 0) l ((P9 g wi l z).getD z).sv.length (vlA g.Nodes.toNat (vfZ g wi l z)) (flA g ⟨z.fe,wi⟩ (vfZ g wi l z)) ((P9 g wi l z).getD z).cuts.length,hNb g ((P9 g wi l z).getD z).fe wi] [some (.els 1 (((P9 g wi l z).getD z).sv.map i9)),some (.els 4 (((P9 g wi l z).getD z).cuts.map Cu.cells))]:=by
 obtain⟨sv,fe,cuts⟩:=z;subst hb;have hfe:((P9 g wi l ⟨sv,[],cuts⟩).getD ⟨sv,[],cuts⟩).fe=[]:=by
  unfold P9
  split<;>rfl
 rw [hfe];have hcu:=hz.cu;simp only at hcu;have hv:=vpZ h hz h1 h2;exact c0n x g [] wi l sv vs fs cuts (by have:=h.ll;omega) hz.sv (by omega) h.ld.at_ (h.net hz) (h.few _) (vfZ g wi l ⟨sv,[],cuts⟩) hv (fun k hk=>by have:=b8z (h.net hz) hv hk;omega) _ _ _
  (fun i hi=>by
   have e:b4H g wi l ⟨sv,[],cuts⟩=(i:Int):=hi;have e2:P9 g wi l ⟨sv,[],cuts⟩=some ⟨sv.set i false,[],cuts++[(⟨3,i,vfZ g wi l ⟨sv,[],cuts⟩ (ldA l i).At.toNat⟩:Cu)]⟩:=by
    unfold P9;rw[e,if_pos (by omega),Int.toNat_natCast]
   rw[e2];exact⟨rfl,rfl,rfl⟩)
  (fun hi=>by
   have e:b4H g wi l ⟨sv,[],cuts⟩<0:=hi;have e2:P9 g wi l ⟨sv,[],cuts⟩=none:=by
    unfold P9;rw[if_neg (by omega)]
   rw[e2];exact⟨rfl,rfl,rfl⟩)
theorem b8s (x:Value) (g:Gr) (wi:List Bool) (l:List Ld) (z:SS) (h:C4 g wi l) (hz:ZOk g wi l z) (h1:y8 g wi l z=none) (h2:J8 g wi l z=none):
  g6 Try.prog 80 [.ptr 0 0 0] [hSa (.fptr x 1 0 0) l z.sv.length (vlA g.Nodes.toNat (vfZ g wi l z)) (flA g ⟨z.fe,wi⟩ (vfZ g wi l z)) z.cuts.length,hNa g z.fe wi] [some (.els 1 (z.sv.map i9)),some (.els 1 (z.fe.map i9)),some (.els 4 (z.cuts.map Cu.cells))]
   (Bo (C6 g wi l z).isSome) [hSa (.fptr x 1 0 0) l ((C6 g wi l z).getD z).sv.length (vlA g.Nodes.toNat (vfZ g wi l z)) (flA g ⟨z.fe,wi⟩ (vfZ g wi l z)) ((C6 g wi l z).getD z).cuts.length,hNa g ((C6 g wi l z).getD z).fe wi] [some (.els 1 (((C6 g wi l z).getD z).sv.map i9)),some (.els 1 (((C6 g wi l z).getD z).fe.map i9)),some (.els 4 (((C6 g wi l z).getD z).cuts.map Cu.cells))]:=by
 obtain⟨sv,fe,cuts⟩:=z;have hsv:((C6 g wi l ⟨sv,fe,cuts⟩).getD ⟨sv,fe,cuts⟩).sv=sv:=by
  unfold C6
  split<;>rfl
 rw [hsv];have hcu:=hz.cu;simp only at hcu;have hv:=vpZ h hz h1 h2;exact b9M x g fe wi l sv _ _ cuts (by omega) (by have:=(t9 h.gr).2.2.2.1;omega) hz.fe (c0N (h.net hz) hv) _ _ _
  (fun i hi=>by
   have e:Y4 g wi l ⟨sv,fe,cuts⟩=(i:Int):=hi;have e2:C6 g wi l ⟨sv,fe,cuts⟩=some ⟨sv,fe.set i false,cuts++[(⟨4,i,frA (flA g ⟨fe,wi⟩ (vfZ g wi l ⟨sv,fe,cuts⟩)) i⟩:Cu)]⟩:=by
    unfold C6;rw[e,if_pos (by omega),Int.toNat_natCast]
   rw[e2];exact⟨rfl,rfl,rfl⟩)
  (fun hi=>by
   have e:Y4 g wi l ⟨sv,fe,cuts⟩<0:=hi;have e2:C6 g wi l ⟨sv,fe,cuts⟩=none:=by
    unfold C6;rw[if_neg (by omega)]
   rw[e2];exact⟨rfl,rfl,rfl⟩)
theorem b8n (x:Value) (g:Gr) (wi:List Bool) (l:List Ld) (z:SS) (h:C4 g wi l) (hz:ZOk g wi l z) (hb:z.fe=[]):
  g6 Try.prog 80 [.ptr 0 0 0] [hSb (.fptr x 1 0 0) l z.sv.length (vlA g.Nodes.toNat (vfZ g wi l z)) (flA g ⟨z.fe,wi⟩ (vfZ g wi l z)) z.cuts.length,hNb g z.fe wi] [some (.els 1 (z.sv.map i9)),some (.els 4 (z.cuts.map Cu.cells))]
   (Bo (C6 g wi l z).isSome) [hSb (.fptr x 1 0 0) l ((C6 g wi l z).getD z).sv.length (vlA g.Nodes.toNat (vfZ g wi l z)) (flA g ⟨z.fe,wi⟩ (vfZ g wi l z)) ((C6 g wi l z).getD z).cuts.length,hNb g ((C6 g wi l z).getD z).fe wi] [some (.els 1 (((C6 g wi l z).getD z).sv.map i9)),some (.els 4 (((C6 g wi l z).getD z).cuts.map Cu.cells))]:=by
 have hg:g.Feeds=[]:=by
  have:=hz.fe;rw[hb]at this;exact List.length_eq_zero_iff.1 this.symm
 have e:C6 g wi l z=none:=by
  unfold C6 Y4;rw[hg]
  rfl
 rw[e];exact b8y x g z.fe wi l z.sv _ _ z.cuts hg
def svK (n k:Nat):List Bool:=List.replicate k true++List.replicate (n-k) false
theorem a7s {n k:Nat} (h:k<n):(svK n k).set k true=svK n (k+1):=by
 unfold svK;rw[List.set_append_right _ _ (by simp),List.length_replicate,Nat.sub_self,show n-k=(n-(k+1))+1 by omega,List.replicate_succ,List.set_cons_zero,List.replicate_succ',List.append_assoc];rfl
theorem a7N {n k:Nat} (h:k≤n):(svK n k).length=n:=by simp[svK];omega
theorem a7P (n:Nat):svK n n=List.replicate n true:=by simp[svK]
theorem a5q (n:Nat):svK n 0=List.replicate n false:=by simp[svK]
def z0 (l:List Ld) (fe:List Bool):SS:=⟨List.replicate l.length true,fe,[]⟩
theorem c0A {g:Gr} {wi:List Bool} {l:List Ld} (h:C4 g wi l) {fe:List Bool} (hfe:fe.length=g.Feeds.length):ZOk g wi l (z0 l fe):=by
 refine⟨by simp[z0],hfe,?_⟩;have h1:=a7S (List.replicate l.length true);have h2:=a7S fe;have h3:=(t9 h.gr).2.2.2.1;have h4:=h.ll;rw[List.length_replicate]at h1;unfold a7i z0;simp only[List.length_nil];omega
def D1 (g:Gr) (wi:List Bool) (l:List Ld) (fe:List Bool):SS:=O3 g wi l (a7i (z0 l fe)) (z0 l fe)
abbrev hMa (g:Gr) (fe wi:List Bool):Option l7:=some (.els 6 [[I g.Nodes, .lst 4 (g.Wires.map Wr.cells), .lst 4 (g.Feeds.map Fd.cells),I g.Least, .row 1 0 fe.length,bL wi]])
abbrev hTa (x:AV) (l:List Ld) (z:SS) (vs fs:List Fr):Option l7:=some (.els 6 [[x,lL l, .row 2 0 z.sv.length,fL vs,fL fs, .row 4 0 z.cuts.length]])
theorem a2k (g:Gr) (wi:List Bool) (l:List Ld) (fe:List Bool) (h:C4 g wi l) (hfl:fe.length=g.Feeds.length) (Z:SS) (hZ:D1 g wi l fe=Z):
  g6 Try.prog 55 [.ptr 0 0 0,lL l] [hMa g fe wi] [some (.els 1 (fe.map i9))] (.ptr 3 0 0) [hMa g Z.fe wi]
   [some (.els 1 (Z.fe.map i9)),some (.els 1 (Z.sv.map i9)),hTa (.ptr 0 0 0) l Z (vlA g.Nodes.toNat (vfZ g wi l Z)) (flA g ⟨Z.fe,wi⟩ (vfZ g wi l Z)),some (.els 4 (Z.cuts.map Cu.cells))]:=by
 have hll:=h.ll;have f0:I9 l.length 2:=m8 (by omega) (by omega);have hz0:=c0A h hfl;refine g6.of_bodyG [0] Try.func55 rfl (by decide) (by simp[Try.ntmps55]) rfl rfl ?_;intro J hJ;simp only[Try.ntmps55,Try.results55];refine gS fun K hK=>?_;simp -dsimp;apply hK;clear hK K;refine a7d ?_;refine gS fun K hK=>?_;simp -dsimp [f0];apply hK;clear hK K;refine b9 fun K1 hK1=>?_;refine gS fun K hK=>?_;simp -dsimp;apply hK;clear hK K;refine d7 ?_;refine b6 [0,5,21,22] (Or.inr (by simp)) ?_;simp only[zP,Nat.reduceEqDiff,reduceIte];refine g9 [0,5,21] (α:=Nat) (fun k=>[(22,I k)]) (fun k=>[hMa g fe wi,some (.els 1 (fe.map i9)),some (.els 1 ((svK l.length k).map i9)),some (.els 6 [[.ptr 0 0 0,lL l, .row 2 0 l.length, .v (.slice none 0 0), .v (.slice none 0 0), .v (.slice none 0 0)]])]) (fun k=>k≤l.length) (fun k=>l.length-k) 0 ?_ ?_ ?_
 ·exact Nat.zero_le _
 ·exact o1 (e9 [some 0,some 1,some 2,some 3] rfl (by simp) (by simp[a5q,i9])) (by simp)
 rintro k k1;simp only[zP,Nat.reduceEqDiff,reduceIte];refine gS fun K hK=>?_;simp -dsimp;apply hK;clear hK K;refine b9 fun K2 hK2=>?_;refine d9 rfl (fun hc0=>?_) (fun hc0=>?_)
 ·have hkl:k<l.length:=by simpa using hc0
  have wk:=zW k (by omega);have hsl:=a7N (n:=l.length) (k:=k) k1;have hst:=a7s hkl;refine f6 ?_;simp only[zT,reduceIte,Nat.reduceEqDiff];refine hK2 _ _ ?_;refine b6 [0,5,21,22] (Or.inr (by simp)) ?_;simp only[zP,Nat.reduceEqDiff,reduceIte];refine b9 fun K3 hK3=>?_;refine d7 ?_;refine gS fun K hK=>?_;simp -dsimp;apply hK;clear hK K;refine gR fun K hK=>?_;simp -dsimp [hkl,hsl];apply hK;clear hK K;simp only[zT,reduceIte,Nat.reduceEqDiff];refine hK3 _ _ ?_;refine b6 [0,5,21,22] (Or.inr (by simp)) ?_;simp only[zP,Nat.reduceEqDiff,reduceIte];refine gR fun K hK=>?_;simp -dsimp [wk];apply hK;clear hK K;simp only[zT,reduceIte,Nat.reduceEqDiff];exact⟨k+1,by omega,by omega,o1 (e9 [some 0,some 1,some 2,some 3] rfl (by simp) (by simp[←hst,List.map_set,i9])) (by simp)⟩
 ·have hke:k=l.length:=by have hn:¬k<l.length:=(by simpa using hc0);omega
  subst hke;refine i6 ?_;simp only[zT,reduceIte,Nat.reduceEqDiff];refine hK1 _ _ ?_;refine b6 [0,5] (Or.inr (by simp)) ?_;simp only[zP,Nat.reduceEqDiff,reduceIte];rw[a7P];refine p9 (o1 (((N3 3 0 3 2 (sz0:=6) rfl rfl rfl).trans (N3 3 0 4 2 (sz0:=6) rfl rfl rfl)).trans (N3 3 0 5 4 (sz0:=6) rfl rfl rfl)) (by simp)) ?_;refine p9 (o1 (D5 (T':=[(0, .ptr 0 0 0),(5, .ptr 3 0 0)]) (H':=[hMa g (z0 l fe).fe wi,some (.els 1 ((z0 l fe).fe.map i9)),some (.els 1 ((z0 l fe).sv.map i9)),hTa (.ptr 0 0 0) l (z0 l fe) [] [],some (.els 4 ((z0 l fe).cuts.map Cu.cells))]) [some 0,some 1,some 2,some 3,some 6] rfl ⟨.inr (by simp), .inr (by simp),trivial⟩ (by simp[z0])) (by simp)) ?_;refine b2j 3 0 rfl rfl fun x=>?_;simp only[D9,List.set_cons_zero]
  ·refine Y8 (by decide) ?_;refine gS fun K hK=>?_;simp -dsimp;apply hK;clear hK K;refine b6U ?_;refine d7 ?_;refine b6 [0,5,7] (Or.inr (by simp)) ?_;simp only[zP,Nat.reduceEqDiff,reduceIte];refine g9 [0,5,7] (α:=SS×List Fr×List Fr) (fun a=>[]) (fun a=>[hMa g a.1.fe wi,some (.els 1 (a.1.fe.map i9)),some (.els 1 (a.1.sv.map i9)),hTa (.fptr x 0 0 0) l a.1 a.2.1 a.2.2,some (.els 4 (a.1.cuts.map Cu.cells)),some (.els 1 [[.bnd 77 [.ptr 3 0 0]],[.bnd 78 [.ptr 3 0 0]],[.bnd 79 [.ptr 3 0 0]],[.bnd 80 [.ptr 3 0 0]]])]) (fun a=>ZOk g wi l a.1∧O3 g wi l (a7i a.1) a.1=Z) (fun a=>a7i a.1) (z0 l fe,[],[]) ?_ ?_ ?_
   ·exact⟨hz0,hZ⟩
   ·exact o1 (j9 (by simp)) (by simp)
   rintro⟨z,vs,fs⟩ ⟨hz,hN⟩;simp only at hz hN ⊢;obtain⟨vK,hvK⟩:∃vK:Nat→List Fr,vK=fun k=>if k≤2 then vs else vlA g.Nodes.toNat (vfZ g wi l z):=⟨_,rfl⟩;obtain⟨fK,hfK⟩:∃fK:Nat→List Fr,fK=fun k=>if k≤2 then fs else flA g ⟨z.fe,wi⟩ (vfZ g wi l z):=⟨_,rfl⟩;have v0:vK 0=vs:=by rw[hvK];rfl
   have v1:vK 1=vs:=by rw[hvK];rfl
   have v2:vK 2=vs:=by rw[hvK];rfl
   have v3:vK 3=vlA g.Nodes.toNat (vfZ g wi l z):=by rw[hvK];rfl
   have v4:vK 4=vlA g.Nodes.toNat (vfZ g wi l z):=by rw[hvK];rfl
   have g0:fK 0=fs:=by rw[hfK];rfl
   have g1:fK 1=fs:=by rw[hfK];rfl
   have g2:fK 2=fs:=by rw[hfK];rfl
   have g3:fK 3=flA g ⟨z.fe,wi⟩ (vfZ g wi l z):=by rw[hfK];rfl
   have g4:fK 4=flA g ⟨z.fe,wi⟩ (vfZ g wi l z):=by rw[hfK];rfl
   simp only[zP,Nat.reduceEqDiff,reduceIte];refine d7 ?_;refine b9 fun K4 hK4=>?_;refine gS fun K hK=>?_;simp -dsimp;apply hK;clear hK K;refine d7 ?_;refine b6 [0,5,7,41,42,43] (Or.inr (by simp)) ?_;simp only[zP,Nat.reduceEqDiff,reduceIte];refine g9 [0,5,7,41,42] (α:=Nat) (fun k=>[(43,I k)]) (fun k=>[hMa g z.fe wi,some (.els 1 (z.fe.map i9)),some (.els 1 (z.sv.map i9)),hTa (.fptr x 0 0 0) l z (vK k) (fK k),some (.els 4 (z.cuts.map Cu.cells)),some (.els 1 [[.bnd 77 [.ptr 3 0 0]],[.bnd 78 [.ptr 3 0 0]],[.bnd 79 [.ptr 3 0 0]],[.bnd 80 [.ptr 3 0 0]]])]) (fun k=>k≤4∧(1≤k→y8 g wi l z=none)∧(2≤k→J8 g wi l z=none)∧(3≤k→P9 g wi l z=none)∧(4≤k→C6 g wi l z=none)) (fun k=>4-k) 0 ?_ ?_ ?_
   ·exact⟨by omega,fun h=>by omega,fun h=>by omega,fun h=>by omega,fun h=>by omega⟩
   ·exact o1 (e9 [some 0,some 1,some 2,some 3,some 4,some 5] rfl (by simp) (by simp[v0,g0])) (by simp)
   rintro k ⟨k1,k2,k3,k4,k5⟩
   rcases(by omega:k=0∨k=1∨k=2∨k=3∨k=4)with rfl|rfl|rfl|rfl|rfl
   ·simp only[zP,Nat.reduceEqDiff,reduceIte];refine gS fun K hK=>?_;simp -dsimp;apply hK;clear hK K;refine b9 fun K5 hK5=>?_;refine d9 rfl (fun hc1=>?_) (fun hc1=>?_)
    ·rw[v0,g0];refine f6 ?_;simp only[zT,reduceIte,Nat.reduceEqDiff];refine hK5 _ _ ?_;refine b6 [0,5,7,41,42,43] (Or.inr (by simp)) ?_;simp only[zP,Nat.reduceEqDiff,reduceIte];refine b9 fun K6 hK6=>?_;refine d7 ?_;refine gS fun K hK=>?_;simp -dsimp;apply hK;clear hK K;refine gS fun K hK=>?_;simp -dsimp;refine k9 [3,0] [2,1,4] [some 1,none,none,some 0,none,none,some 2,some 3,some 4] (b8g x g wi l z vs fs h hz) (by decide) rfl (by simp) (by simp) rfl (by simp) ?_;simp -dsimp;apply hK;clear hK K;refine d9 rfl (fun hc2=>?_) (fun hc2=>?_)
     ·obtain⟨z1,hz1⟩:=Option.isSome_iff_exists.1 hc2;have hst:D8 g wi l z=some z1:=by unfold D8;rw[hz1];rfl
      rw[hz1];simp only[Option.getD_some];refine i6 ?_;simp only[zT,reduceIte,Nat.reduceEqDiff];obtain⟨s1,s2,s3⟩:=R7 h hz hst;exact⟨(z1,vs,fs),⟨s1,by rw[←hN,←s2,A9 hst]⟩,by simp only;omega,o1 (e9 [some 0,some 7,some 6,some 3,some 8,some 5] rfl (by simp) (by simp)) (by simp)⟩
     ·have hn:y8 g wi l z=none:=by simpa using hc2
      rw[hn];simp only[Option.getD_none];refine f6 ?_;simp only[zT,reduceIte,Nat.reduceEqDiff];refine hK6 _ _ ?_;refine b6 [0,5,7,41,42,43] (Or.inr (by simp)) ?_;simp only[zP,Nat.reduceEqDiff,reduceIte];refine gR fun K hK=>?_;simp -dsimp;apply hK;clear hK K;simp only[zT,reduceIte,Nat.reduceEqDiff];have wk:IntKind.i64.wrap 1=1:=by decide
      exact⟨1,⟨by omega,fun _=>hn,fun h=>by omega,fun h=>by omega,fun h=>by omega⟩,by omega,o1 (e9 [some 0,some 7,some 6,some 3,some 8,some 5] rfl (by simp[wk]) (by simp[v1,g1])) (by simp)⟩
    ·simp at hc1
   ·simp only[zP,Nat.reduceEqDiff,reduceIte];refine gS fun K hK=>?_;simp -dsimp;apply hK;clear hK K;refine b9 fun K7 hK7=>?_;refine d9 rfl (fun hc1=>?_) (fun hc1=>?_)
    ·rw[v1,g1];refine f6 ?_;simp only[zT,reduceIte,Nat.reduceEqDiff];refine hK7 _ _ ?_;refine b6 [0,5,7,41,42,43] (Or.inr (by simp)) ?_;simp only[zP,Nat.reduceEqDiff,reduceIte];refine b9 fun K8 hK8=>?_;refine d7 ?_;refine gS fun K hK=>?_;simp -dsimp;apply hK;clear hK K;refine gS fun K hK=>?_;simp -dsimp;refine k9 [3,0] [2,1,4] [some 1,none,none,some 0,none,none,some 2,some 3,some 4] (c1E x g wi l z vs fs h hz) (by decide) rfl (by simp) (by simp) rfl (by simp) ?_;simp -dsimp;apply hK;clear hK K;refine d9 rfl (fun hc2=>?_) (fun hc2=>?_)
     ·obtain⟨z1,hz1⟩:=Option.isSome_iff_exists.1 hc2;have hst:D8 g wi l z=some z1:=by unfold D8;rw[k2 (by omega),hz1];rfl
      rw[hz1];simp only[Option.getD_some];refine i6 ?_;simp only[zT,reduceIte,Nat.reduceEqDiff];obtain⟨s1,s2,s3⟩:=R7 h hz hst;exact⟨(z1,vs,fs),⟨s1,by rw[←hN,←s2,A9 hst]⟩,by simp only;omega,o1 (e9 [some 0,some 7,some 6,some 3,some 8,some 5] rfl (by simp) (by simp)) (by simp)⟩
     ·have hn:J8 g wi l z=none:=by simpa using hc2
      rw[hn];simp only[Option.getD_none];refine f6 ?_;simp only[zT,reduceIte,Nat.reduceEqDiff];refine hK8 _ _ ?_;refine b6 [0,5,7,41,42,43] (Or.inr (by simp)) ?_;simp only[zP,Nat.reduceEqDiff,reduceIte];refine gR fun K hK=>?_;simp -dsimp;apply hK;clear hK K;simp only[zT,reduceIte,Nat.reduceEqDiff];have wk:IntKind.i64.wrap 2=2:=by decide
      exact⟨2,⟨by omega,fun _=>k2 (by omega),fun _=>hn,fun h=>by omega,fun h=>by omega⟩,by omega,o1 (e9 [some 0,some 7,some 6,some 3,some 8,some 5] rfl (by simp[wk]) (by simp[v2,g2])) (by simp)⟩
    ·simp at hc1
   ·simp only[zP,Nat.reduceEqDiff,reduceIte];refine gS fun K hK=>?_;simp -dsimp;apply hK;clear hK K;refine b9 fun K9 hK9=>?_;refine d9 rfl (fun hc1=>?_) (fun hc1=>?_)
    ·rw[v2,g2];refine f6 ?_;simp only[zT,reduceIte,Nat.reduceEqDiff];refine hK9 _ _ ?_;refine b6 [0,5,7,41,42,43] (Or.inr (by simp)) ?_;simp only[zP,Nat.reduceEqDiff,reduceIte];refine b9 fun K10 hK10=>?_;refine d7 ?_;refine gS fun K hK=>?_;simp -dsimp;apply hK;clear hK K;refine gS fun K hK=>?_;simp -dsimp;refine k9 [3,0] [2,1,4] [some 1,none,none,some 0,none,none,some 2,some 3,some 4] (c1l x g wi l z vs fs h hz (k2 (by omega)) (k3 (by omega))) (by decide) rfl (by simp) (by simp) rfl (by simp) ?_;simp -dsimp;apply hK;clear hK K;refine d9 rfl (fun hc2=>?_) (fun hc2=>?_)
     ·obtain⟨z1,hz1⟩:=Option.isSome_iff_exists.1 hc2;have hst:D8 g wi l z=some z1:=by unfold D8;rw[k2 (by omega),k3 (by omega),hz1];rfl
      rw[hz1];simp only[Option.getD_some];refine i6 ?_;simp only[zT,reduceIte,Nat.reduceEqDiff];obtain⟨s1,s2,s3⟩:=R7 h hz hst;exact⟨(z1,vlA g.Nodes.toNat (vfZ g wi l z),flA g ⟨z.fe,wi⟩ (vfZ g wi l z)),⟨s1,by rw[←hN,←s2,A9 hst]⟩,by simp only;omega,o1 (e9 [some 0,some 7,some 6,some 3,some 8,some 5] rfl (by simp) (by simp)) (by simp)⟩
     ·have hn:P9 g wi l z=none:=by simpa using hc2
      rw[hn];simp only[Option.getD_none];refine f6 ?_;simp only[zT,reduceIte,Nat.reduceEqDiff];refine hK10 _ _ ?_;refine b6 [0,5,7,41,42,43] (Or.inr (by simp)) ?_;simp only[zP,Nat.reduceEqDiff,reduceIte];refine gR fun K hK=>?_;simp -dsimp;apply hK;clear hK K;simp only[zT,reduceIte,Nat.reduceEqDiff];have wk:IntKind.i64.wrap 3=3:=by decide
      exact⟨3,⟨by omega,fun _=>k2 (by omega),fun _=>k3 (by omega),fun _=>hn,fun h=>by omega⟩,by omega,o1 (e9 [some 0,some 7,some 6,some 3,some 8,some 5] rfl (by simp[wk]) (by simp[v3,g3])) (by simp)⟩
    ·simp at hc1
   ·simp only[zP,Nat.reduceEqDiff,reduceIte];refine gS fun K hK=>?_;simp -dsimp;apply hK;clear hK K;refine b9 fun K11 hK11=>?_;refine d9 rfl (fun hc1=>?_) (fun hc1=>?_)
    ·rw[v3,g3];refine f6 ?_;simp only[zT,reduceIte,Nat.reduceEqDiff];refine hK11 _ _ ?_;refine b6 [0,5,7,41,42,43] (Or.inr (by simp)) ?_;simp only[zP,Nat.reduceEqDiff,reduceIte];refine b9 fun K12 hK12=>?_;refine d7 ?_;refine gS fun K hK=>?_;simp -dsimp;apply hK;clear hK K;refine gS fun K hK=>?_;simp -dsimp;refine k9 [3,0] [2,1,4] [some 1,none,none,some 0,none,none,some 2,some 3,some 4] (b8s x g wi l z h hz (k2 (by omega)) (k3 (by omega))) (by decide) rfl (by simp) (by simp) rfl (by simp) ?_;simp -dsimp;apply hK;clear hK K;refine d9 rfl (fun hc2=>?_) (fun hc2=>?_)
     ·obtain⟨z1,hz1⟩:=Option.isSome_iff_exists.1 hc2;have hst:D8 g wi l z=some z1:=by unfold D8;rw[k2 (by omega),k3 (by omega),k4 (by omega),hz1];rfl
      rw[hz1];simp only[Option.getD_some];refine i6 ?_;simp only[zT,reduceIte,Nat.reduceEqDiff];obtain⟨s1,s2,s3⟩:=R7 h hz hst;exact⟨(z1,vlA g.Nodes.toNat (vfZ g wi l z),flA g ⟨z.fe,wi⟩ (vfZ g wi l z)),⟨s1,by rw[←hN,←s2,A9 hst]⟩,by simp only;omega,o1 (e9 [some 0,some 7,some 6,some 3,some 8,some 5] rfl (by simp) (by simp)) (by simp)⟩
     ·have hn:C6 g wi l z=none:=by simpa using hc2
      rw[hn];simp only[Option.getD_none];refine f6 ?_;simp only[zT,reduceIte,Nat.reduceEqDiff];refine hK12 _ _ ?_;refine b6 [0,5,7,41,42,43] (Or.inr (by simp)) ?_;simp only[zP,Nat.reduceEqDiff,reduceIte];refine gR fun K hK=>?_;simp -dsimp;apply hK;clear hK K;simp only[zT,reduceIte,Nat.reduceEqDiff];have wk:IntKind.i64.wrap 4=4:=by decide
      exact⟨4,⟨by omega,fun _=>k2 (by omega),fun _=>k3 (by omega),fun _=>k4 (by omega),fun _=>hn⟩,by omega,o1 (e9 [some 0,some 7,some 6,some 3,some 8,some 5] rfl (by simp[wk]) (by simp[v4,g4])) (by simp)⟩
    ·simp at hc1
   ·simp only[zP,Nat.reduceEqDiff,reduceIte];refine gS fun K hK=>?_;simp -dsimp;apply hK;clear hK K;refine b9 fun K13 hK13=>?_;refine d9 rfl (fun hc1=>?_) (fun hc1=>?_)
    ·simp at hc1
    ·rw[v4,g4];have hst:D8 g wi l z=none:=by unfold D8;rw[k2 (by omega),k3 (by omega),k4 (by omega),k5 (by omega)];rfl
     rw[V1 hst]at hN;subst hN;refine i6 ?_;simp only[zT,reduceIte,Nat.reduceEqDiff];refine hK4 _ _ ?_;refine b6 [0,5] (Or.inr (by simp)) ?_;simp only[zP,Nat.reduceEqDiff,reduceIte];refine gS fun K hK=>?_;simp -dsimp;apply hK;clear hK K;refine p9 (o1 (a6O 3 0 rfl rfl) (by simp)) ?_;simp only[D9,List.set_cons_zero];exact j6 ⟨[some 0,some 1,some 2,some 3,some 4],rfl,by simp,by simp,by simp,by simp[C2,n6]⟩
abbrev hMb (g:Gr) (fe wi:List Bool):Option l7:=some (.els 6 [[I g.Nodes, .lst 4 (g.Wires.map Wr.cells), .lst 4 (g.Feeds.map Fd.cells),I g.Least,bL [],bL wi]])
abbrev hTb (x:AV) (l:List Ld) (z:SS) (vs fs:List Fr):Option l7:=some (.els 6 [[x,lL l, .row 1 0 z.sv.length,fL vs,fL fs, .row 3 0 z.cuts.length]])
theorem a6N (g:Gr) (wi:List Bool) (l:List Ld) (fe:List Bool) (h:C4 g wi l) (hfl:fe.length=g.Feeds.length) (hb:fe=[]) (Z:SS) (hZ:D1 g wi l fe=Z):
  g6 Try.prog 55 [.ptr 0 0 0,lL l] [hMb g fe wi] [] (.ptr 2 0 0) [hMb g Z.fe wi]
   [some (.els 1 (Z.sv.map i9)),hTb (.ptr 0 0 0) l Z (vlA g.Nodes.toNat (vfZ g wi l Z)) (flA g ⟨Z.fe,wi⟩ (vfZ g wi l Z)),some (.els 4 (Z.cuts.map Cu.cells))]:=by
 have hll:=h.ll;have f0:I9 l.length 2:=m8 (by omega) (by omega);have hz0:=c0A h hfl;refine g6.of_bodyG [0] Try.func55 rfl (by decide) (by simp[Try.ntmps55]) rfl rfl ?_;intro J hJ;simp only[Try.ntmps55,Try.results55];refine gS fun K hK=>?_;simp -dsimp;apply hK;clear hK K;refine a7d ?_;refine gS fun K hK=>?_;simp -dsimp [f0];apply hK;clear hK K;refine b9 fun K1 hK1=>?_;refine gS fun K hK=>?_;simp -dsimp;apply hK;clear hK K;refine d7 ?_;refine b6 [0,5,21,22] (Or.inr (by simp)) ?_;simp only[zP,Nat.reduceEqDiff,reduceIte];refine g9 [0,5,21] (α:=Nat) (fun k=>[(22,I k)]) (fun k=>[hMb g fe wi,some (.els 1 ((svK l.length k).map i9)),some (.els 6 [[.ptr 0 0 0,lL l, .row 1 0 l.length, .v (.slice none 0 0), .v (.slice none 0 0), .v (.slice none 0 0)]])]) (fun k=>k≤l.length) (fun k=>l.length-k) 0 ?_ ?_ ?_
 ·exact Nat.zero_le _
 ·exact o1 (e9 [some 0,some 1,some 2] rfl (by simp) (by simp[a5q,i9])) (by simp)
 rintro k k1;simp only[zP,Nat.reduceEqDiff,reduceIte];refine gS fun K hK=>?_;simp -dsimp;apply hK;clear hK K;refine b9 fun K2 hK2=>?_;refine d9 rfl (fun hc0=>?_) (fun hc0=>?_)
 ·have hkl:k<l.length:=by simpa using hc0
  have wk:=zW k (by omega);have hsl:=a7N (n:=l.length) (k:=k) k1;have hst:=a7s hkl;refine f6 ?_;simp only[zT,reduceIte,Nat.reduceEqDiff];refine hK2 _ _ ?_;refine b6 [0,5,21,22] (Or.inr (by simp)) ?_;simp only[zP,Nat.reduceEqDiff,reduceIte];refine b9 fun K3 hK3=>?_;refine d7 ?_;refine gS fun K hK=>?_;simp -dsimp;apply hK;clear hK K;refine gR fun K hK=>?_;simp -dsimp [hkl,hsl];apply hK;clear hK K;simp only[zT,reduceIte,Nat.reduceEqDiff];refine hK3 _ _ ?_;refine b6 [0,5,21,22] (Or.inr (by simp)) ?_;simp only[zP,Nat.reduceEqDiff,reduceIte];refine gR fun K hK=>?_;simp -dsimp [wk];apply hK;clear hK K;simp only[zT,reduceIte,Nat.reduceEqDiff];exact⟨k+1,by omega,by omega,o1 (e9 [some 0,some 1,some 2] rfl (by simp) (by simp[←hst,List.map_set,i9])) (by simp)⟩
 ·have hke:k=l.length:=by have hn:¬k<l.length:=(by simpa using hc0);omega
  subst hke;refine i6 ?_;simp only[zT,reduceIte,Nat.reduceEqDiff];refine hK1 _ _ ?_;refine b6 [0,5] (Or.inr (by simp)) ?_;simp only[zP,Nat.reduceEqDiff,reduceIte];rw[a7P];refine p9 (o1 (((N3 2 0 3 2 (sz0:=6) rfl rfl rfl).trans (N3 2 0 4 2 (sz0:=6) rfl rfl rfl)).trans (N3 2 0 5 4 (sz0:=6) rfl rfl rfl)) (by simp)) ?_;refine p9 (o1 (D5 (T':=[(0, .ptr 0 0 0),(5, .ptr 2 0 0)]) (H':=[hMb g (z0 l fe).fe wi,some (.els 1 ((z0 l fe).sv.map i9)),hTb (.ptr 0 0 0) l (z0 l fe) [] [],some (.els 4 ((z0 l fe).cuts.map Cu.cells))]) [some 0,some 1,some 2,some 5] rfl ⟨.inr (by simp), .inr (by simp),trivial⟩ (by simp[z0])) (by simp)) ?_;refine b2j 2 0 rfl rfl fun x=>?_;simp only[D9,List.set_cons_zero]
  ·refine Y8 (by decide) ?_;refine gS fun K hK=>?_;simp -dsimp;apply hK;clear hK K;refine b6U ?_;refine d7 ?_;refine b6 [0,5,7] (Or.inr (by simp)) ?_;simp only[zP,Nat.reduceEqDiff,reduceIte];refine g9 [0,5,7] (α:=SS×List Fr×List Fr) (fun a=>[]) (fun a=>[hMb g a.1.fe wi,some (.els 1 (a.1.sv.map i9)),hTb (.fptr x 0 0 0) l a.1 a.2.1 a.2.2,some (.els 4 (a.1.cuts.map Cu.cells)),some (.els 1 [[.bnd 77 [.ptr 2 0 0]],[.bnd 78 [.ptr 2 0 0]],[.bnd 79 [.ptr 2 0 0]],[.bnd 80 [.ptr 2 0 0]]])]) (fun a=>ZOk g wi l a.1∧O3 g wi l (a7i a.1) a.1=Z∧a.1.fe=[]) (fun a=>a7i a.1) (z0 l fe,[],[]) ?_ ?_ ?_
   ·exact⟨hz0,hZ,hb⟩
   ·exact o1 (j9 (by simp)) (by simp)
   rintro⟨z,vs,fs⟩ ⟨hz,hN,hb⟩;simp only at hz hN hb ⊢;obtain⟨vK,hvK⟩:∃vK:Nat→List Fr,vK=fun k=>if k≤2 then vs else vlA g.Nodes.toNat (vfZ g wi l z):=⟨_,rfl⟩;obtain⟨fK,hfK⟩:∃fK:Nat→List Fr,fK=fun k=>if k≤2 then fs else flA g ⟨z.fe,wi⟩ (vfZ g wi l z):=⟨_,rfl⟩;have v0:vK 0=vs:=by rw[hvK];rfl
   have v1:vK 1=vs:=by rw[hvK];rfl
   have v2:vK 2=vs:=by rw[hvK];rfl
   have v3:vK 3=vlA g.Nodes.toNat (vfZ g wi l z):=by rw[hvK];rfl
   have v4:vK 4=vlA g.Nodes.toNat (vfZ g wi l z):=by rw[hvK];rfl
   have g0:fK 0=fs:=by rw[hfK];rfl
   have g1:fK 1=fs:=by rw[hfK];rfl
   have g2:fK 2=fs:=by rw[hfK];rfl
   have g3:fK 3=flA g ⟨z.fe,wi⟩ (vfZ g wi l z):=by rw[hfK];rfl
   have g4:fK 4=flA g ⟨z.fe,wi⟩ (vfZ g wi l z):=by rw[hfK];rfl
   simp only[zP,Nat.reduceEqDiff,reduceIte];refine d7 ?_;refine b9 fun K4 hK4=>?_;refine gS fun K hK=>?_;simp -dsimp;apply hK;clear hK K;refine d7 ?_;refine b6 [0,5,7,41,42,43] (Or.inr (by simp)) ?_;simp only[zP,Nat.reduceEqDiff,reduceIte];refine g9 [0,5,7,41,42] (α:=Nat) (fun k=>[(43,I k)]) (fun k=>[hMb g z.fe wi,some (.els 1 (z.sv.map i9)),hTb (.fptr x 0 0 0) l z (vK k) (fK k),some (.els 4 (z.cuts.map Cu.cells)),some (.els 1 [[.bnd 77 [.ptr 2 0 0]],[.bnd 78 [.ptr 2 0 0]],[.bnd 79 [.ptr 2 0 0]],[.bnd 80 [.ptr 2 0 0]]])]) (fun k=>k≤4∧(1≤k→y8 g wi l z=none)∧(2≤k→J8 g wi l z=none)∧(3≤k→P9 g wi l z=none)∧(4≤k→C6 g wi l z=none)) (fun k=>4-k) 0 ?_ ?_ ?_
   ·exact⟨by omega,fun h=>by omega,fun h=>by omega,fun h=>by omega,fun h=>by omega⟩
   ·exact o1 (e9 [some 0,some 1,some 2,some 3,some 4] rfl (by simp) (by simp[v0,g0])) (by simp)
   rintro k ⟨k1,k2,k3,k4,k5⟩
   rcases(by omega:k=0∨k=1∨k=2∨k=3∨k=4)with rfl|rfl|rfl|rfl|rfl
   ·simp only[zP,Nat.reduceEqDiff,reduceIte];refine gS fun K hK=>?_;simp -dsimp;apply hK;clear hK K;refine b9 fun K5 hK5=>?_;refine d9 rfl (fun hc1=>?_) (fun hc1=>?_)
    ·rw[v0,g0];refine f6 ?_;simp only[zT,reduceIte,Nat.reduceEqDiff];refine hK5 _ _ ?_;refine b6 [0,5,7,41,42,43] (Or.inr (by simp)) ?_;simp only[zP,Nat.reduceEqDiff,reduceIte];refine b9 fun K6 hK6=>?_;refine d7 ?_;refine gS fun K hK=>?_;simp -dsimp;apply hK;clear hK K;refine gS fun K hK=>?_;simp -dsimp;refine k9 [2,0] [1,3] [some 1,none,some 0,none,none,some 2,some 3] (b8i x g wi l z vs fs h hz hb) (by decide) rfl (by simp) (by simp) rfl (by simp) ?_;simp -dsimp;apply hK;clear hK K;refine d9 rfl (fun hc2=>?_) (fun hc2=>?_)
     ·obtain⟨z1,hz1⟩:=Option.isSome_iff_exists.1 hc2;have hst:D8 g wi l z=some z1:=by unfold D8;rw[hz1];rfl
      rw[hz1];simp only[Option.getD_some];refine i6 ?_;simp only[zT,reduceIte,Nat.reduceEqDiff];obtain⟨s1,s2,s3⟩:=R7 h hz hst;exact⟨(z1,vs,fs),⟨s1,by rw[←hN,←s2,A9 hst],List.length_eq_zero_iff.1 (by rw[s1.fe,←hz.fe,hb];rfl)⟩,by simp only;omega,o1 (e9 [some 0,some 5,some 2,some 6,some 4] rfl (by simp) (by simp)) (by simp)⟩
     ·have hn:y8 g wi l z=none:=by simpa using hc2
      rw[hn];simp only[Option.getD_none];refine f6 ?_;simp only[zT,reduceIte,Nat.reduceEqDiff];refine hK6 _ _ ?_;refine b6 [0,5,7,41,42,43] (Or.inr (by simp)) ?_;simp only[zP,Nat.reduceEqDiff,reduceIte];refine gR fun K hK=>?_;simp -dsimp;apply hK;clear hK K;simp only[zT,reduceIte,Nat.reduceEqDiff];have wk:IntKind.i64.wrap 1=1:=by decide
      exact⟨1,⟨by omega,fun _=>hn,fun h=>by omega,fun h=>by omega,fun h=>by omega⟩,by omega,o1 (e9 [some 0,some 5,some 2,some 6,some 4] rfl (by simp[wk]) (by simp[v1,g1])) (by simp)⟩
    ·simp at hc1
   ·simp only[zP,Nat.reduceEqDiff,reduceIte];refine gS fun K hK=>?_;simp -dsimp;apply hK;clear hK K;refine b9 fun K7 hK7=>?_;refine d9 rfl (fun hc1=>?_) (fun hc1=>?_)
    ·rw[v1,g1];refine f6 ?_;simp only[zT,reduceIte,Nat.reduceEqDiff];refine hK7 _ _ ?_;refine b6 [0,5,7,41,42,43] (Or.inr (by simp)) ?_;simp only[zP,Nat.reduceEqDiff,reduceIte];refine b9 fun K8 hK8=>?_;refine d7 ?_;refine gS fun K hK=>?_;simp -dsimp;apply hK;clear hK K;refine gS fun K hK=>?_;simp -dsimp;refine k9 [2,0] [1,3] [some 1,none,some 0,none,none,some 2,some 3] (b9W x g wi l z vs fs h hz hb) (by decide) rfl (by simp) (by simp) rfl (by simp) ?_;simp -dsimp;apply hK;clear hK K;refine d9 rfl (fun hc2=>?_) (fun hc2=>?_)
     ·obtain⟨z1,hz1⟩:=Option.isSome_iff_exists.1 hc2;have hst:D8 g wi l z=some z1:=by unfold D8;rw[k2 (by omega),hz1];rfl
      rw[hz1];simp only[Option.getD_some];refine i6 ?_;simp only[zT,reduceIte,Nat.reduceEqDiff];obtain⟨s1,s2,s3⟩:=R7 h hz hst;exact⟨(z1,vs,fs),⟨s1,by rw[←hN,←s2,A9 hst],List.length_eq_zero_iff.1 (by rw[s1.fe,←hz.fe,hb];rfl)⟩,by simp only;omega,o1 (e9 [some 0,some 5,some 2,some 6,some 4] rfl (by simp) (by simp)) (by simp)⟩
     ·have hn:J8 g wi l z=none:=by simpa using hc2
      rw[hn];simp only[Option.getD_none];refine f6 ?_;simp only[zT,reduceIte,Nat.reduceEqDiff];refine hK8 _ _ ?_;refine b6 [0,5,7,41,42,43] (Or.inr (by simp)) ?_;simp only[zP,Nat.reduceEqDiff,reduceIte];refine gR fun K hK=>?_;simp -dsimp;apply hK;clear hK K;simp only[zT,reduceIte,Nat.reduceEqDiff];have wk:IntKind.i64.wrap 2=2:=by decide
      exact⟨2,⟨by omega,fun _=>k2 (by omega),fun _=>hn,fun h=>by omega,fun h=>by omega⟩,by omega,o1 (e9 [some 0,some 5,some 2,some 6,some 4] rfl (by simp[wk]) (by simp[v2,g2])) (by simp)⟩
    ·simp at hc1
   ·simp only[zP,Nat.reduceEqDiff,reduceIte];refine gS fun K hK=>?_;simp -dsimp;apply hK;clear hK K;refine b9 fun K9 hK9=>?_;refine d9 rfl (fun hc1=>?_) (fun hc1=>?_)
    ·rw[v2,g2];refine f6 ?_;simp only[zT,reduceIte,Nat.reduceEqDiff];refine hK9 _ _ ?_;refine b6 [0,5,7,41,42,43] (Or.inr (by simp)) ?_;simp only[zP,Nat.reduceEqDiff,reduceIte];refine b9 fun K10 hK10=>?_;refine d7 ?_;refine gS fun K hK=>?_;simp -dsimp;apply hK;clear hK K;refine gS fun K hK=>?_;simp -dsimp;refine k9 [2,0] [1,3] [some 1,none,some 0,none,none,some 2,some 3] (c0g x g wi l z vs fs h hz hb (k2 (by omega)) (k3 (by omega))) (by decide) rfl (by simp) (by simp) rfl (by simp) ?_;simp -dsimp;apply hK;clear hK K;refine d9 rfl (fun hc2=>?_) (fun hc2=>?_)
     ·obtain⟨z1,hz1⟩:=Option.isSome_iff_exists.1 hc2;have hst:D8 g wi l z=some z1:=by unfold D8;rw[k2 (by omega),k3 (by omega),hz1];rfl
      rw[hz1];simp only[Option.getD_some];refine i6 ?_;simp only[zT,reduceIte,Nat.reduceEqDiff];obtain⟨s1,s2,s3⟩:=R7 h hz hst;exact⟨(z1,vlA g.Nodes.toNat (vfZ g wi l z),flA g ⟨z.fe,wi⟩ (vfZ g wi l z)),⟨s1,by rw[←hN,←s2,A9 hst],List.length_eq_zero_iff.1 (by rw[s1.fe,←hz.fe,hb];rfl)⟩,by simp only;omega,o1 (e9 [some 0,some 5,some 2,some 6,some 4] rfl (by simp) (by simp)) (by simp)⟩
     ·have hn:P9 g wi l z=none:=by simpa using hc2
      rw[hn];simp only[Option.getD_none];refine f6 ?_;simp only[zT,reduceIte,Nat.reduceEqDiff];refine hK10 _ _ ?_;refine b6 [0,5,7,41,42,43] (Or.inr (by simp)) ?_;simp only[zP,Nat.reduceEqDiff,reduceIte];refine gR fun K hK=>?_;simp -dsimp;apply hK;clear hK K;simp only[zT,reduceIte,Nat.reduceEqDiff];have wk:IntKind.i64.wrap 3=3:=by decide
      exact⟨3,⟨by omega,fun _=>k2 (by omega),fun _=>k3 (by omega),fun _=>hn,fun h=>by omega⟩,by omega,o1 (e9 [some 0,some 5,some 2,some 6,some 4] rfl (by simp[wk]) (by simp[v3,g3])) (by simp)⟩
    ·simp at hc1
   ·simp only[zP,Nat.reduceEqDiff,reduceIte];refine gS fun K hK=>?_;simp -dsimp;apply hK;clear hK K;refine b9 fun K11 hK11=>?_;refine d9 rfl (fun hc1=>?_) (fun hc1=>?_)
    ·rw[v3,g3];refine f6 ?_;simp only[zT,reduceIte,Nat.reduceEqDiff];refine hK11 _ _ ?_;refine b6 [0,5,7,41,42,43] (Or.inr (by simp)) ?_;simp only[zP,Nat.reduceEqDiff,reduceIte];refine b9 fun K12 hK12=>?_;refine d7 ?_;refine gS fun K hK=>?_;simp -dsimp;apply hK;clear hK K;refine gS fun K hK=>?_;simp -dsimp;refine k9 [2,0] [1,3] [some 1,none,some 0,none,none,some 2,some 3] (b8n x g wi l z h hz hb) (by decide) rfl (by simp) (by simp) rfl (by simp) ?_;simp -dsimp;apply hK;clear hK K;refine d9 rfl (fun hc2=>?_) (fun hc2=>?_)
     ·obtain⟨z1,hz1⟩:=Option.isSome_iff_exists.1 hc2;have hst:D8 g wi l z=some z1:=by unfold D8;rw[k2 (by omega),k3 (by omega),k4 (by omega),hz1];rfl
      rw[hz1];simp only[Option.getD_some];refine i6 ?_;simp only[zT,reduceIte,Nat.reduceEqDiff];obtain⟨s1,s2,s3⟩:=R7 h hz hst;exact⟨(z1,vlA g.Nodes.toNat (vfZ g wi l z),flA g ⟨z.fe,wi⟩ (vfZ g wi l z)),⟨s1,by rw[←hN,←s2,A9 hst],List.length_eq_zero_iff.1 (by rw[s1.fe,←hz.fe,hb];rfl)⟩,by simp only;omega,o1 (e9 [some 0,some 5,some 2,some 6,some 4] rfl (by simp) (by simp)) (by simp)⟩
     ·have hn:C6 g wi l z=none:=by simpa using hc2
      rw[hn];simp only[Option.getD_none];refine f6 ?_;simp only[zT,reduceIte,Nat.reduceEqDiff];refine hK12 _ _ ?_;refine b6 [0,5,7,41,42,43] (Or.inr (by simp)) ?_;simp only[zP,Nat.reduceEqDiff,reduceIte];refine gR fun K hK=>?_;simp -dsimp;apply hK;clear hK K;simp only[zT,reduceIte,Nat.reduceEqDiff];have wk:IntKind.i64.wrap 4=4:=by decide
      exact⟨4,⟨by omega,fun _=>k2 (by omega),fun _=>k3 (by omega),fun _=>k4 (by omega),fun _=>hn⟩,by omega,o1 (e9 [some 0,some 5,some 2,some 6,some 4] rfl (by simp[wk]) (by simp[v4,g4])) (by simp)⟩
    ·simp at hc1
   ·simp only[zP,Nat.reduceEqDiff,reduceIte];refine gS fun K hK=>?_;simp -dsimp;apply hK;clear hK K;refine b9 fun K13 hK13=>?_;refine d9 rfl (fun hc1=>?_) (fun hc1=>?_)
    ·simp at hc1
    ·rw[v4,g4];have hst:D8 g wi l z=none:=by unfold D8;rw[k2 (by omega),k3 (by omega),k4 (by omega),k5 (by omega)];rfl
     rw[V1 hst]at hN;subst hN;refine i6 ?_;simp only[zT,reduceIte,Nat.reduceEqDiff];refine hK4 _ _ ?_;refine b6 [0,5] (Or.inr (by simp)) ?_;simp only[zP,Nat.reduceEqDiff,reduceIte];refine gS fun K hK=>?_;simp -dsimp;apply hK;clear hK K;refine p9 (o1 (a6O 2 0 rfl rfl) (by simp)) ?_;simp only[D9,List.set_cons_zero];exact j6 ⟨[some 0,some 1,some 2,some 3],rfl,by simp,by simp,by simp,by simp[C2,n6]⟩
end Go.Cur
end
section
namespace Go.Cur
open Go.AM Go.Proofs
def c2T (g:Gr) (wi:List Bool) (l:List Ld) (Z:SS):Stl:=⟨vlA g.Nodes.toNat (vfZ g wi l Z),flA g ⟨Z.fe,wi⟩ (vfZ g wi l Z),⟨Z.fe,wi⟩,Z.sv,Z.cuts⟩
theorem b5q (g:Gr) (s:Sta) (l:List Ld) (hl:l.length≤1000) (hfine:t7 g s l=true) (hne:s.Feeds≠[]):g6 Try.prog 47 [g.av,s.av,lL l] [] [] (.tup [.ptr 0 0 0,Bo true]) [] [hMa g s.Feeds s.Wires,some (.els 1 (s.Feeds.map i9))]:=by
 have hfine0:=hfine;simp only[t7,stB,Bool.and_eq_true,decide_eq_true_eq]at hfine0;have hgo:grB g=true∧s.Feeds.length=g.Feeds.length∧s.Wires.length=g.Wires.length:=⟨hfine0.1.1,hfine0.1.2.1.1,hfine0.1.2.1.2⟩;have hfl1:s.Feeds.length≤1000:=by have:=(t9 hgo.1).2.2.2.1;omega
 refine g6.of_bodyG [] Try.func47 rfl (by decide) (by simp[Try.ntmps47]) rfl rfl ?_;intro J hJ;simp only[Try.ntmps47,Try.results47];refine gS fun K hK=>?_;simp -dsimp;apply hK;clear hK K;refine b9 fun K1 hK1=>?_;refine gS fun K hK=>?_;simp -dsimp [okE];refine d5 _ (a8i g) (by simp) ?_;simp -dsimp [okE];apply hK;clear hK K;refine d9 rfl (fun hc0=>?_) (fun hc0=>?_)
 ·exfalso;simp[hgo.1,hgo.2.1,hgo.2.2]at hc0
 ·have hb:=t9 hgo.1;refine f6 ?_;simp only[zT,reduceIte,Nat.reduceEqDiff];refine hK1 _ _ ?_;refine b6 [2,3,4] (Or.inr (by simp)) ?_;simp only[zP,Nat.reduceEqDiff,reduceIte];refine b9 fun K2 hK2=>?_;refine gS fun K hK=>?_;simp -dsimp;apply hK;clear hK K;refine d7 ?_;refine b6 [2,3,4,35,36,37] (Or.inr (by simp)) ?_;simp only[zP,Nat.reduceEqDiff,reduceIte];refine g9 [2,3,4,35,36] (α:=Nat) (fun k=>[(37,I k)]) (fun k=>[some (.els 4 [g.cells]),some (.els 2 [s.cells])]) (fun k=>k≤g.Wires.length∧a5P g s k=true) (fun k=>g.Wires.length-k) 0 ?_ ?_ ?_
  ·exact⟨Nat.zero_le _,rfl⟩
  ·exact o1 (j9 (by simp)) (by simp)
  rintro k ⟨k1,k2⟩;simp only[zP,Nat.reduceEqDiff,reduceIte];refine gS fun K hK=>?_;simp -dsimp;apply hK;clear hK K;refine b9 fun K3 hK3=>?_;refine d9 rfl (fun hc1=>?_) (fun hc1=>?_)
  ·skip
   try simp at hc1
   obtain⟨w,hw⟩:∃w,g.Wires[k]?=some w:=⟨_,List.getElem?_eq_getElem hc1⟩;have wk:=zW k (by omega);have gb:=v9 (l:=s.Wires) (k:=k) (by omega);refine f6 ?_;simp only[zT,reduceIte,Nat.reduceEqDiff];refine hK3 _ _ ?_;refine b6 [2,3,4,35,36,37] (Or.inr (by simp)) ?_;simp only[zP,Nat.reduceEqDiff,reduceIte];refine b9 fun K4 hK4=>?_;refine d7 ?_;refine gS fun K hK=>?_;simp -dsimp [hw];apply hK;clear hK K;refine gS fun K hK=>?_;simp -dsimp [gb,hgo.2.2];refine l3 (i9 (bAt s.Wires k)) (fun _=>by simp[gb]) ?_;simp -dsimp [gb,hgo.2.2];apply hK;clear hK K;refine d9 rfl (fun hc2=>?_) (fun hc2=>?_)
   ·exfalso;have hfl:(w.Sw||bAt s.Wires k)=false:=by cases hw1:w.Sw<;>cases hb1:bAt s.Wires k<;>simp[hw1,hb1]at hc2 ⊢
    rw[b6R hw hfl]at hfine;cases hfine
   ·refine f6 ?_;simp only[zT,reduceIte,Nat.reduceEqDiff];refine hK4 _ _ ?_;refine b6 [2,3,4,35,36,37] (Or.inr (by simp)) ?_;simp only[zP,Nat.reduceEqDiff,reduceIte];refine gR fun K hK=>?_;simp -dsimp [wk];apply hK;clear hK K;simp only[zT,reduceIte,Nat.reduceEqDiff];refine⟨k+1,⟨by omega,?_⟩,by omega,o1 (e9 [some 0,some 1] rfl (by simp) (by simp)) (by simp)⟩;simp only[a5P,k2,hw,Bool.true_and]
    cases hw1:w.Sw<;>cases hb1:bAt s.Wires k<;>simp[hw1,hb1]at hc2 ⊢
  ·skip
   try simp at hc1
   have hke:k=g.Wires.length:=by omega
   subst hke;refine i6 ?_;simp only[zT,reduceIte,Nat.reduceEqDiff];refine hK2 _ _ ?_;refine b6 [2,3,4] (Or.inr (by simp)) ?_;simp only[zP,Nat.reduceEqDiff,reduceIte];refine gS fun K hK=>?_;simp -dsimp;apply hK;clear hK K;refine b9 fun K5 hK5=>?_;refine gS fun K hK=>?_;simp -dsimp;apply hK;clear hK K;refine d7 ?_;refine b6 [3,4,10,55,56,57] (Or.inr (by simp)) ?_;simp only[zP,Nat.reduceEqDiff,reduceIte];refine g9 [3,4,10,55,56] (α:=Nat) (fun k=>[(57,I k)]) (fun k=>[some (.els 4 [g.cells]),some (.els 2 [s.cells]),some (.map false [.i .i64] (lkv (l.take k)))]) (fun k=>k≤l.length∧a1D g l k=true) (fun k=>l.length-k) 0 ?_ ?_ ?_
   ·exact⟨Nat.zero_le _,rfl⟩
   ·exact o1 (e9 [some 0,some 1,some 2] rfl (by simp) (by simp[lkv])) (by simp)
   rintro i ⟨i1,i2⟩;simp only[zP,Nat.reduceEqDiff,reduceIte];refine gS fun K hK=>?_;simp -dsimp;apply hK;clear hK K;refine b9 fun K6 hK6=>?_;refine d9 rfl (fun hc3=>?_) (fun hc3=>?_)
   ·skip
    try simp at hc3
    obtain⟨f,hf⟩:∃f,l[i]?=some f:=⟨_,List.getElem?_eq_getElem hc3⟩;have wi:=zW i (by omega);have wn:IntKind.i64.wrap (g.Nodes-1)=g.Nodes-1:=f7 (by omega) (by omega);refine f6 ?_;simp only[zT,reduceIte,Nat.reduceEqDiff];refine hK6 _ _ ?_;refine b6 [3,4,10,55,56,57] (Or.inr (by simp)) ?_;simp only[zP,Nat.reduceEqDiff,reduceIte];refine b9 fun K7 hK7=>?_;refine d7 ?_;refine gS fun K hK=>?_;simp -dsimp [hf];apply hK;clear hK K;refine b9 fun K8 hK8=>?_;refine gS fun K hK=>?_;simp -dsimp [wn,y4];refine d5 _ (u0 _ _ _) (by simp) ?_;simp -dsimp [wn,y4];refine g8 _ (fun hm=>u0 f.Units (-40) 40) (by simp) ?_;simp -dsimp [wn,y4];refine g8 _ (fun hm=>u0 f.Rank 0 100) (by simp) ?_;simp -dsimp [wn,y4];refine o4 (_) (fun hm=>rfl) ?_;simp -dsimp [wn,y4];apply hK;clear hK K;refine d9 rfl (fun hc4=>?_) (fun hc4=>?_)
    ·have hfd:ldB g (l.take i) f= !(!inr f.At 0 (g.Nodes-1)|| !inr f.Units (-40) 40|| !inr f.Rank 0 100||((l.take i).any fun x=>decide (x.At=f.At))):=by
      simp only[ldB]
      cases inr f.At 0 (g.Nodes-1)<;>cases inr f.Units (-40) 40<;>cases inr f.Rank 0 100<;>cases ((l.take i).any fun x=>decide (x.At=f.At))<;>rfl
     exfalso;rw[b6W hf (by rw[hfd,hc4];rfl)]at hfine;cases hfine
    ·have hfd:ldB g (l.take i) f= !(!inr f.At 0 (g.Nodes-1)|| !inr f.Units (-40) 40|| !inr f.Rank 0 100||((l.take i).any fun x=>decide (x.At=f.At))):=by
      simp only[ldB]
      cases inr f.At 0 (g.Nodes-1)<;>cases inr f.Units (-40) 40<;>cases inr f.Rank 0 100<;>cases ((l.take i).any fun x=>decide (x.At=f.At))<;>rfl
     have hany:((l.take i).any fun x=>decide (x.At=f.At))=false:=by
      cases h:((l.take i).any fun x=>decide (x.At=f.At))with
      |false=>rfl
      |true=>rw[h]at hc4;simp at hc4
     refine f6 ?_;simp only[zT,reduceIte,Nat.reduceEqDiff];refine hK8 _ _ ?_;refine b6 [3,4,10,12,55,56,57] (Or.inr (by simp)) ?_;simp only[zP,Nat.reduceEqDiff,reduceIte];refine gR fun K hK=>?_;simp -dsimp [a1G _ _ hany];apply hK;clear hK K;simp only[zT,reduceIte,Nat.reduceEqDiff];refine hK7 _ _ ?_;refine b6 [3,4,10,55,56,57] (Or.inr (by simp)) ?_;simp only[zP,Nat.reduceEqDiff,reduceIte];refine gR fun K hK=>?_;simp -dsimp [wi];apply hK;clear hK K;simp only[zT,reduceIte,Nat.reduceEqDiff];refine⟨i+1,⟨by omega,?_⟩,by omega,o1 (e9 [some 0,some 1,some 2] rfl (by simp) (by simp[List.take_add_one,hf])) (by simp)⟩;simp only[a1D,i2,hf,hfd,hc4];rfl
   ·skip
    try simp at hc3
    refine i6 ?_;simp only[zT,reduceIte,Nat.reduceEqDiff];refine hK5 _ _ ?_;refine b6 [3,4] (Or.inr (by simp)) ?_;simp only[zP,Nat.reduceEqDiff,reduceIte];refine w9 l9 rfl (by decide) rfl rfl fun K hK=>?_;simp -dsimp;refine L6 (c0y s.Feeds hne hfl1) ?_;simp -dsimp;refine d5 _ (B6 s.Wires (by omega)) (by simp) ?_;simp -dsimp;refine hK _ _ _ (by decide+kernel) ?_;clear hK K;exact j6 ⟨[some 4,some 3],rfl,by simp,by simp[hne],by simp,by simp[C2,n6]⟩
theorem a7X (g:Gr) (s:Sta) (l:List Ld) (hf:t7 g s l=true) (hlo:C5 g s=false) (h:C4 g s.Wires l) (hne:s.Feeds≠[]) (Z:SS) (hZ:D1 g s.Wires l s.Feeds=Z):
  d6 Try.prog 27 [g.av,s.av,lL l] (.tup [.agg (c2T g s.Wires l Z).cells,I 0]):=by
 have hll:=h.ll;have hnt:=u6 hf;have hb:=b5q g s l (by omega) hf hne;have hlg:=X5 g s hnt (h.few _);rw[hlo]at hlg;have hst:=a2k g s.Wires l s.Feeds h hnt.sf Z hZ;refine d6.of_bodyG Try.func27 rfl (by decide) (by simp[Try.ntmps27]) ?_;intro J hJ;simp only[Try.ntmps27,Try.results27];refine gS fun K hK=>?_;simp -dsimp;apply hK;clear hK K;refine gS fun K hK=>?_;simp -dsimp;refine k9 [] [] [none,none,none,some 0,some 1] (hb) (by decide) rfl (by simp) (by simp) rfl (by simp) ?_;simp -dsimp;apply hK;clear hK K;refine b9 fun K1 hK1=>?_;refine d7 ?_;refine gS fun K hK=>?_;simp -dsimp;apply hK;clear hK K;refine d9 rfl (fun hc0=>?_) (fun hc0=>?_)
 ·simp at hc0
 ·refine gS fun K hK=>?_;simp -dsimp;refine d5 _ (hlg) (by simp) ?_;simp -dsimp;apply hK;clear hK K;refine d9 rfl (fun hc1=>?_) (fun hc1=>?_)
  ·simp at hc1
  ·refine f6 ?_;simp only[zT,reduceIte,Nat.reduceEqDiff];refine hK1 _ _ ?_;refine b6 [2,6,8] (Or.inr (by simp)) ?_;simp only[zP,Nat.reduceEqDiff,reduceIte];refine gS fun K hK=>?_;simp -dsimp;refine k9 [3] [4] [none,none,none,some 0,none,some 1,some 2,some 3,some 4] (hst) (by decide) rfl (by simp) (by simp) rfl (by simp) ?_;simp -dsimp;apply hK;clear hK K;refine w9 l9 rfl (by decide) rfl rfl fun K hK=>?_;simp -dsimp;refine hK _ _ _ (by decide+kernel) ?_;clear hK K;exact j6 (by simp[c2T,C2,n6])
end Go.Cur
end
section
namespace Go.Cur
open Go.AM Go.Proofs
def A3 (wi:List Bool) (ws:List Int):List Bool:=ws.foldl (fun b w=>b.set w.toNat true) wi
theorem a3G {wi:List Bool} {ws:List Int} {k:Nat} {w:Int} (h:ws[k]?=some w):A3 wi (ws.take (k+1))=(A3 wi (ws.take k)).set w.toNat true:=by
 unfold A3;rw[List.take_add_one,h,List.foldl_append];rfl
theorem Q2:∀(ws:List Int) (wi:List Bool),(A3 wi ws).length=wi.length
 |[],wi=>rfl
 |w::ws,wi=>by
  have:=Q2 ws (wi.set w.toNat true);unfold A3 at this ⊢;rw[List.foldl_cons,this,List.length_set]
def rlB (g:Gr) (s:Sta) (ws:List Int) (l:List Ld):Bool:=decide ((D1 g (A3 s.Wires ws) l s.Feeds).cuts.length=0)
theorem a5c (c:List Cu):((c.length:Int)==0)=decide (c=[]):=by
 cases c with
 |nil=>rfl
 |cons a t=>
  have:¬((a::t).length:Int)=0:=by simp only[List.length_cons];omega
  rw[beq_eq_false_iff_ne.2 this];simp
theorem a1U {g:Gr} {wi:List Bool} {l:List Ld} (h:C4 g wi l) (fe:List Bool):C5 g ⟨fe,wi⟩=false:=by
 unfold C5;rw[List.any_eq_false];intro p hp;have:=h.p5' fe p hp;simp;omega
theorem a7J (g:Gr) (s:Sta) (ws:List Int) (l:List Ld) (hnt:o7 g s) (hw:∀w∈ws,0≤w∧w<s.Wires.length) (h:C4 g (A3 s.Wires ws) l) (hwl:ws.length≤1000) (hne:s.Feeds≠[]) (hwn:s.Wires≠[]):
  d6 Try.prog 60 [net g s,iL ws,lL l] (Bo (rlB g s ws l)):=by
 have hol:=Q2 ws s.Wires;have hnt2:o7 g ⟨s.Feeds,A3 s.Wires ws⟩:=⟨hnt.gr,hnt.sf,by rw[hol];exact hnt.sw⟩;have hlg:=X5 g ⟨s.Feeds,A3 s.Wires ws⟩ hnt2 (h.few _);rw[a1U h]at hlg;have hbd:=t9 hnt.gr;have hsf:=hnt.sf;have hsw:=hnt.sw;have hst:=a2k g (A3 s.Wires ws) l s.Feeds h hsf _ rfl;have hrl:rlB g s ws l=decide ((D1 g (A3 s.Wires ws) l s.Feeds).cuts.length=0):=rfl;generalize D1 g (A3 s.Wires ws) l s.Feeds=Z at hst hrl;rw[hrl];have htw:List.take s.Wires.length ((A3 s.Wires ws).map i9)=(A3 s.Wires ws).map i9:=List.take_of_length_le (by simp;omega);refine d6.of_bodyG Try.func60 rfl (by decide) (by simp[Try.ntmps60]) ?_;intro J hJ;simp only[Try.ntmps60,Try.results60];refine gS fun K hK=>?_;simp -dsimp;apply hK;clear hK K;refine w9 l9 rfl (by decide) rfl rfl fun K hK=>?_;simp -dsimp;refine L6 (c0y s.Feeds hne (by omega)) ?_;simp -dsimp;refine L6 (c0y s.Wires hwn (by omega)) ?_;simp -dsimp;refine hK _ _ _ (by decide+kernel) ?_;clear hK K;refine b9 fun K1 hK1=>?_;refine gS fun K hK=>?_;simp -dsimp;apply hK;clear hK K;refine d7 ?_;refine b6 [2,7,29,30,31] (Or.inr (by simp)) ?_;simp only[zP,Nat.reduceEqDiff,reduceIte];refine g9 [2,7,29,30] (α:=Nat) (fun k=>[(31,I k)]) (fun k=>[some (.els 1 (s.Feeds.map i9)),some (.els 1 ((A3 s.Wires (ws.take k)).map i9)),some (.els 6 [[I g.Nodes, .lst 4 (g.Wires.map Wr.cells), .lst 4 (g.Feeds.map Fd.cells),I g.Least, .row 0 0 s.Feeds.length, .row 1 0 s.Wires.length]])]) (fun k=>k≤ws.length) (fun k=>ws.length-k) 0 ?_ ?_ ?_
 ·exact Nat.zero_le _
 ·exact o1 (e9 [some 0,some 1,some 2] rfl (by simp) (by simp[A3])) (by simp)
 rintro k k1;simp only[zP,Nat.reduceEqDiff,reduceIte];refine gS fun K hK=>?_;simp -dsimp;apply hK;clear hK K;refine b9 fun K2 hK2=>?_;refine d9 rfl (fun hc0=>?_) (fun hc0=>?_)
 ·have hkl:k<ws.length:=by simpa using hc0
  have wk:=zW k (by omega);obtain⟨w,hwk⟩:∃w,ws[k]?=some w:=⟨_,List.getElem?_eq_getElem hkl⟩;obtain⟨hw0,hw1⟩:=hw w (List.mem_of_getElem? hwk);have hos:=a3G (wi:=s.Wires) hwk;have hok:=Q2 (ws.take k) s.Wires;obtain⟨wn,rfl⟩:∃wn:Nat,w=wn:=⟨w.toNat,by omega⟩;rw[Int.toNat_natCast]at hos;refine f6 ?_;simp only[zT,reduceIte,Nat.reduceEqDiff];refine hK2 _ _ ?_;refine b6 [2,7,29,30,31] (Or.inr (by simp)) ?_;simp only[zP,Nat.reduceEqDiff,reduceIte];refine b9 fun K3 hK3=>?_;refine d7 ?_;refine gS fun K hK=>?_;simp -dsimp [hwk];apply hK;clear hK K;refine gR fun K hK=>?_;simp -dsimp [hok,(by omega:wn<s.Wires.length)];apply hK;clear hK K;simp only[zT,reduceIte,Nat.reduceEqDiff];refine hK3 _ _ ?_;refine b6 [2,7,29,30,31] (Or.inr (by simp)) ?_;simp only[zP,Nat.reduceEqDiff,reduceIte];refine gR fun K hK=>?_;simp -dsimp [wk];apply hK;clear hK K;simp only[zT,reduceIte,Nat.reduceEqDiff];exact⟨k+1,by omega,by omega,o1 (e9 [some 0,some 1,some 2] rfl (by simp) (by simp[hos,List.map_set])) (by simp)⟩
 ·have hke:k=ws.length:=by have hn:¬k<ws.length:=(by simpa using hc0);omega
  subst hke;rw[List.take_of_length_le (Nat.le_refl _)];refine i6 ?_;simp only[zT,reduceIte,Nat.reduceEqDiff];refine hK1 _ _ ?_;refine b6 [2,7] (Or.inr (by simp)) ?_;simp only[zP,Nat.reduceEqDiff,reduceIte];refine p9 (o1 (D5 (T':=[(2,lL l),(7, .ptr 0 0 0)]) (H':=[hMa g s.Feeds (A3 s.Wires ws),some (.els 1 (s.Feeds.map i9))]) [some 2,some 0] rfl ⟨.inr (by simp), .inr (by simp),trivial⟩ (by simp[htw,hol])) (by simp)) ?_
  ·refine gS fun K hK=>?_;simp -dsimp;refine d5 _ (hlg) (by simp) ?_;simp -dsimp;refine k9 [0] [1] [some 0,none,some 1,some 2,some 3,some 4] (hst) (by decide) rfl (by simp) (by simp) rfl (by simp) ?_;simp -dsimp;apply hK;clear hK K;exact j6 (by simp[a5c,C2,n6])
theorem a6l (g:Gr) (s:Sta) (l:List Ld) (hnt:o7 g s) (h:C4 g s.Wires l) (hne:s.Feeds≠[]) (hwe:s.Wires=[]):
  d6 Try.prog 60 [net g s,iL [],lL l] (Bo (rlB g s [] l)):=by
 have hlg:=X5 g ⟨s.Feeds,s.Wires⟩ hnt (h.few _);rw[a1U h]at hlg;have hbd:=t9 hnt.gr;have hsf:=hnt.sf;have hsw:=hnt.sw;have hst:=a2k g s.Wires l s.Feeds h hsf _ rfl;have hrl:rlB g s [] l=decide ((D1 g s.Wires l s.Feeds).cuts.length=0):=rfl;generalize D1 g s.Wires l s.Feeds=Z at hst hrl;rw[hrl];refine d6.of_bodyG Try.func60 rfl (by decide) (by simp[Try.ntmps60]) ?_;intro J hJ;simp only[Try.ntmps60,Try.results60];refine gS fun K hK=>?_;simp -dsimp;apply hK;clear hK K;refine w9 l9 rfl (by decide) rfl rfl fun K hK=>?_;simp -dsimp;refine L6 (c0y s.Feeds hne (by omega)) ?_;simp -dsimp;refine d5 _ (B6 s.Wires (by omega)) (by simp) ?_;simp -dsimp;refine hK _ _ _ (by decide+kernel) ?_;clear hK K;refine b9 fun K1 hK1=>?_;refine gS fun K hK=>?_;simp -dsimp;apply hK;clear hK K;refine d7 ?_;refine b6 [2,7,29,30,31] (Or.inr (by simp)) ?_;simp only[zP,Nat.reduceEqDiff,reduceIte];refine g9 [2,7,29,30] (α:=Nat) (fun k=>[(31,I 0)]) (fun k=>[some (.els 1 (s.Feeds.map i9)),some (.els 6 [[I g.Nodes, .lst 4 (g.Wires.map Wr.cells), .lst 4 (g.Feeds.map Fd.cells),I g.Least, .row 0 0 s.Feeds.length,bL s.Wires]])]) (fun k=>True) (fun k=>0) 0 ?_ ?_ ?_
 ·trivial
 ·exact o1 (e9 [some 0,some 1] rfl (by simp) (by simp)) (by simp)
 rintro k k1;simp only[zP,Nat.reduceEqDiff,reduceIte];refine gS fun K hK=>?_;simp -dsimp;apply hK;clear hK K;refine b9 fun K2 hK2=>?_;refine d9 rfl (fun hc0=>?_) (fun hc0=>?_)
 ·simp at hc0
 ·refine i6 ?_;simp only[zT,reduceIte,Nat.reduceEqDiff];refine hK1 _ _ ?_;refine b6 [2,7] (Or.inr (by simp)) ?_;simp only[zP,Nat.reduceEqDiff,reduceIte];refine p9 (o1 (e9 (T':=[(2,lL l),(7, .ptr 0 0 0)]) (H':=[hMa g s.Feeds s.Wires,some (.els 1 (s.Feeds.map i9))]) [some 1,some 0] rfl (by simp) (by simp)) (by simp)) ?_
  ·refine gS fun K hK=>?_;simp -dsimp;refine d5 _ (hlg) (by simp) ?_;simp -dsimp;refine k9 [0] [1] [some 0,none,some 1,some 2,some 3,some 4] (hst) (by decide) rfl (by simp) (by simp) rfl (by simp) ?_;simp -dsimp;apply hK;clear hK K;exact j6 (by simp[a5c,C2,n6])
theorem a7l (g:Gr) (s:Sta) (ws:List Int) (l:List Ld) (hnt:o7 g s) (hw:∀w∈ws,0≤w∧w<s.Wires.length) (h:C4 g (A3 s.Wires ws) l) (hwl:ws.length≤1000) (hne:s.Feeds=[]) (hwn:s.Wires≠[]):
  d6 Try.prog 60 [net g s,iL ws,lL l] (Bo (rlB g s ws l)):=by
 have hol:=Q2 ws s.Wires;have hnt2:o7 g ⟨s.Feeds,A3 s.Wires ws⟩:=⟨hnt.gr,hnt.sf,by rw[hol];exact hnt.sw⟩;have hlg:=X5 g ⟨s.Feeds,A3 s.Wires ws⟩ hnt2 (h.few _);rw[a1U h]at hlg;have hbd:=t9 hnt.gr;have hsf:=hnt.sf;have hsw:=hnt.sw;change d6 _ _ [.iptr [I g.Nodes, .lst 4 (g.Wires.map Wr.cells), .lst 4 (g.Feeds.map Fd.cells),I g.Least,bL s.Feeds,bL (A3 s.Wires ws)]] _ at hlg;rw[hne]at hlg;have hst:=a6N g (A3 s.Wires ws) l s.Feeds h hsf hne _ rfl;have hrl:rlB g s ws l=decide ((D1 g (A3 s.Wires ws) l s.Feeds).cuts.length=0):=rfl;generalize D1 g (A3 s.Wires ws) l s.Feeds=Z at hst hrl;rw[hrl];have htw:List.take s.Wires.length ((A3 s.Wires ws).map i9)=(A3 s.Wires ws).map i9:=List.take_of_length_le (by simp;omega);refine d6.of_bodyG Try.func60 rfl (by decide) (by simp[Try.ntmps60]) ?_;intro J hJ;simp only[Try.ntmps60,Try.results60];refine gS fun K hK=>?_;simp -dsimp;apply hK;clear hK K;refine w9 l9 rfl (by decide) rfl rfl fun K hK=>?_;simp -dsimp;refine d5 _ (B6 s.Feeds (by omega)) (by simp) ?_;simp -dsimp;refine L6 (c0y s.Wires hwn (by omega)) ?_;simp -dsimp;refine hK _ _ _ (by decide+kernel) ?_;clear hK K;refine b9 fun K1 hK1=>?_;refine gS fun K hK=>?_;simp -dsimp;apply hK;clear hK K;refine d7 ?_;refine b6 [2,7,29,30,31] (Or.inr (by simp)) ?_;simp only[zP,Nat.reduceEqDiff,reduceIte];refine g9 [2,7,29,30] (α:=Nat) (fun k=>[(31,I k)]) (fun k=>[some (.els 1 ((A3 s.Wires (ws.take k)).map i9)),some (.els 6 [[I g.Nodes, .lst 4 (g.Wires.map Wr.cells), .lst 4 (g.Feeds.map Fd.cells),I g.Least,bL s.Feeds, .row 0 0 s.Wires.length]])]) (fun k=>k≤ws.length) (fun k=>ws.length-k) 0 ?_ ?_ ?_
 ·exact Nat.zero_le _
 ·exact o1 (e9 [some 0,some 1] rfl (by simp) (by simp[A3])) (by simp)
 rintro k k1;simp only[zP,Nat.reduceEqDiff,reduceIte];refine gS fun K hK=>?_;simp -dsimp;apply hK;clear hK K;refine b9 fun K2 hK2=>?_;refine d9 rfl (fun hc0=>?_) (fun hc0=>?_)
 ·have hkl:k<ws.length:=by simpa using hc0
  have wk:=zW k (by omega);obtain⟨w,hwk⟩:∃w,ws[k]?=some w:=⟨_,List.getElem?_eq_getElem hkl⟩;obtain⟨hw0,hw1⟩:=hw w (List.mem_of_getElem? hwk);have hos:=a3G (wi:=s.Wires) hwk;have hok:=Q2 (ws.take k) s.Wires;obtain⟨wn,rfl⟩:∃wn:Nat,w=wn:=⟨w.toNat,by omega⟩;rw[Int.toNat_natCast]at hos;refine f6 ?_;simp only[zT,reduceIte,Nat.reduceEqDiff];refine hK2 _ _ ?_;refine b6 [2,7,29,30,31] (Or.inr (by simp)) ?_;simp only[zP,Nat.reduceEqDiff,reduceIte];refine b9 fun K3 hK3=>?_;refine d7 ?_;refine gS fun K hK=>?_;simp -dsimp [hwk];apply hK;clear hK K;refine gR fun K hK=>?_;simp -dsimp [hok,(by omega:wn<s.Wires.length)];apply hK;clear hK K;simp only[zT,reduceIte,Nat.reduceEqDiff];refine hK3 _ _ ?_;refine b6 [2,7,29,30,31] (Or.inr (by simp)) ?_;simp only[zP,Nat.reduceEqDiff,reduceIte];refine gR fun K hK=>?_;simp -dsimp [wk];apply hK;clear hK K;simp only[zT,reduceIte,Nat.reduceEqDiff];exact⟨k+1,by omega,by omega,o1 (e9 [some 0,some 1] rfl (by simp) (by simp[hos,List.map_set])) (by simp)⟩
 ·have hke:k=ws.length:=by have hn:¬k<ws.length:=(by simpa using hc0);omega
  subst hke;rw[List.take_of_length_le (Nat.le_refl _)];refine i6 ?_;simp only[zT,reduceIte,Nat.reduceEqDiff];refine hK1 _ _ ?_;refine b6 [2,7] (Or.inr (by simp)) ?_;simp only[zP,Nat.reduceEqDiff,reduceIte];refine p9 (o1 (D5 (T':=[(2,lL l),(7, .ptr 0 0 0)]) (H':=[hMb g s.Feeds (A3 s.Wires ws)]) [some 1] rfl ⟨.inr (by simp), .inr (by simp),trivial⟩ (by simp[htw,hol,hne])) (by simp)) ?_
  ·refine gS fun K hK=>?_;simp -dsimp;refine d5 _ (hlg) (by simp) ?_;simp -dsimp;refine k9 [0] [] [some 0,some 1,some 2,some 3] (hst) (by decide) rfl (by simp) (by simp) rfl (by simp) ?_;simp -dsimp;apply hK;clear hK K;exact j6 (by simp[a5c,C2,n6])
theorem a6m (g:Gr) (s:Sta) (l:List Ld) (hnt:o7 g s) (h:C4 g s.Wires l) (hne:s.Feeds=[]) (hwe:s.Wires=[]):
  d6 Try.prog 60 [net g s,iL [],lL l] (Bo (rlB g s [] l)):=by
 have hlg:=X5 g ⟨s.Feeds,s.Wires⟩ hnt (h.few _);rw[a1U h]at hlg;have hbd:=t9 hnt.gr;have hsf:=hnt.sf;have hsw:=hnt.sw;change d6 _ _ [.iptr [I g.Nodes, .lst 4 (g.Wires.map Wr.cells), .lst 4 (g.Feeds.map Fd.cells),I g.Least,bL s.Feeds,bL s.Wires]] _ at hlg;rw[hne]at hlg;have hst:=a6N g s.Wires l s.Feeds h hsf hne _ rfl;have hrl:rlB g s [] l=decide ((D1 g s.Wires l s.Feeds).cuts.length=0):=rfl;generalize D1 g s.Wires l s.Feeds=Z at hst hrl;rw[hrl];refine d6.of_bodyG Try.func60 rfl (by decide) (by simp[Try.ntmps60]) ?_;intro J hJ;simp only[Try.ntmps60,Try.results60];refine gS fun K hK=>?_;simp -dsimp;apply hK;clear hK K;refine w9 l9 rfl (by decide) rfl rfl fun K hK=>?_;simp -dsimp;refine d5 _ (B6 s.Feeds (by omega)) (by simp) ?_;simp -dsimp;refine d5 _ (B6 s.Wires (by omega)) (by simp) ?_;simp -dsimp;refine hK _ _ _ (by decide+kernel) ?_;clear hK K;refine b9 fun K1 hK1=>?_;refine gS fun K hK=>?_;simp -dsimp;apply hK;clear hK K;refine d7 ?_;refine b6 [2,7,29,30,31] (Or.inr (by simp)) ?_;simp only[zP,Nat.reduceEqDiff,reduceIte];refine g9 [2,7,29,30] (α:=Nat) (fun k=>[(31,I 0)]) (fun k=>[some (.els 6 [[I g.Nodes, .lst 4 (g.Wires.map Wr.cells), .lst 4 (g.Feeds.map Fd.cells),I g.Least,bL s.Feeds,bL s.Wires]])]) (fun k=>True) (fun k=>0) 0 ?_ ?_ ?_
 ·trivial
 ·exact o1 (e9 [some 0] rfl (by simp) (by simp)) (by simp)
 rintro k k1;simp only[zP,Nat.reduceEqDiff,reduceIte];refine gS fun K hK=>?_;simp -dsimp;apply hK;clear hK K;refine b9 fun K2 hK2=>?_;refine d9 rfl (fun hc0=>?_) (fun hc0=>?_)
 ·simp at hc0
 ·refine i6 ?_;simp only[zT,reduceIte,Nat.reduceEqDiff];refine hK1 _ _ ?_;refine b6 [2,7] (Or.inr (by simp)) ?_;simp only[zP,Nat.reduceEqDiff,reduceIte];refine p9 (o1 (e9 (T':=[(2,lL l),(7, .ptr 0 0 0)]) (H':=[hMb g s.Feeds s.Wires]) [some 0] rfl (by simp) (by simp[hne])) (by simp)) ?_
  ·refine gS fun K hK=>?_;simp -dsimp;refine d5 _ (hlg) (by simp) ?_;simp -dsimp;refine k9 [0] [] [some 0,some 1,some 2,some 3] (hst) (by decide) rfl (by simp) (by simp) rfl (by simp) ?_;simp -dsimp;apply hK;clear hK K;exact j6 (by simp[a5c,C2,n6])
end Go.Cur
end
