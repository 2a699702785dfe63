import Derived.Test.YtibddmpaklcleaaM4
import Derived.Lib.Mul64
set_option maxRecDepth 100000
set_option maxHeartbeats 8000000
set_option linter.unusedVariables false
set_option linter.unusedSimpArgs false
section
namespace Go.Cur
open Go.AM Go.Proofs
theorem a9C (x:Int):∀l,(ins x l).Perm (x::l)
 |[]=>List.Perm.refl _
 |y::l=>by
  simp only[ins]
  split
  ·exact List.Perm.refl _
  ·exact((a9C x l).cons y).trans (List.Perm.swap x y l)
theorem b6h (l:List Int):(srt l).Perm l:=by
 have gen:∀(l s:List Int),(l.foldl (fun s x=>ins x s) s).Perm (s++l):=by
  intro l
  induction l with
  |nil=>intro s;simp
  |cons x l ih=>
   intro s;rw[List.foldl_cons];refine(ih (ins x s)).trans ?_;refine((a9C x s).append_right l).trans ?_;exact(List.perm_middle (l₁:=s) (l₂:=l) (a:=x)).symm
 have:=gen l [];simpa [srt]using this
theorem c1M {l m:List Int} (hm:m.Pairwise (· ≤ ·)) (h:l.Perm m):srt l=m:=
 List.Perm.eq_of_pairwise (fun a b _ _ h1 h2=>Int.le_antisymm h1 h2) (a3N l) hm ((b6h l).trans h)
abbrev a2T (g:Gr) (s:Sta):List (Nat×Nat):=T7 (onW g.Wires s.Wires)
def l8 (g:Gr) (s:Sta):List (List Nat):=b4W (a2T g s) g.Nodes.toNat
def pAV (p:List Nat):List AV:=[iL (upN p)]
theorem a8s (l:List (List Nat)):∀z∈l.map pAV,z.length=1:=by
 intro z hz;obtain⟨q,_,rfl⟩:=List.mem_map.1 hz
 rfl
theorem b1v {g:Gr} {s:Sta} (h:o8 g s):OkW (onW g.Wires s.Wires) g.Nodes.toNat:=fun w hw=>by
 obtain⟨w',hw',rfl⟩:=a0f hw;have:=h.wires w' hw';simp only[wrB,Bool.and_eq_true,v9,Bool.not_eq_true',decide_eq_false_iff_not]at this;have hn:=(r7 h.gr).1;refine⟨?_,?_,?_,?_⟩<;>simp only<;>omega
theorem a0l {g:Gr} {s:Sta} (h:o8 g s):∀e∈a2T g s,e.1<g.Nodes.toNat∧e.2<g.Nodes.toNat:=a1R (b1v h)
def b5i (E:List (Nat×Nat)) (n k:Nat) (part:List Nat) (j:Nat):Bool:=decide (nm E n j<k)||decide (j∈part)
def a1o (E:List (Nat×Nat)) (n k:Nat) (part:List Nat):List Bool:=(List.range n).map (b5i E n k part)
theorem a5l (E:List (Nat×Nat)) (n k:Nat) (part:List Nat):(a1o E n k part).length=n:=by simp[a1o]
theorem X7 {E:List (Nat×Nat)} {n k j:Nat} {part:List Nat} (h:j<n):(a1o E n k part)[j]?=some (b5i E n k part j):=by
 unfold a1o;rw[List.getElem?_map,List.getElem?_range h];rfl
theorem a9w {E:List (Nat×Nat)} {n k j:Nat} {part:List Nat}:(a1o E n k part).set j true=a1o E n k (part++[j]):=by
 refine List.ext_getElem? fun i=>?_
 by_cases hi:i<n
 ·rw[X7 hi]
  by_cases h:i=j
  ·subst h;rw[List.getElem?_set_self (by rw[a5l];exact hi)];simp[b5i]
  ·rw[List.getElem?_set_ne (fun e=>h e.symm),X7 hi];simp[b5i,h]
 ·rw[List.getElem?_eq_none (by simp[a1o];omega),List.getElem?_eq_none (by simp[a1o];omega)]
theorem b2Y (E:List (Nat×Nat)) (n:Nat):a1o E n 0 []=List.replicate n false:=by
 refine List.ext_getElem? fun i=>?_
 by_cases hi:i<n
 ·rw[X7 hi,List.getElem?_replicate,if_pos hi];simp[b5i]
 ·rw[List.getElem?_eq_none (by simp[a1o];omega),List.getElem?_eq_none (by simp;omega)]
theorem a6v {E:List (Nat×Nat)} {n k:Nat} {part:List Nat} (h:∀j,j<n→(j∈part↔nm E n j=k)):a1o E n k part=a1o E n (k+1) []:=by
 unfold a1o;refine List.map_congr_left fun j hj=>?_;have:=h j (List.mem_range.1 hj);unfold b5i;simp only[this,List.not_mem_nil,decide_false,Bool.or_false];rw[Bool.eq_iff_iff];simp only[Bool.or_eq_true,decide_eq_true_eq];omega
def A5 (E:List (Nat×Nat)) (n k:Nat):Nat:=((List.range k).filter fun i=>decide (nm E n i=i)).length
theorem a1h (E:List (Nat×Nat)) (n k:Nat):A5 E n (k+1)=A5 E n k+if nm E n k=k then 1 else 0:=by
 unfold A5;rw[List.range_succ,List.filter_append,List.length_append]
 by_cases h:nm E n k=k<;>simp[h]
theorem b6U {E:List (Nat×Nat)} {n k:Nat} (hk:k<n) (h:nm E n k=k):(P6 E n)[A5 E n k]?=some k:=by
 have:∀d,∃v,(List.range (k+1+d)).filter (fun i=>decide (nm E n i=i))=(List.range k).filter (fun i=>decide (nm E n i=i))++k::v:=by
  intro d
  induction d with
  |zero=>exact⟨[],by rw[Nat.add_zero,List.range_succ,List.filter_append];simp[h]⟩
  |succ d ih=>
   obtain⟨v,hv⟩:=ih;refine⟨v++if nm E n (k+1+d)=k+1+d then [k+1+d]else [],?_⟩;rw[←Nat.add_assoc,List.range_succ,List.filter_append,hv,List.append_assoc]
   by_cases hx:nm E n (k+1+d)=k+1+d<;>simp[hx]
 obtain⟨v,hv⟩:=this (n-(k+1));rw[show k+1+(n-(k+1))=n by omega]at hv;unfold P6 A5;rw[hv,List.getElem?_append_right (Nat.le_refl _),Nat.sub_self];rfl
structure b4J (E:List (Nat×Nat)) (n k:Nat) (part:List Nat) (i:Nat):Prop where
 nd:part.Nodup
 sub:∀x∈part,x∈cp E n k
 first:k∈part
 done:∀j x,j<i→part[j]?=some x→∀e∈E,(e.1=x→e.2∈part)∧(e.2=x→e.1∈part)
theorem b4J.all {E:List (Nat×Nat)} {n k:Nat} {part:List Nat} (h:b4J E n k part part.length) (hk:k∈P6 E n):∀x,x∈part↔x∈cp E n k:=by
 refine fun x=>⟨h.sub x,fun hx=>b6d hk h.first (fun e he=>?_) hx⟩;constructor
 ·intro h1;obtain⟨j,hj⟩:=List.getElem?_of_mem h1;exact(h.done j _ (List.getElem?_eq_some_iff.1 hj).1 hj e he).1 rfl
 ·intro h1;obtain⟨j,hj⟩:=List.getElem?_of_mem h1;exact(h.done j _ (List.getElem?_eq_some_iff.1 hj).1 hj e he).2 rfl
theorem b4J.more {E:List (Nat×Nat)} {n k i x:Nat} {part:List Nat} (h:b4J E n k part i) (hi:i≤part.length) (hx:x∈cp E n k) (hn:x∉part):b4J E n k (part++[x]) i:=by
 refine⟨?_,fun y hy=>?_,by simp[h.first],fun j y hj hy e he=>?_⟩
 ·rw[List.nodup_append];exact⟨h.nd,by simp,fun a ha b hb=>by simp at hb;subst hb;rintro rfl;exact hn ha⟩
 ·rcases List.mem_append.1 hy with hy|hy
  ·exact h.sub y hy
  ·simp at hy;subst hy;exact hx
 ·rw[List.getElem?_append_left (by omega)]at hy;obtain⟨h1,h2⟩:=h.done j y hj hy e he;exact⟨fun e=>by simp[h1 e],fun e=>by simp[h2 e]⟩
theorem b4J.len {E:List (Nat×Nat)} {n k i:Nat} {part:List Nat} (h:b4J E n k part i):part.length≤(cp E n k).length:=h.nd.length_le_of_subset h.sub
theorem b8J {E:List (Nat×Nat)} {n k:Nat}:(cp E n k).length≤n:=by
 have:=List.length_filter_le (fun j=>decide (nm E n j=k)) (List.range n);simpa [cp]using this
theorem b0E {p:List Nat} (h:p.Pairwise (· < ·)):(upN p).Pairwise (· ≤ ·):=by
 unfold upN;rw[List.pairwise_map];exact h.imp fun h=>by omega
theorem b4J.sorted {E:List (Nat×Nat)} {n k:Nat} {part:List Nat} (h:b4J E n k part part.length) (hk:k∈P6 E n):srt (upN part)=upN (cp E n k):=by
 refine c1M (b0E b4h) ?_;unfold upN;exact((List.perm_ext_iff_of_nodup h.nd I4).2 (h.all hk)).map _
theorem a9s (p:List Nat):List.take p.length ((upN p).map i9)=(upN p).map i9:=List.take_of_length_le (by simp[r9])
theorem a7B (cs:List AV):d5 Try.prog 66 [.iptr cs] (.clo 84 [.iptr [.iptr cs]]):=by
 refine d5.of_body Try.func66 rfl (by decide) (by simp[Try.ntmps66]) ?_;simp only[Try.ntmps66,Try.results66];refine aS fun K hK=>?_;simp -dsimp;apply hK;clear hK K;refine aS fun K hK=>?_;simp -dsimp;apply hK;clear hK K;exact g7 (by simp)
theorem b6N (g:Gr) (s:Sta) (hnt:o8 g s) (n:Nat) (hn:g.Nodes=n) (E:List (Nat×Nat)) (hE:E=a2T g s) (h12:∀k∈P6 E n,(cp E n k).length≤12) (xs:List (List AV)) (hx0:xs=((P6 E n).map (cp E n)).map pAV):O2 Try.prog 84 [.iptr [net g s]] xs:=by
 have hb:=r7 hnt.gr;have hEo:∀e∈E,e.1<n∧e.2<n:=by
  have:=a0l hnt;rw[←hE]at this;intro e he;have:=this e he;omega
 have f0:C7 n 2:=k9 (by omega) (by omega);have f1:C7 n 9:=k9 (by omega) (by omega);have hhl:xs.length=A5 E n n:=by rw[hx0,List.length_map,List.length_map];rfl
 refine O2.of_body Try.func84 rfl (by decide) (by simp[Try.ntmps84]) (by simp[Try.ntmps84]) (by simp[Try.results84]) ?_;intro J l hmk hY;simp only[Try.ntmps84,Try.results84];refine gS fun K hK=>?_;simp -dsimp [hn,f0];apply hK;clear hK K;refine gS fun K hK=>?_;simp -dsimp [hn];apply hK;clear hK K;refine d7 ?_;refine b7 [0,1,3,20,21,999999] (Or.inl (by decide)) ?_;simp only[zP,Nat.reduceEqDiff,reduceIte];refine g8 [0,1,3,20] (α:=Nat) (fun k=>[(21,I k),(999999,U3 (A5 E n k))]) (fun k=>[some (.els 1 ((a1o E n k []).map i8))]) (fun k=>k≤n) (fun k=>n-k) 0 ?_ ?_ ?_
 ·exact Nat.zero_le _
 ·exact m8 (e8 [some 0] rfl (by simp[A5]) (by simp[b2Y])) (by simp[A5])
 rintro k k1;simp only[zP,Nat.reduceEqDiff,reduceIte];refine gS fun K hK=>?_;simp -dsimp;apply hK;clear hK K;refine b9 fun K1 hK1=>?_;refine d8 rfl (fun hc0=>?_) (fun hc0=>?_)
 ·skip
  try simp at hc0
  have wk:=zW k (by omega);have gm:=X7 (E:=E) (n:=n) (k:=k) (part:=[]) hc0;have hms:a1o E n k [k]=(a1o E n k []).set k true:=(a9w (E:=E) (n:=n) (k:=k) (j:=k) (part:=[])).symm;have hml:=a5l E n k [];have hmb:b5i E n k [] k=decide (nm E n k<k):=by simp[b5i]
  refine e9 ?_;simp only[zT,reduceIte,Nat.reduceEqDiff];refine hK1 _ _ ?_;refine b7 [0,1,3,20,21,999999] (Or.inl (by decide)) ?_;simp only[zP,Nat.reduceEqDiff,reduceIte];refine b9 fun K2 hK2=>?_;refine d7 ?_;refine gS fun K hK=>?_;simp -dsimp;apply hK;clear hK K;refine b9 fun K3 hK3=>?_;refine gS fun K hK=>?_;simp -dsimp [gm,hc0,hmb];apply hK;clear hK K;refine d8 rfl (fun hc1=>?_) (fun hc1=>?_)
  ·skip
   try simp at hc1
   refine i6 ?_;simp only[zT,reduceIte,Nat.reduceEqDiff];refine hK2 _ _ ?_;refine b7 [0,1,3,20,21,999999] (Or.inl (by decide)) ?_;simp only[zP,Nat.reduceEqDiff,reduceIte];refine gR fun K hK=>?_;simp -dsimp [wk];apply hK;clear hK K;simp only[zT,reduceIte,Nat.reduceEqDiff];have hh:A5 E n (k+1)=A5 E n k:=by rw[a1h,if_neg (by omega)];rfl
   have hme:a1o E n k []=a1o E n (k+1) []:=a6v fun j hj=>by
    simp only[List.not_mem_nil,false_iff];intro e;have h2:=c1n hEo j;rw[e]at h2;omega
   exact⟨k+1,by omega,by omega,m8 (e8 [some 0] rfl (by simp[hh]) (by simp[hme])) (by simp[hh])⟩
  ·skip
   try simp at hc1
   have hnk:nm E n k=k:=by have:=b9l (E:=E) (n:=n) (k:=k);omega
   have hkh:k∈P6 E n:=W8.2 ⟨hc0,hnk⟩;refine e9 ?_;simp only[zT,reduceIte,Nat.reduceEqDiff];refine hK3 _ _ ?_;refine b7 [0,1,3,4,20,21,999999] (Or.inl (by decide)) ?_;simp only[zP,Nat.reduceEqDiff,reduceIte];refine gS fun K hK=>?_;simp -dsimp [hc0,hml];apply hK;clear hK K;refine S9 (by decide) ?_;refine gS fun K hK=>?_;simp -dsimp;apply hK;clear hK K;refine b9 fun K4 hK4=>?_;refine gS fun K hK=>?_;simp -dsimp;apply hK;clear hK K;refine d7 ?_;refine b7 [0,1,3,5,6,20,21,999999] (Or.inl (by decide)) ?_;simp only[zP,Nat.reduceEqDiff,reduceIte];refine g8 [0,1,3,20,21] (α:=Nat×List Nat) (fun x=>[(5, .row 1 0 x.2.length),(6,I x.1),(999999,U3 (A5 E n k))]) (fun x=>[some (.els 1 ((a1o E n k x.2).map i8)),some (.els 1 ((upN x.2).map i9))]) (fun x=>x.1≤x.2.length∧b4J E n k x.2 x.1) (fun x=>n-x.1) (0,[k]) ?_ ?_ ?_
   ·exact⟨Nat.zero_le _,⟨by simp,by simpa using a2E hkh,by simp,fun j x hj=>by omega⟩⟩
   ·refine m8 (e8 [some 0,some 1] rfl (by simp) ?_) (by simp);simp[hms,List.map_set,upN]
   rintro⟨i,part⟩ ⟨i1,i2⟩;simp only at i1 i2 ⊢;simp only[zP,Nat.reduceEqDiff,reduceIte];refine b9 fun K5 hK5=>?_;refine gS fun K hK=>?_;simp -dsimp;apply hK;clear hK K;refine d8 rfl (fun hc2=>?_) (fun hc2=>?_)
   ·have hil:i<part.length:=by simpa using hc2
    obtain⟨x,hx⟩:∃x,part[i]?=some x:=⟨_,List.getElem?_eq_getElem hil⟩;have hpn:part.length≤n:=Nat.le_trans i2.len b8J;have hxc:=i2.sub x (List.mem_of_getElem? hx);have hxn:x<n:=(B4.1 hxc).1;have wi:=zW i (by omega);refine e9 ?_;simp only[zT,reduceIte,Nat.reduceEqDiff];refine hK5 _ _ ?_;refine b7 [0,1,3,5,6,20,21,999999] (Or.inl (by decide)) ?_;simp only[zP,Nat.reduceEqDiff,reduceIte];refine b9 fun K6 hK6=>?_;refine d7 ?_;refine gS fun K hK=>?_;simp -dsimp;apply hK;clear hK K;refine d7 ?_;refine b7 [0,1,3,5,6,20,21,43,44,45,999999] (Or.inl (by decide)) ?_;simp only[zP,Nat.reduceEqDiff,reduceIte];refine g8 [0,1,3,6,20,21,43,44] (α:=Nat×List Nat) (fun y=>[(5, .row 1 0 y.2.length),(45,I y.1),(999999,U3 (A5 E n k))]) (fun y=>[some (.els 1 ((a1o E n k y.2).map i8)),some (.els 1 ((upN y.2).map i9))]) (fun y=>y.1≤g.Wires.length∧i<y.2.length∧b4J E n k y.2 i∧y.2[i]?=some x∧∀w∈onW (g.Wires.take y.1) (s.Wires.take y.1),(w.a=x→w.b∈y.2)∧(w.b=x→w.a∈y.2)) (fun y=>g.Wires.length-y.1) (0,part) ?_ ?_ ?_
    ·exact⟨Nat.zero_le _,hil,i2,hx,fun w hw=>by simp[onW]at hw⟩
    ·exact m8 (e8 [some 0,some 1] rfl (by simp) (by simp)) (by simp)
    rintro⟨q,pt⟩ ⟨j1,j2,j3,j4,j5⟩;simp only at j1 j2 j3 j4 j5 ⊢;simp only[zP,Nat.reduceEqDiff,reduceIte];refine gS fun K hK=>?_;simp -dsimp;apply hK;clear hK K;refine b9 fun K7 hK7=>?_;refine d8 rfl (fun hc3=>?_) (fun hc3=>?_)
    ·have hql:q<g.Wires.length:=by simpa using hc3
     obtain⟨w,hq⟩:∃w,g.Wires[q]?=some w:=⟨_,List.getElem?_eq_getElem hql⟩;have wq:=zW q (by omega);have hwb:=hnt.wires w (List.mem_of_getElem? hq);simp only[wrB,Bool.and_eq_true,v9,Bool.not_eq_true',decide_eq_false_iff_not]at hwb;obtain⟨⟨⟨hwA,hwB⟩,hAB⟩,hwS⟩:=hwb;have hsw:=hnt.sw;have gsw:=s7 (l:=s.Wires) (k:=q) (by omega);have hsn:=a5q hq gsw;obtain⟨a,ha⟩:∃a:Nat,w.A=a:=⟨w.A.toNat,by omega⟩;obtain⟨b,hb⟩:∃b:Nat,w.B=b:=⟨w.B.toNat,by omega⟩;obtain⟨wA,wB,wS,wSw⟩:=w;simp only at ha hb hwS hsn hwA hwB hAB;subst ha hb;simp only[Int.toNat_natCast]at hsn;have gx:=F1 j4;have hptn:pt.length≤n:=Nat.le_trans j3.len b8J;refine e9 ?_;simp only[zT,reduceIte,Nat.reduceEqDiff];refine hK7 _ _ ?_;refine b7 [0,1,3,5,6,20,21,43,44,45,999999] (Or.inl (by decide)) ?_;simp only[zP,Nat.reduceEqDiff,reduceIte];refine b9 fun K8 hK8=>?_;refine d7 ?_;refine gS fun K hK=>?_;simp -dsimp [hq];apply hK;clear hK K;refine b9 fun K9 hK9=>?_;refine s4 l6 rfl (by decide) rfl rfl fun K hK=>?_;simp -dsimp [gsw,gx,j2];refine hK _ _ _ (by decide+kernel) ?_;clear hK K;refine d8 rfl (fun hc4=>?_) (fun hc4=>?_)
     ·refine i6 ?_;simp only[zT,reduceIte,Nat.reduceEqDiff];refine hK8 _ _ ?_;refine b7 [0,1,3,5,6,20,21,43,44,45,999999] (Or.inl (by decide)) ?_;simp only[zP,Nat.reduceEqDiff,reduceIte];refine gR fun K hK=>?_;simp -dsimp [wq];apply hK;clear hK K;simp only[zT,reduceIte,Nat.reduceEqDiff];refine⟨(q+1,pt),⟨by simp only;omega,j2,j3,j4,fun w hw=>?_⟩,by simp only;omega,m8 (e8 [some 0,some 1] rfl (by simp) (by simp)) (by simp)⟩;rw[hsn]at hw
      rcases List.mem_append.1 hw with hw|hw
      ·exact j5 w hw
      ·cases hon:bAt s.Wires q with
       |false=>rw[hon]at hw;simp at hw
       |true=>
        rw[hon]at hw;simp only[if_true,List.mem_singleton]at hw;subst hw;simp[hon,bne,a7a]at hc4;simp only;exact⟨fun e=>absurd e (by omega),fun e=>absurd e (by omega)⟩
     ·have hon:bAt s.Wires q=true:=by cases h:bAt s.Wires q with|true=>rfl|false=>rw[h]at hc4;simp at hc4
      have hax:a=x∨b=x:=by
       rw[hon]at hc4;simp only[bne,a7a,Bool.not_true,Bool.false_or]at hc4
       rcases Decidable.em ((a:Int)=x)with h|h
       ·exact Or.inl (by omega)
       ·rcases Decidable.em ((b:Int)=x)with h2|h2
        ·exact Or.inr (by omega)
        ·simp[h,h2]at hc4
      obtain⟨o,ho⟩:∃o:Nat,o=if a=x then b else a:=⟨_,rfl⟩;have hmem:(⟨a,b,wS⟩:Wn)∈onW g.Wires s.Wires:=N8 (k:=q+1) (by rw[hsn,hon];simp);have hed:(a,b)∈E:=by rw[hE];exact List.mem_map.2 ⟨_,hmem,rfl⟩
      have hnab:=b1h hEo hed;have hbds:=hEo _ hed;simp only at hnab hbds;have hxk:nm E n x=k:=(B4.1 hxc).2;have hoc:o<n∧nm E n o=k:=by
       rcases hax with h|h
       ·subst h;rw[ho,if_pos rfl];exact⟨hbds.2,by rw[←hnab];exact hxk⟩
       ·by_cases h2:a=x
        ·rw[ho,if_pos h2,h];exact⟨hxn,hxk⟩
        ·subst h;rw[ho,if_neg h2];exact⟨hbds.1,by rw[hnab];exact hxk⟩
      have hoe:(a:Int)+b-x=o:=by
       rw[ho]
       split<;>omega
      have wab:IntKind.i64.wrap ((a:Int)+b)=(a:Int)+b:=i7 (by omega) (by omega);have wabx:IntKind.i64.wrap ((a:Int)+b-x)=o:=by rw[hoe];exact i7 (by omega) (by omega)
      have gmo:=X7 (E:=E) (n:=n) (k:=k) (part:=pt) hoc.1;have hmo:b5i E n k pt o=decide (o∈pt):=by unfold b5i;rw[decide_eq_false (by omega),Bool.false_or]
      have hj5:∀pt':List Nat,(∀y∈pt,y∈pt')→o∈pt'→∀w∈onW (g.Wires.take (q+1)) (s.Wires.take (q+1)),(w.a=x→w.b∈pt')∧(w.b=x→w.a∈pt'):=by
       intro pt' hsub hop w hw;rw[hsn,hon]at hw
       rcases List.mem_append.1 hw with hw|hw
       ·exact⟨fun e=>hsub _ ((j5 w hw).1 e),fun e=>hsub _ ((j5 w hw).2 e)⟩
       ·simp only[if_true,List.mem_singleton]at hw;subst hw;simp only;refine⟨fun e=>?_,fun e=>?_⟩
        ·rw[if_pos e]at ho;rw[←ho];exact hop
        ·rw[if_neg (by omega)]at ho;rw[←ho];exact hop
      have hmsl:=a5l E n k pt;have hms2:a1o E n k (pt++[o])=(a1o E n k pt).set o true:=a9w.symm;have hul:=r9 pt;have fpt:C7 (pt.length+1) 9:=k9 (by omega) (by omega);refine e9 ?_;simp only[zT,reduceIte,Nat.reduceEqDiff];refine hK9 _ _ ?_;refine b7 [0,1,3,5,6,8,20,21,43,44,45,999999] (Or.inl (by decide)) ?_;simp only[zP,Nat.reduceEqDiff,reduceIte];refine s4 l6 rfl (by decide) rfl rfl fun K hK=>?_;simp -dsimp [gx,j2,wab,wabx];refine hK _ _ _ (by decide+kernel) ?_;clear hK K;refine gS fun K hK=>?_;simp -dsimp [gmo,hmo,hoc.1];apply hK;clear hK K;refine d8 rfl (fun hc5=>?_) (fun hc5=>?_)
      ·refine gS fun K hK=>?_;simp -dsimp [hoc.1,hmsl,gmo];apply hK;clear hK K;refine gR fun K hK=>?_;simp -dsimp [fpt,hul];apply hK;clear hK K;simp only[zT,reduceIte,Nat.reduceEqDiff];refine hK8 _ _ ?_;refine b7 [0,1,3,5,6,20,21,43,44,45,999999] (Or.inl (by decide)) ?_;simp only[zP,Nat.reduceEqDiff,reduceIte];refine gR fun K hK=>?_;simp -dsimp [wq];apply hK;clear hK K;simp only[zT,reduceIte,Nat.reduceEqDiff];have hno:o∉pt:=by simpa using hc5
       have hup:upN (pt++[o])=upN pt++[(o:Int)]:=by simp[upN]
       refine⟨(q+1,pt++[o]),⟨by simp only;omega,by simp;omega,j3.more (by omega) (B4.2 hoc) hno,?_,hj5 _ (fun y hy=>by simp[hy]) (by simp)⟩,by simp only;omega,m8 (e8 [some 0,some 3] rfl (by simp) (by simp[hms2,hup,List.map_set,a9s])) (by simp)⟩;simp only;rw[List.getElem?_append_left j2];exact j4
      ·refine e9 ?_;simp only[zT,reduceIte,Nat.reduceEqDiff];refine hK8 _ _ ?_;refine b7 [0,1,3,5,6,20,21,43,44,45,999999] (Or.inl (by decide)) ?_;simp only[zP,Nat.reduceEqDiff,reduceIte];refine gR fun K hK=>?_;simp -dsimp [wq];apply hK;clear hK K;simp only[zT,reduceIte,Nat.reduceEqDiff];have hno:o∈pt:=by simpa using hc5
       exact⟨(q+1,pt),⟨by simp only;omega,j2,j3,j4,hj5 _ (fun y hy=>hy) hno⟩,by simp only;omega,m8 (e8 [some 0,some 1] rfl (by simp) (by simp)) (by simp)⟩
    ·have hqe:¬q<g.Wires.length:=by simpa using hc3
     have hsw:=hnt.sw;have ht1:g.Wires.take q=g.Wires:=List.take_of_length_le (by omega);have ht2:s.Wires.take q=s.Wires:=List.take_of_length_le (by omega);rw[ht1,ht2]at j5;refine i6 ?_;simp only[zT,reduceIte,Nat.reduceEqDiff];refine hK6 _ _ ?_;refine b7 [0,1,3,5,6,20,21,999999] (Or.inl (by decide)) ?_;simp only[zP,Nat.reduceEqDiff,reduceIte];refine gR fun K hK=>?_;simp -dsimp [wi];apply hK;clear hK K;simp only[zT,reduceIte,Nat.reduceEqDiff];have hptn:pt.length≤n:=Nat.le_trans j3.len b8J;refine⟨(i+1,pt),⟨by simp only;omega,j3.nd,j3.sub,j3.first,fun j y hj hy e he=>?_⟩,by simp only;omega,m8 (e8 [some 0,some 1] rfl (by simp) (by simp)) (by simp)⟩
     rcases Nat.lt_succ_iff_lt_or_eq.1 hj with h|h
     ·exact j3.done j y h hy e he
     ·subst h;rw[j4]at hy;simp only[Option.some.injEq]at hy;subst hy;rw[hE]at he;obtain⟨w,hw,rfl⟩:=List.mem_map.1 he;exact j5 w hw
   ·have hil:¬i<part.length:=by simpa using hc2
    have hie:i=part.length:=by omega
    rw[hie]at i2;have hpl12:part.length≤12:=Nat.le_trans i2.len (h12 k hkh);have hp1:1≤part.length:=List.length_pos_of_mem i2.first
    have hsort:=c2s (upN part) (by rw[r9];exact hp1) (by rw[r9];exact hpl12);rw[i2.sorted hkh,r9]at hsort;have hcl:(cp E n k).length=part.length:=((List.perm_ext_iff_of_nodup i2.nd I4).2 (i2.all hkh)).length_eq.symm;have hmn:a1o E n k part=a1o E n (k+1) []:=a6v fun j hj=>by rw[i2.all hkh];exact⟨fun h=>(B4.1 h).2,fun h=>B4.2 ⟨hj,h⟩⟩
    rw[hmn];have hxs:xs[A5 E n k]?=some [iL (upN (cp E n k))]:=by rw[hx0,List.getElem?_map,List.getElem?_map,b6U hc0 hnk];rfl
    refine i6 ?_;simp only[zT,reduceIte,Nat.reduceEqDiff];refine hK4 _ _ ?_;refine b7 [0,1,3,5,20,21,999999] (Or.inl (by decide)) ?_;simp only[zP,Nat.reduceEqDiff,reduceIte];refine gS fun K hK=>?_;simp -dsimp;refine k8 [1] [] [none,some 0] (hsort) (by decide) rfl (by simp) (by simp) rfl (by simp) ?_;simp -dsimp;apply hK;clear hK K;refine o9 (m8 (B5 (T':=[(0, .v (.func (.yield l) #[] #[])),(1, .iptr [net g s]),(3, .row 0 0 n),(5,iL (upN (cp E n k))),(20,I n),(21,I k),(999999,U3 (A5 E n k))]) (H':=[some (.els 1 ((a1o E n (k+1) []).map i8))]) [some 0] rfl ⟨.inr (by simp), .inr (by simp), .inr (by simp), .inr ?_, .inr (by simp), .inr (by simp), .inr (by simp[U3]),trivial⟩ (by simp)) (by simp)) ?_
    ·simp[←hcl,a9s,r9]
    ·refine c2g hmk hY rfl (by decide) rfl rfl fun K hK=>?_;simp -dsimp;refine b6S hxs ?_ ?_
     ·apply hK;clear hK K;refine d8 rfl (fun hc6=>?_) (fun hc6=>?_)
      ·simp at hc6
      ·refine e9 ?_;simp only[zT,reduceIte,Nat.reduceEqDiff];refine hK2 _ _ ?_;refine b7 [0,1,3,20,21,999999] (Or.inl (by decide)) ?_;simp only[zP,Nat.reduceEqDiff,reduceIte];refine gR fun K hK=>?_;simp -dsimp [wk];apply hK;clear hK K;simp only[zT,reduceIte,Nat.reduceEqDiff];have hh:A5 E n (k+1)=A5 E n k+1:=by rw[a1h,if_pos hnk]
       exact⟨k+1,by omega,by omega,m8 (e8 [some 0] rfl (by simp[hh]) (by simp)) (by simp[hh])⟩
     ·apply hK;clear hK K;refine d8 rfl (fun hc6=>?_) (fun hc6=>?_)
      ·exact k7 (by simp)
      ·simp at hc6
 ·skip
  try simp at hc0
  have hke:k=n:=by omega
  subst hke;refine i6 ?_
  try simp only[zT,reduceIte,Nat.reduceEqDiff]
  simp[hhl]
end Go.Cur
end
section
namespace Go.Cur
open Go.AM Go.Proofs
theorem a5n (l:List (List Nat)):(l.map pAV).all (fun e=>e.all E6)=true:=by simp[E6,pAV]
@[simp high] theorem b7H (l:List (List Nat)) (g:List (Option Nat)) (n:Nat):(l.map pAV).map (fun e=>e.map (n0 g n))=l.map pAV:=l7 (fun x h=>C1 h g n) (a5n l)
@[simp high] theorem b6a (l:List (List Nat)) (H:Nat→Option m5) (g:List (Option Nat)) (n:Nat):(l.map pAV).map (fun e=>e.map (R7 H g n))=l.map pAV:=l7 (fun x h=>z7 h H g n) (a5n l)
@[simp high] theorem b6F (l:List (List Nat)) (H:Hp) (n:Nat):(l.map pAV).map (fun e=>e.map (T8 H n))=l.map pAV:=l7 (fun x h=>z6 h H n) (a5n l)
def V4 (g:Gr) (s:Sta):Prop:=∀p∈l8 g s,p.length≤12
theorem b2Q (g:Gr) (s:Sta) (hnt:o8 g s) (h12:V4 g s):O2 Try.prog 84 [.iptr [net g s]] ((l8 g s).map pAV):=by
 have hb:=r7 hnt.gr;exact b6N g s hnt g.Nodes.toNat (by omega) _ rfl (fun k hk=>h12 _ (List.mem_map.2 ⟨k,hk,rfl⟩)) _ rfl
def G2 (g:Gr) (s:Sta):Bool:=(l8 g s).any fun p=>decide (10<p.length)
theorem a0X (g:Gr) (s:Sta) (hnt:o8 g s) (h12:V4 g s):d5 Try.prog 48 [net g s] (Bo (G2 g s)):=by
 have hit:=b2Q g s hnt h12;have hc:=a7B (ntC g (bL s.Feeds) (bL s.Wires));unfold G2;generalize l8 g s=L at hit;refine d5.of_bodyG Try.func48 rfl (by decide) (by simp[Try.ntmps48]) ?_;intro J hJ;simp only[Try.ntmps48,Try.results48];refine gS fun K hK=>?_;simp -dsimp;apply hK;clear hK K;refine b9 fun K1 hK1=>?_;refine gS fun K hK=>?_;simp -dsimp;refine d6 _ (hc) (by simp) ?_;simp -dsimp;apply hK;clear hK K;refine d7 ?_;refine b7 [2,5] (Or.inr (by simp)) ?_;simp only[zP,Nat.reduceEqDiff,reduceIte];refine V3 hJ [2,5] (fun _=>[some (.els 1 [[Bo false]])]) (fun n=>(L.take n).any (fun p=>decide (10<p.length))=false) rfl (hit) rfl (by simp) (by decide) (by decide) (by decide) (a8s L) ?_ ?_ ?_ ?_
 ·trivial
 ·exact j7 (by simp)
 ·intro n xv hxn hi l1 J1 hJ1;obtain⟨p,hp,rfl⟩:∃p,L[n]?=some p∧pAV p=xv:=by simpa using hxn
  have hpl:=r9 p;simp only[pAV];simp only[List.zip_cons_cons,List.zip_nil_left,List.zip_nil_right,List.cons_append,List.nil_append];refine gR fun K hK=>?_;simp -dsimp;apply hK;clear hK K;simp only[b0z];intro J2 hJ2;refine b7 [2,3,5] (Or.inr (by simp)) ?_;simp only[zP,Nat.reduceEqDiff,reduceIte];refine d7 ?_;refine gS fun K hK=>?_;simp -dsimp [hpl];apply hK;clear hK K;refine d8 rfl (fun hc0=>?_) (fun hc0=>?_)
  ·skip
   try simp at hc0
   have hany:L.any (fun p=>decide (10<p.length))=true:=List.any_eq_true.2 ⟨p,List.mem_of_getElem? hp,by simp;omega⟩;refine gS fun K hK=>?_;simp -dsimp;apply hK;clear hK K;exact k7 ⟨[some (.els 1 [[Bo true]])],e8 [some 0] rfl (by simp) (by simp),by simp[hany]⟩
  ·skip
   try simp at hc0
   refine e9 ?_;simp only[V8,D1,a3E,reduceIte,Nat.reduceEqDiff,eq_self];refine⟨?_,e8 [some 0] rfl (by simp) (by simp)⟩;rw[List.take_add_one,List.any_append,hi,hp];simp;omega
 ·intro hdone;simp only[zT,reduceIte,Nat.reduceEqDiff];refine hK1 _ _ ?_;refine b7 [2] (Or.inr (by simp)) ?_;simp only[zP,Nat.reduceEqDiff,reduceIte];refine gS fun K hK=>?_;simp -dsimp;apply hK;clear hK K;refine k7 ?_;rw[List.take_of_length_le (by simp)]at hdone;simp[hdone]
theorem d5.argR {P:Program} {f:FuncId} {args args':List AV} {res:AV} (h:d5 P f args' res) (hl:args.length=args'.length)
  (hr:∀(i:Nat) c c',args[i]?=some c→args'[i]?=some c'→∀(w:World) (S:Nat→Prop) (y:Value),q8 w S c y→q8 w S c' y):d5 P f args res:=by
 have key:∀{w:World} {S:Nat→Prop} {vs:List Value},(∀(i:Nat) c x,args[i]?=some c→vs[i]?=some x→q8 w S c x)→∀(i:Nat) c x,args'[i]?=some c→vs[i]?=some x→q8 w S c x:=by
  intro w S vs h i c x h1 h2;have hil:i<args.length:=by rw[hl];exact(List.getElem?_eq_some_iff.1 h1).1
  exact hr i _ c (List.getElem?_eq_getElem hil) h1 w S x (h i _ x (List.getElem?_eq_getElem hil) h2)
 rcases h with⟨h1,h2⟩|h2
 ·exact Or.inl ⟨h1,fun S0 w vs a b c=>h2 S0 w vs a (by rw[←hl];exact b) (key c)⟩
 ·exact Or.inr fun S0 w vs a b=>h2 S0 w vs (by rw[←hl];exact a) (key b)
theorem z9 {g:Gr} {s:Sta} {l:List Ld} (h:w9 g s l=true):o8 g s:=by
 simp only[w9,stB,Bool.and_eq_true,decide_eq_true_eq]at h;exact⟨h.1.1,h.1.2.1.1,h.1.2.1.2⟩
theorem L9 (g:Gr) (s:Sta):(l8 g s).length≤g.Nodes.toNat:=by
 unfold l8 b4W;rw[List.length_map];have:=List.length_filter_le (fun i=>decide (nm (a2T g s) g.Nodes.toNat i=i)) (List.range g.Nodes.toNat);simpa [P6]using this
end Go.Cur
end
section
namespace Go.Cur
open Go.AM Go.Proofs
theorem W0 (x lo hi:Int):d5 Try.prog 67 [I x,I lo,I hi] (Bo (inr x lo hi)):=by
 refine d5.of_body Try.func67 rfl (by decide) (by simp[Try.ntmps67]) ?_;simp only[Try.ntmps67,Try.results67];refine aS fun K hK=>?_;simp -dsimp;apply hK;clear hK K;refine aS fun K hK=>?_;simp -dsimp;apply hK;clear hK K;exact g7 (by simp[inr])
theorem c1P {x y:Fr} (h:x.Num=y.Num∧ik x.Den=ik y.Den):x=y:=by
 obtain⟨a,b⟩:=x;obtain⟨c,d⟩:=y;have h1:a=c:=h.1;have h2:b=d:=P1.1 h.2;rw[h1,h2]
theorem c2J {x y:Cu} (h:x.Kind=y.Kind∧x.Index=y.Index∧x.Value.Num=y.Value.Num∧ik x.Value.Den=ik y.Value.Den):x=y:=by
 obtain⟨a,b,v⟩:=x;obtain⟨c,d,w⟩:=y;have h1:a=c:=h.1;have h2:b=d:=h.2.1;have h3:v=w:=c1P h.2.2;rw[h1,h2,h3]
theorem a9Z (a b:List Int) (hb:b.length≤100000):d5 Try.prog 37 [iL a,iL b] (Bo (decide (a=b))):=by
 refine d5.of_body Try.func37 rfl (by decide) (by simp[Try.ntmps37]) ?_;simp only[Try.ntmps37,Try.results37];refine aS fun K hK=>?_;simp -dsimp;apply hK;clear hK K;refine d4 fun K1 hK1=>?_;refine aS fun K hK=>?_;simp -dsimp;apply hK;clear hK K;refine d9 rfl (fun hc0=>?_) (fun hc0=>?_)
 ·refine aS fun K hK=>?_;simp -dsimp;apply hK;clear hK K;have hne:a≠b:=by rintro rfl;simp at hc0
  exact g7 (by simp[hne])
 ·have hle:a.length=b.length:=by have:=(by simpa using hc0:(a.length:Int)=b.length);omega
  refine f6 ?_;simp only[zT,reduceIte,Nat.reduceEqDiff];refine hK1 _ _ ?_;refine b8 [0,1] ?_;simp only[zP,Nat.reduceEqDiff,reduceIte];refine d4 fun K2 hK2=>?_;refine aS fun K hK=>?_;simp -dsimp;apply hK;clear hK K;refine e7 ?_;refine b8 [0,1,5] ?_;simp only[zP,Nat.reduceEqDiff,reduceIte];refine g9 [0,1] (α:=Nat) (fun k=>[(5,I k)]) (fun k=>[]) (fun k=>k≤a.length∧a.take k=b.take k) (fun k=>a.length-k) 0 ?_ ?_ ?_
  ·exact⟨Nat.zero_le _,rfl⟩
  ·exact j7 (by simp)
  rintro k ⟨k1,k2⟩;simp only[zP,Nat.reduceEqDiff,reduceIte];refine d4 fun K3 hK3=>?_;refine aS fun K hK=>?_;simp -dsimp;apply hK;clear hK K;refine d9 rfl (fun hc1=>?_) (fun hc1=>?_)
  ·have hka:k<a.length:=by simpa using hc1
   have wk:=zW k (by omega);obtain⟨x,hx⟩:∃x,a[k]?=some x:=⟨_,List.getElem?_eq_getElem hka⟩;obtain⟨y,hy⟩:∃y,b[k]?=some y:=⟨_,List.getElem?_eq_getElem (by omega)⟩;refine f6 ?_;simp only[zT,reduceIte,Nat.reduceEqDiff];refine hK3 _ _ ?_;refine b8 [0,1,5] ?_;simp only[zP,Nat.reduceEqDiff,reduceIte];refine d4 fun K4 hK4=>?_;refine e7 ?_;refine v5 l6 rfl fun K hK=>?_;simp -dsimp [hx,hy];refine hK _ _ _ (by decide+kernel) ?_;clear hK K;refine d9 rfl (fun hc2=>?_) (fun hc2=>?_)
   ·refine aS fun K hK=>?_;simp -dsimp;apply hK;clear hK K;have hne:a≠b:=by
     rintro rfl;rw[hx]at hy;have:=Option.some.inj hy;subst this;simp at hc2
    exact g7 (by simp[hne])
   ·refine f6 ?_;simp only[zT,reduceIte,Nat.reduceEqDiff];refine hK4 _ _ ?_;refine b8 [0,1,5] ?_;simp only[zP,Nat.reduceEqDiff,reduceIte];refine aR fun K hK=>?_;simp -dsimp [wk];apply hK;clear hK K;simp only[zT,reduceIte,Nat.reduceEqDiff];have hxy:x=y:=by simpa using hc2
    exact⟨k+1,⟨by omega,by rw[List.take_add_one,List.take_add_one,hx,hy,k2,hxy]⟩,by omega,e8 [] rfl (by simp) (by simp)⟩
  ·have hka:¬k<a.length:=by simpa using hc1
   have e:a=b:=by have h1:=k2;rw[List.take_of_length_le (by omega),List.take_of_length_le (by omega)]at h1;exact h1
   refine j9 ?_;simp only[zT,reduceIte,Nat.reduceEqDiff];refine hK2 _ _ ?_;refine b8 [] ?_;simp only[zP,Nat.reduceEqDiff,reduceIte];refine aS fun K hK=>?_;simp -dsimp;apply hK;clear hK K;exact g7 (by simp[e])
theorem a0A (a b:List Fr) (hb:b.length≤100000):d5 Try.prog 21 [fL a,fL b] (Bo (decide (a=b))):=by
 refine d5.of_body Try.func21 rfl (by decide) (by simp[Try.ntmps21]) ?_;simp only[Try.ntmps21,Try.results21];refine aS fun K hK=>?_;simp -dsimp;apply hK;clear hK K;refine d4 fun K1 hK1=>?_;refine aS fun K hK=>?_;simp -dsimp;apply hK;clear hK K;refine d9 rfl (fun hc0=>?_) (fun hc0=>?_)
 ·refine aS fun K hK=>?_;simp -dsimp;apply hK;clear hK K;have hne:a≠b:=by rintro rfl;simp at hc0
  exact g7 (by simp[hne])
 ·have hle:a.length=b.length:=by have:=(by simpa using hc0:(a.length:Int)=b.length);omega
  refine f6 ?_;simp only[zT,reduceIte,Nat.reduceEqDiff];refine hK1 _ _ ?_;refine b8 [0,1] ?_;simp only[zP,Nat.reduceEqDiff,reduceIte];refine d4 fun K2 hK2=>?_;refine aS fun K hK=>?_;simp -dsimp;apply hK;clear hK K;refine e7 ?_;refine b8 [0,1,5] ?_;simp only[zP,Nat.reduceEqDiff,reduceIte];refine g9 [0,1] (α:=Nat) (fun k=>[(5,I k)]) (fun k=>[]) (fun k=>k≤a.length∧a.take k=b.take k) (fun k=>a.length-k) 0 ?_ ?_ ?_
  ·exact⟨Nat.zero_le _,rfl⟩
  ·exact j7 (by simp)
  rintro k ⟨k1,k2⟩;simp only[zP,Nat.reduceEqDiff,reduceIte];refine d4 fun K3 hK3=>?_;refine aS fun K hK=>?_;simp -dsimp;apply hK;clear hK K;refine d9 rfl (fun hc1=>?_) (fun hc1=>?_)
  ·have hka:k<a.length:=by simpa using hc1
   have wk:=zW k (by omega);obtain⟨x,hx⟩:∃x,a[k]?=some x:=⟨_,List.getElem?_eq_getElem hka⟩;obtain⟨y,hy⟩:∃y,b[k]?=some y:=⟨_,List.getElem?_eq_getElem (by omega)⟩;refine f6 ?_;simp only[zT,reduceIte,Nat.reduceEqDiff];refine hK3 _ _ ?_;refine b8 [0,1,5] ?_;simp only[zP,Nat.reduceEqDiff,reduceIte];refine d4 fun K4 hK4=>?_;refine e7 ?_;refine v5 l6 rfl fun K hK=>?_;simp -dsimp [hx,hy];refine hK _ _ _ (by decide+kernel) ?_;clear hK K;refine d9 rfl (fun hc2=>?_) (fun hc2=>?_)
   ·refine aS fun K hK=>?_;simp -dsimp;apply hK;clear hK K;have hne:a≠b:=by
     rintro rfl;rw[hx]at hy;have:=Option.some.inj hy;subst this;simp at hc2
    exact g7 (by simp[hne])
   ·refine f6 ?_;simp only[zT,reduceIte,Nat.reduceEqDiff];refine hK4 _ _ ?_;refine b8 [0,1,5] ?_;simp only[zP,Nat.reduceEqDiff,reduceIte];refine aR fun K hK=>?_;simp -dsimp [wk];apply hK;clear hK K;simp only[zT,reduceIte,Nat.reduceEqDiff];have hxy:x=y:=c1P (by simpa using hc2);exact⟨k+1,⟨by omega,by rw[List.take_add_one,List.take_add_one,hx,hy,k2,hxy]⟩,by omega,e8 [] rfl (by simp) (by simp)⟩
  ·have hka:¬k<a.length:=by simpa using hc1
   have e:a=b:=by have h1:=k2;rw[List.take_of_length_le (by omega),List.take_of_length_le (by omega)]at h1;exact h1
   refine j9 ?_;simp only[zT,reduceIte,Nat.reduceEqDiff];refine hK2 _ _ ?_;refine b8 [] ?_;simp only[zP,Nat.reduceEqDiff,reduceIte];refine aS fun K hK=>?_;simp -dsimp;apply hK;clear hK K;exact g7 (by simp[e])
theorem b3z (a b:List Cu) (hb:b.length≤100000):d5 Try.prog 56 [cL a,cL b] (Bo (decide (a=b))):=by
 refine d5.of_body Try.func56 rfl (by decide) (by simp[Try.ntmps56]) ?_;simp only[Try.ntmps56,Try.results56];refine aS fun K hK=>?_;simp -dsimp;apply hK;clear hK K;refine d4 fun K1 hK1=>?_;refine aS fun K hK=>?_;simp -dsimp;apply hK;clear hK K;refine d9 rfl (fun hc0=>?_) (fun hc0=>?_)
 ·refine aS fun K hK=>?_;simp -dsimp;apply hK;clear hK K;have hne:a≠b:=by rintro rfl;simp at hc0
  exact g7 (by simp[hne])
 ·have hle:a.length=b.length:=by have:=(by simpa using hc0:(a.length:Int)=b.length);omega
  refine f6 ?_;simp only[zT,reduceIte,Nat.reduceEqDiff];refine hK1 _ _ ?_;refine b8 [0,1] ?_;simp only[zP,Nat.reduceEqDiff,reduceIte];refine d4 fun K2 hK2=>?_;refine aS fun K hK=>?_;simp -dsimp;apply hK;clear hK K;refine e7 ?_;refine b8 [0,1,5] ?_;simp only[zP,Nat.reduceEqDiff,reduceIte];refine g9 [0,1] (α:=Nat) (fun k=>[(5,I k)]) (fun k=>[]) (fun k=>k≤a.length∧a.take k=b.take k) (fun k=>a.length-k) 0 ?_ ?_ ?_
  ·exact⟨Nat.zero_le _,rfl⟩
  ·exact j7 (by simp)
  rintro k ⟨k1,k2⟩;simp only[zP,Nat.reduceEqDiff,reduceIte];refine d4 fun K3 hK3=>?_;refine aS fun K hK=>?_;simp -dsimp;apply hK;clear hK K;refine d9 rfl (fun hc1=>?_) (fun hc1=>?_)
  ·have hka:k<a.length:=by simpa using hc1
   have wk:=zW k (by omega);obtain⟨x,hx⟩:∃x,a[k]?=some x:=⟨_,List.getElem?_eq_getElem hka⟩;obtain⟨y,hy⟩:∃y,b[k]?=some y:=⟨_,List.getElem?_eq_getElem (by omega)⟩;refine f6 ?_;simp only[zT,reduceIte,Nat.reduceEqDiff];refine hK3 _ _ ?_;refine b8 [0,1,5] ?_;simp only[zP,Nat.reduceEqDiff,reduceIte];refine d4 fun K4 hK4=>?_;refine e7 ?_;refine v5 l6 rfl fun K hK=>?_;simp -dsimp [hx,hy];refine hK _ _ _ (by decide+kernel) ?_;clear hK K;refine d9 rfl (fun hc2=>?_) (fun hc2=>?_)
   ·refine aS fun K hK=>?_;simp -dsimp;apply hK;clear hK K;have hne:a≠b:=by
     rintro rfl;rw[hx]at hy;have:=Option.some.inj hy;subst this;simp at hc2
    exact g7 (by simp[hne])
   ·refine f6 ?_;simp only[zT,reduceIte,Nat.reduceEqDiff];refine hK4 _ _ ?_;refine b8 [0,1,5] ?_;simp only[zP,Nat.reduceEqDiff,reduceIte];refine aR fun K hK=>?_;simp -dsimp [wk];apply hK;clear hK K;simp only[zT,reduceIte,Nat.reduceEqDiff];have hxy:x=y:=c2J (by simpa using hc2);exact⟨k+1,⟨by omega,by rw[List.take_add_one,List.take_add_one,hx,hy,k2,hxy]⟩,by omega,e8 [] rfl (by simp) (by simp)⟩
  ·have hka:¬k<a.length:=by simpa using hc1
   have e:a=b:=by have h1:=k2;rw[List.take_of_length_le (by omega),List.take_of_length_le (by omega)]at h1;exact h1
   refine j9 ?_;simp only[zT,reduceIte,Nat.reduceEqDiff];refine hK2 _ _ ?_;refine b8 [] ?_;simp only[zP,Nat.reduceEqDiff,reduceIte];refine aS fun K hK=>?_;simp -dsimp;apply hK;clear hK K;exact g7 (by simp[e])
end Go.Cur
end
section
namespace Go.Cur
open Go.AM Go.Proofs
structure a4y (g:Gr) (s:Sta) (us:Kvs) (p:List Nat) (v:List Int) (d:Int) (vf:Nat→Fr):Prop where
 call:d5 Try.prog 69 [net g s,iL (upN p), .mpc false [.i .i64] us] (.tup [iL v,I d,Bo true])
 len:v.length=p.length
 d0:0<d
 d1:d≤100000000000000
 nb:∀x∈v,-300000000000000000≤x∧x≤300000000000000000
 fr:∀i k,p[i]?=some k→vf k=red (at0 v (i:Nat)) d
theorem a6g {n d:Int} (hd:0<d):0<(red n d).Den∧(red n d).Den≤d∧(red n d).Num.natAbs≤n.natAbs:=by
 obtain⟨a,b,g,hg,e,ha,hb⟩:=a7Y (n:=n) hd;have ea':n/g=a:=by rw[ha];exact Int.mul_ediv_cancel_left _ (by omega)
 have eb':d/g=b:=by rw[hb];exact Int.mul_ediv_cancel_left _ (by omega)
 have hb0:0<b:=by
  refine Int.not_le.1 fun h=>?_;have:=Int.mul_nonpos_of_nonneg_of_nonpos (Int.le_of_lt hg) h;omega
 have hbd:b≤d:=by
  have:=Int.mul_le_mul_of_nonneg_right (show(1:Int)≤g by omega) (Int.le_of_lt hb0);omega
 have hna:a.natAbs≤n.natAbs:=by
  rw[ha,Int.natAbs_mul];exact Nat.le_mul_of_pos_left _ (by omega)
 unfold red;rw[e,ea',eb'];exact⟨hb0,hbd,hna⟩
def vlF (n:Nat) (vf:Nat→Fr) (done:List Nat):List Fr:=(List.range n).map fun k=>if k∈done then vf k else⟨0,0⟩
theorem a8L (n:Nat) (vf:Nat→Fr) (done:List Nat):(vlF n vf done).length=n:=by simp[vlF]
theorem a4F {n:Nat} {vf:Nat→Fr} {done:List Nat} {k:Nat} (h:k<n):(vlF n vf done)[k]?=some (if k∈done then vf k else⟨0,0⟩):=by
 unfold vlF;rw[List.getElem?_map,List.getElem?_range h];rfl
theorem b4o {n:Nat} {vf:Nat→Fr} {done:List Nat} {k:Nat}:(vlF n vf done).set k (vf k)=vlF n vf (done++[k]):=by
 refine List.ext_getElem? fun i=>?_
 by_cases hi:i<n
 ·rw[a4F hi]
  by_cases h:i=k
  ·subst h;rw[List.getElem?_set_self (by rw[a8L];exact hi)];simp
  ·rw[List.getElem?_set_ne (fun e=>h e.symm),a4F hi];simp[h]
 ·rw[List.getElem?_eq_none (by simp[vlF];omega),List.getElem?_eq_none (by simp[vlF];omega)]
theorem b3E (n:Nat) (vf:Nat→Fr):vlF n vf []=List.replicate n ⟨0,0⟩:=by
 unfold vlF;refine List.ext_getElem? fun i=>?_
 by_cases hi:i<n
 ·rw[List.getElem?_map,List.getElem?_range hi,List.getElem?_replicate,if_pos hi];simp
 ·rw[List.getElem?_eq_none (by simp;omega),List.getElem?_eq_none (by simp;omega)]
def vlA (n:Nat) (vf:Nat→Fr):List Fr:=(List.range n).map vf
theorem b3F {n:Nat} {vf:Nat→Fr} {done:List Nat} (h:∀k,k<n→k∈done):vlF n vf done=vlA n vf:=by
 unfold vlF vlA;exact List.map_congr_left fun k hk=>if_pos (h k (List.mem_range.1 hk))
theorem a4W {n:Nat} {vf:Nat→Fr} {k:Nat} (h:k<n):(vlA n vf)[k]?=some (vf k):=by
 unfold vlA;rw[List.getElem?_map,List.getElem?_range h];rfl
theorem G0 {g:Gr} {s:Sta} (hnt:o8 g s) {k:Nat} (hk:k<g.Nodes.toNat):k∈(l8 g s).flatten:=by
 rw[List.mem_flatten];exact⟨_,List.mem_map.2 ⟨_,b4j (a0l hnt) hk,rfl⟩,B4.2 ⟨hk,rfl⟩⟩
theorem Z3 {g:Gr} {s:Sta} {p:List Nat} (hp:p∈l8 g s) {k:Nat} (hk:k∈p):k<g.Nodes.toNat:=by
 obtain⟨i,_,rfl⟩:=List.mem_map.1 hp;exact(B4.1 hk).1
def ffF (g:Gr) (s:Sta) (vf:Nat→Fr) (i:Nat):Fr:=
 let f:=fdI g i
 let v:=vf f.At.toNat
 if bAt s.Feeds i=true∧0<f.Volts*v.Den-v.Num then red (f.Siem*(f.Volts*v.Den-v.Num)) v.Den else⟨0,1⟩
def flF (g:Gr) (s:Sta) (vf:Nat→Fr) (k:Nat):List Fr:=(List.range g.Feeds.length).map fun i=>if i<k then ffF g s vf i else⟨0,0⟩
theorem a7E {g:Gr} {s:Sta} {vf:Nat→Fr} {k i:Nat} (h:i<g.Feeds.length):(flF g s vf k)[i]?=some (if i<k then ffF g s vf i else⟨0,0⟩):=by
 unfold flF;rw[List.getElem?_map,List.getElem?_range h];rfl
theorem b3H (g:Gr) (s:Sta) (vf:Nat→Fr) (k:Nat):(flF g s vf k).length=g.Feeds.length:=by simp[flF]
theorem b9E {g:Gr} {s:Sta} {vf:Nat→Fr} {k:Nat}:(flF g s vf k).set k (ffF g s vf k)=flF g s vf (k+1):=by
 refine List.ext_getElem? fun i=>?_
 by_cases hi:i<g.Feeds.length
 ·rw[a7E hi]
  by_cases h:i=k
  ·subst h;rw[List.getElem?_set_self (by rw[b3H];exact hi)];simp
  ·rw[List.getElem?_set_ne (fun e=>h e.symm),a7E hi]
   by_cases h2:i<k
   ·rw[if_pos h2,if_pos (by omega)]
   ·rw[if_neg h2,if_neg (by omega)]
 ·rw[List.getElem?_eq_none (by simp[flF];omega),List.getElem?_eq_none (by simp[flF];omega)]
theorem b5k (g:Gr) (s:Sta) (vf:Nat→Fr):flF g s vf 0=List.replicate g.Feeds.length ⟨0,0⟩:=by
 unfold flF;refine List.ext_getElem? fun i=>?_
 by_cases hi:i<g.Feeds.length
 ·rw[List.getElem?_map,List.getElem?_range hi,List.getElem?_replicate,if_pos hi];simp
 ·rw[List.getElem?_eq_none (by simp;omega),List.getElem?_eq_none (by simp;omega)]
def flA (g:Gr) (s:Sta) (vf:Nat→Fr):List Fr:=(List.range g.Feeds.length).map (ffF g s vf)
theorem c0x (g:Gr) (s:Sta) (vf:Nat→Fr):flF g s vf g.Feeds.length=flA g s vf:=by
 unfold flF flA;exact List.map_congr_left fun k hk=>if_pos (List.mem_range.1 hk)
end Go.Cur
end
section
namespace Go.Cur
open Go.AM Go.Proofs
abbrev a9v (l:List Ld):List Bool:=List.replicate l.length true
end Go.Cur
end
section
namespace Go.Cur
open Go.AM Go.Proofs
theorem C8 {g:Gr} {s:Sta} {p:List Nat} (hp:p∈l8 g s):∃i,i∈P6 (a2T g s) g.Nodes.toNat∧p=cp (a2T g s) g.Nodes.toNat i:=by
 obtain⟨i,hi,rfl⟩:=List.mem_map.1 hp;exact⟨i,hi,rfl⟩
theorem a4u {g:Gr} {s:Sta} {p:List Nat} (hnt:o8 g s) (hp:p∈l8 g s) (h10:p.length≤10):b2P g s p:=by
 obtain⟨i,hi,rfl⟩:=C8 hp;refine⟨List.length_pos_of_mem (a2E hi),h10,I4,fun w hw=>?_⟩;have he:w.e∈a2T g s:=List.mem_map.2 ⟨w,hw,rfl⟩;have h1:=a0l hnt _ he;have h2:=b1h (a0l hnt) he;simp only[B4];unfold Wn.e at h1 h2;simp only at h1 h2;rw[h2];exact⟨fun h=>⟨h1.2,h.2⟩,fun h=>⟨h1.1,h.2⟩⟩
theorem a4J {g:Gr} {s:Sta} {us:Kvs} {p:List Nat} {fs:List Int} (hnt:o8 g s) (hp:p∈l8 g s) (hfs:fs=n8 g s (upN p)):(Pt g (onW g.Wires s.Wires) us p fs fs.length).Ok:=by
 obtain⟨i,hi,e⟩:=C8 hp;have h:=c1r (W:=onW g.Wires s.Wires) (n:=g.Nodes.toNat) (i:=i) (u:=fun x=>igt us x) (fs:=List.range fs.length) (p:=fun b=>(V6 g fs b).At.toNat) (s:=fun b=>(V6 g fs b).Siem) (V:=fun b=>(V6 g fs b).Volts) (b1v hnt)
  (fun b hb=>by have:=(H6 hnt hfs (List.mem_range.1 hb)).2.2.2.2.2.1;rw[e]at this;exact this)
  (fun b hb=>by have:=(H6 hnt hfs (List.mem_range.1 hb));show 0<(fdI g (at0 fs b)).Siem;omega)
 unfold prt at h;unfold Pt;rw[e];exact h
theorem b0s {g:Gr}:∀k,k≤g.Wires.length→a7X g k=true→∀x,deg (g.Wires.take k) x≤3
 |0,_,_,x=>by simp[deg]
 | k+1,hk,h,x=>by
  simp only[a7X,Bool.and_eq_true]at h;have ih:=b0s k (by omega) h.1 x;obtain⟨w,hw⟩:∃w,g.Wires[k]?=some w:=⟨_,List.getElem?_eq_getElem (by omega)⟩;have h2:=h.2;rw[hw]at h2;simp only[wrD,Bool.and_eq_true,decide_eq_true_eq]at h2;have e:g.Wires.take (k+1)=g.Wires.take k++[w]:=by rw[List.take_add_one,hw];rfl
  by_cases ha:w.A=x
  ·rw[←ha];exact h2.2.1
  ·by_cases hb:w.B=x
   ·rw[←hb];exact h2.2.2
   ·rw[e,S5];simp only[deg,if_neg ha,if_neg hb];omega
theorem b7v {g:Gr} (h:grB g=true) (x:Int):deg g.Wires x≤3:=by
 simp only[grB,Bool.and_eq_true]at h;have:=b0s g.Wires.length (Nat.le_refl _) h.1.2 x
 rwa [List.take_length]at this
theorem b7F {i:Nat}:∀{l:List Wr} {b:List Bool},(∀w∈l,0≤w.A∧0≤w.B)→(dg (onW l b) i:Int)≤deg l i
 |[],b,_=>by simp[onW,dg,deg]
 |w::l,[],h=>by
  have:=a6Z (i:Int) (w::l);simp only[onW,List.zip_nil_right,List.filterMap_nil,dg,List.filter_nil,List.length_nil];omega
 | w::l,c::b,h=>by
  have ih:=b7F (i:=i) (l:=l) (b:=b) fun w hw=>h w (by simp[hw]);have hw:=h w (by simp);have e:onW (w::l) (c::b)=(if c=true then [⟨w.A.toNat,w.B.toNat,w.Siem⟩]else [])++onW l b:=by
   cases c<;>simp[onW]
  rw[e];simp only[deg];unfold dg at ih ⊢;rw[List.filter_append,List.length_append];have h1:(((if c=true then [(⟨w.A.toNat,w.B.toNat,w.Siem⟩:Wn)]else []).filter fun w=>decide (w.a=i)||decide (w.b=i)).length:Int)≤(if w.A=(i:Int)then 1 else 0)+(if w.B=(i:Int)then 1 else 0):=by
   cases c
   ·simp only[Bool.false_eq_true,if_false,List.filter_nil,List.length_nil]
    split<;>split<;>omega
   ·simp only[if_true,List.filter_cons,List.filter_nil];have ha:decide (w.A.toNat=i)=decide (w.A=(i:Int)):=decide_eq_decide.2 (by omega);have hb:decide (w.B.toNat=i)=decide (w.B=(i:Int)):=decide_eq_decide.2 (by omega);rw[ha,hb]
    by_cases h1:w.A=(i:Int)<;>by_cases h2:w.B=(i:Int)<;>simp[h1,h2]
  omega
theorem c2j {g:Gr} {s:Sta} (hnt:o8 g s) (i:Nat):0≤lw (onW g.Wires s.Wires) i i∧lw (onW g.Wires s.Wires) i i≤12:=by
 have hw:=hnt.wires;have h1:=b3x (i:=i) (b1v hnt) fun w hw'=>by
  obtain⟨w0,h0,rfl⟩:=a0f hw';have:=hw w0 h0;simp only[wrB,Bool.and_eq_true,v9]at this;exact this.2.2
 have h2:=b7F (i:=i) (l:=g.Wires) (b:=s.Wires) fun w hw'=>by
  have:=hw w hw';simp only[wrB,Bool.and_eq_true,v9]at this;omega
 have h3:=b7v hnt.gr (i:Int);omega
theorem b8c {f:Nat→Nat} {g:Nat→Nat}:∀{l:List Nat},sa f (l.map g)=sa (fun i=>f (g i)) l
 |[]=>rfl
 |i::l=>by rw[List.map_cons,sa,sa,b8c]
theorem b2R (f:Nat→Nat) (p:List Nat):sa (fun j=>f (p.getD j 0)) (List.range p.length)=sa f p:=by
 conv=>rhs;rw[J7 (p:=p)]
 rw[b8c]
theorem a1N {p:List Nat} {i:Nat} (h:i<p.length):p.getD i 0∈p:=List.mem_of_getElem? (F4 h)
theorem c2N {A:Nat→Nat→Int} {p:List Nat} {R:Nat} (h:∀i∈p,sa (fun k=>(A i k).natAbs) p≤R):(D A p).natAbs≤R^p.length:=by
 rw[b3V];have:=a2d (a:=fun i k=>A (p.getD i 0) (p.getD k 0)) (R:=R) (rows:=List.range p.length) (cols:=List.range p.length) fun i hi=>by
  have:=b2R (fun k=>(A (p.getD i 0) k).natAbs) p;rw[this];exact h _ (a1N (List.mem_range.1 hi))
 rwa [List.length_range]at this
theorem b1R {A:Nat→Nat→Int} {b:Nat→Int} {p:List Nat} {R B:Nat} (hp:p.Nodup) (h:∀i∈p,sa (fun k=>(A i k).natAbs) p≤R) (hB:∀i∈p,(b i).natAbs≤B) (k:Nat):(num A b p k).natAbs≤R^p.length+bnd R B p.length:=by
 by_cases hk:k∈p
 ·obtain⟨j,hj⟩:=List.getElem?_of_mem hk;have hjl:=(List.getElem?_eq_some_iff.1 hj).1;have e:p.getD j 0=k:=by rw[List.getD_eq_getElem?_getD,hj];rfl
  rw [←e,a6w hp hjl];have:=a3P (a:=fun i c=>if c=j then b (p.getD i 0)else A (p.getD i 0) (p.getD c 0)) (R:=R) (B:=B) (k0:=j) (rows:=List.range p.length) (cols:=List.range p.length) List.nodup_range (List.mem_range.2 hjl)
   (fun i hi=>by simp only[if_true];exact hB _ (a1N (List.mem_range.1 hi))) (fun i hi=>by
    refine Nat.le_trans (a4w (g:=fun c=>(A (p.getD i 0) (p.getD c 0)).natAbs) fun c hc=>?_) ?_
    ·split
     ·exact Nat.zero_le _
     ·exact Nat.le_refl _
    ·have:=b2R (fun k=>(A (p.getD i 0) k).natAbs) p;rw[this];exact h _ (a1N (List.mem_range.1 hi)))
  rw[List.length_range]at this;omega
 ·have e:num A b p k=D A p:=by
   unfold num D
   congr 1
   exact List.map_congr_left fun j hj=>by
    funext i
    rw[if_neg];rintro rfl;exact hk hj
  rw[e];have:=c2N h;omega
theorem b0c (R:Nat):∀n,bnd R 0 n=0
 |0=>rfl
 |n+1=>by rw[bnd,b0c R n];simp
theorem b0i {R B:Nat} (hR:1≤R):∀{n m:Nat},n≤m→bnd R B n≤bnd R B m:=by
 intro n m h
 induction m with
 |zero=>rw[Nat.le_zero.1 h];exact Nat.le_refl _
 |succ m ih=>
  rcases Nat.lt_or_ge n (m+1)with h1|h1
  ·refine Nat.le_trans (ih (by omega)) ?_;rw[bnd];have:=Nat.mul_le_mul_right (bnd R B m) hR;omega
  ·rw[show n=m+1 by omega];exact Nat.le_refl _
theorem a8v {f:Nat→Nat} {i X:Nat}:∀{p:List Nat},p.Nodup→sa (fun k=>f k+if i=k then X else 0) p≤sa f p+X
 |[],_=>by simp[sa]
 | k::p,h=>by
  rw[List.nodup_cons]at h;have ih:=a8v (f:=f) (i:=i) (X:=X) h.2;rw[sa,sa]
  by_cases e:i=k
  ·have:sa (fun k=>f k+if i=k then X else 0) p≤sa f p:=a4w fun j hj=>by
    rw[if_neg]; · omega
    rintro rfl;exact h.1 (e▸hj)
   rw[if_pos e];omega
  ·rw[if_neg e];omega
section
variable {g:Gr} {s:Sta} {us:Kvs} {p:List Nat} {fs:List Int}
theorem c0T (hnt:o8 g s) (hp:p∈l8 g s) (hfs:fs=n8 g s (upN p)) {i:Nat} (hi:i∈p):sa (fun k=>(lw (onW g.Wires s.Wires) i k).natAbs) p≤24:=by
 have h:=b9c (a4J (us:=[]) hnt hp hfs) (i:=i) hi (c2j hnt i).1;have h2:=(c2j hnt i).2;change ((sa (fun k=>(lw (onW g.Wires s.Wires) i k).natAbs) p:Nat):Int)=2*lw (onW g.Wires s.Wires) i i at h;omega
theorem b2q (hnt:o8 g s) (hfs:fs=n8 g s (upN p)):fs.length≤12:=by
 have hb:=r7 hnt.gr;have:=List.length_filter_le (a1K g s (upN p)) (upI g.Feeds.length);rw[J3]at this;rw[hfs];unfold n8;omega
theorem a2F (hnt:o8 g s) (hp:p∈l8 g s) (h5:p.length≤5) (hfs:fs=n8 g s (upN p)) (hus:∀x,-40≤igt us x∧igt us x≤40) (S:Nat→Bool) (hS:∃b,b<fs.length∧S b=true):
  (∀k,((Pt g (onW g.Wires s.Wires) us p fs fs.length).num S k).natAbs≤7000000000000)∧0<(Pt g (onW g.Wires s.Wires) us p fs fs.length).den S∧(Pt g (onW g.Wires s.Wires) us p fs fs.length).den S≤2000000000:=by
 have ho:=a4J (us:=us) hnt hp hfs;have hf12:=b2q (p:=p) hnt hfs;have hat:∀{c:Nat→Int} {C:Int} {i:Nat},0≤C→(∀b,b<fs.length→0≤c b∧c b≤C)→0≤(Pt g (onW g.Wires s.Wires) us p fs fs.length).at_ S c i∧(Pt g (onW g.Wires s.Wires) us p fs fs.length).at_ S c i≤C*12:=by
  intro c C i hC h;have h1:=b2l (P:=Pt g (onW g.Wires s.Wires) us p fs fs.length) (S:=S) (c:=c) (i:=i) hC fun b hb=>h b (List.mem_range.1 hb);have h2:(Pt g (onW g.Wires s.Wires) us p fs fs.length).fs.length=fs.length:=List.length_range;rw[h2]at h1;exact⟨h1.1,Int.le_trans h1.2 (Int.mul_le_mul_of_nonneg_left (by omega) hC)⟩
 have hfa:=fun b (hb:b<fs.length)=>H6 hnt hfs hb;have hR:∀i∈p,sa (fun k=>((Pt g (onW g.Wires s.Wires) us p fs fs.length).A S i k).natAbs) p≤72:=by
  intro i hi;have h1:=c0T hnt hp hfs hi;have h2:=hat (c:=(Pt g (onW g.Wires s.Wires) us p fs fs.length).s) (C:=4) (i:=i) (by omega) fun b hb=>by
   have:=hfa b hb;show 0≤(fdI g (at0 fs b)).Siem∧(fdI g (at0 fs b)).Siem≤4;omega
  have h3:=a8v (f:=fun k=>(lw (onW g.Wires s.Wires) i k).natAbs) (i:=i) (X:=((Pt g (onW g.Wires s.Wires) us p fs fs.length).at_ S (Pt g (onW g.Wires s.Wires) us p fs fs.length).s i).natAbs) ho.nd;refine Nat.le_trans (a4w fun k _=>?_) (Nat.le_trans h3 ?_)
  ·unfold o6.A;show(lw (onW g.Wires s.Wires) i k+_).natAbs≤_
   split<;>omega
  ·show sa (fun k=>(lw (onW g.Wires s.Wires) i k).natAbs) p+_≤72;omega
 have hB:∀i∈p,((Pt g (onW g.Wires s.Wires) us p fs fs.length).b S i).natAbs≤48040:=by
  intro i hi;have h2:=hat (c:=fun b=>(Pt g (onW g.Wires s.Wires) us p fs fs.length).s b*(Pt g (onW g.Wires s.Wires) us p fs fs.length).V b) (C:=4000) (i:=i) (by omega) fun b hb=>by
   have h:=hfa b hb;show 0≤(fdI g (at0 fs b)).Siem*(fdI g (at0 fs b)).Volts∧(fdI g (at0 fs b)).Siem*(fdI g (at0 fs b)).Volts≤4000;exact⟨Int.mul_nonneg (by omega) (by omega),Int.mul_le_mul h.2.2.2.2.2.2.2.2.2 h.2.2.2.2.2.2.2.1 (by omega) (by omega)⟩
  have h3:=hus i;unfold o6.b;show(-igt us i+_).natAbs≤48040;omega
 have hpw:72^p.length≤72^5:=Nat.pow_le_pow_right (by omega) h5;have hbn:bnd 72 48040 p.length≤bnd 72 48040 5:=b0i (by omega) h5;have e5:bnd 72 48040 5≤6500000000000:=by decide
 have hpos:=J4 ho (S:=S) (by obtain⟨b,hb,h⟩:=hS;exact⟨b,List.mem_range.2 hb,h⟩);refine⟨fun k=>?_,hpos,?_⟩
 ·have:=b1R (b:=(Pt g (onW g.Wires s.Wires) us p fs fs.length).b S) ho.nd hR hB k;change ((Pt g (onW g.Wires s.Wires) us p fs fs.length).num S k).natAbs≤_ at this;change _≤72^p.length+bnd 72 48040 p.length at this;omega
 ·have:=c2N hR;change ((Pt g (onW g.Wires s.Wires) us p fs fs.length).den S).natAbs≤_ at this;omega
theorem a4Y (hnt:o8 g s) (hp:p∈l8 g s) (h5:p.length≤5) (hfs:fs=n8 g s (upN p)) (hus:∀x,-40≤igt us x∧igt us x≤40) (S:Nat→Bool) (hS:∃b,b<fs.length∧S b=true):Sml (Pt g (onW g.Wires s.Wires) us p fs fs.length) S:=by
 obtain⟨a,b,c⟩:=a2F (us:=us) hnt hp h5 hfs hus S hS;exact⟨fun k=>by have:=a k;omega,b,by omega⟩
theorem a3F (hnt:o8 g s) (hp:p∈l8 g s) (h5:p.length≤5∨(p.length≤10∧∀x,igt us x=0)) (hfs:fs=n8 g s (upN p)) (hus:∀x,-40≤igt us x∧igt us x≤40) (i0:Nat) (hi0:p.getD 0 0=i0):
  c1J (Pt g (onW g.Wires s.Wires) us p fs fs.length) i0∧(p.length≤5→(∀k,((Pt g (onW g.Wires s.Wires) us p fs fs.length).num0 i0 k).natAbs≤1000000000)∧(Pt g (onW g.Wires s.Wires) us p fs fs.length).den0 i0≤10000000):=by
 have ho:=a4J (us:=us) hnt hp hfs;have hR:∀i∈p,sa (fun k=>((Pt g (onW g.Wires s.Wires) us p fs fs.length).A0 i0 i k).natAbs) p≤24:=by
  intro i hi;unfold o6.A0
  by_cases h:i=i0
  ·simp only[if_pos h];have h3:=a8v (f:=fun _=>0) (i:=i0) (X:=1) ho.nd;have h4:sa (fun _=>0) (Pt g (onW g.Wires s.Wires) us p fs fs.length).ns=0:=by
    generalize (Pt g (onW g.Wires s.Wires) us p fs fs.length).ns=l
    induction l with
    |nil=>rfl
    |cons x l ih=>rw[sa,ih]
   refine Nat.le_trans (a4w fun k _=>?_) (Nat.le_trans h3 (by omega))
   by_cases hk:k=i0
   ·subst hk;simp
   ·rw[if_neg hk,if_neg (fun e=>hk e.symm)];exact Nat.zero_le _
  ·simp only[if_neg h];exact c0T hnt hp hfs hi
 obtain⟨tl,hn⟩:∃tl,(Pt g (onW g.Wires s.Wires) us p fs fs.length).ns=i0::tl:=by
  have h1:p≠[]:=by
   obtain⟨i,hi,e⟩:=C8 hp;rw[e];exact List.ne_nil_of_mem (a2E hi)
  show∃tl,p=i0::tl
  cases p with
  |nil=>exact absurd rfl h1
  |cons a tl=>exact⟨tl,by rw[←hi0];rfl⟩
 have hpos:=b6y ho hn;have hD:=c2N hR;change ((Pt g (onW g.Wires s.Wires) us p fs fs.length).den0 i0).natAbs≤_ at hD
 by_cases h5':p.length≤5
 ·have hB:∀i∈p,((Pt g (onW g.Wires s.Wires) us p fs fs.length).b0 i0 i).natAbs≤40:=by
   intro i hi;unfold o6.b0;have:=hus i;show(if i=i0 then 0 else-igt us i).natAbs≤40
   split<;>omega
  have hpw:24^p.length≤24^5:=Nat.pow_le_pow_right (by omega) h5';have hbn:bnd 24 40 p.length≤bnd 24 40 5:=b0i (by omega) h5';have e5:bnd 24 40 5≤900000000:=by decide
  have hk:∀k,((Pt g (onW g.Wires s.Wires) us p fs fs.length).num0 i0 k).natAbs≤1000000000:=fun k=>by
   have:=b1R (b:=(Pt g (onW g.Wires s.Wires) us p fs fs.length).b0 i0) ho.nd hR hB k;change ((Pt g (onW g.Wires s.Wires) us p fs fs.length).num0 i0 k).natAbs≤_ at this;change _≤24^p.length+bnd 24 40 p.length at this;omega
  exact⟨⟨fun k=>by have:=hk k;omega,hpos,by omega⟩,fun _=>⟨hk,by omega⟩⟩
 ·obtain⟨h10,hz⟩:=h5.resolve_left h5';have hB:∀i∈p,((Pt g (onW g.Wires s.Wires) us p fs fs.length).b0 i0 i).natAbs≤0:=by
   intro i hi;unfold o6.b0;have:=hz i;show(if i=i0 then 0 else-igt us i).natAbs≤0
   split<;>omega
  have hpw:24^p.length≤24^10:=Nat.pow_le_pow_right (by omega) h10;refine⟨⟨fun k=>?_,hpos,by omega⟩,fun h=>absurd h h5'⟩;have:=b1R (b:=(Pt g (onW g.Wires s.Wires) us p fs fs.length).b0 i0) ho.nd hR hB k;change ((Pt g (onW g.Wires s.Wires) us p fs fs.length).num0 i0 k).natAbs≤_ at this;change _≤24^p.length+bnd 24 0 p.length at this;rw[b0c]at this;omega
theorem a2o (hnt:o8 g s) (hp:p∈l8 g s) (h5:p.length≤5∨(p.length≤10∧∀x,igt us x=0)) (hfs:fs=n8 g s (upN p)) (hus:∀x,-40≤igt us x∧igt us x≤40) (i0:Nat) (hi0:p.getD 0 0=i0):c1J (Pt g (onW g.Wires s.Wires) us p fs fs.length) i0:=(a3F hnt hp h5 hfs hus i0 hi0).1
theorem b0B (hnt:o8 g s) (hp:p∈l8 g s) (h5:p.length≤5) (hfs:fs=n8 g s (upN p)) (hus:∀x,-40≤igt us x∧igt us x≤40) (i0:Nat) (hi0:p.getD 0 0=i0):
  (∀k,((Pt g (onW g.Wires s.Wires) us p fs fs.length).num0 i0 k).natAbs≤1000000000)∧0<(Pt g (onW g.Wires s.Wires) us p fs fs.length).den0 i0∧(Pt g (onW g.Wires s.Wires) us p fs fs.length).den0 i0≤10000000:=by
 obtain⟨h1,h2⟩:=a3F (us:=us) hnt hp (Or.inl h5) hfs hus i0 hi0;exact⟨(h2 h5).1,h1.2.1,(h2 h5).2⟩
end
end Go.Cur
end
section
namespace Go.AM
theorem a2t {B S0:Nat→Prop} {nt:Nat} {w:World} {ρ:Nat→Option Loc} {L:Nat→Prop} {T T':Tm} {H H':Hp} {a:Act} (g:List (Option Nat)) (hn:∀(i j q:Nat),g[i]?=some (some q)→g[j]?=some (some q)→i=j) (hT:a1p H g T T') (hH:a0t H g=H') (hc:M1 B S0 nt w ρ L (m6 T) (m7 H) a):
  M1 B S0 nt w (m9 ρ g) (fun r=>r<g.length) (m6 T') (m7 H') a:=by
 subst hH;have hren:=a9a (g:=g) (H:=m7 H) hc.wf (fun r row hr=>hc.rows r row hr);refine⟨⟨?_,?_,?_,hc.wf.low,hc.wf.new⟩,hc.size,hc.defers,?_,?_,?_⟩
 ·intro r r' l l' b h1 h2 k1 k2;obtain⟨q,g1,p1⟩:=j6 h1;obtain⟨q',g2,p2⟩:=j6 h2;have:=hc.wf.inj q q' l l' b p1 p2 k1 k2;subst this;exact hn _ _ _ g1 g2
 ·intro r l b h1 k1;obtain⟨q,g1,p1⟩:=j6 h1;exact hc.wf.own q l b p1 k1
 ·intro r l h1;obtain⟨q,g1,p1⟩:=j6 h1;exact(List.getElem?_eq_some_iff.1 g1).1
 ·intro t;have gen:∀(T':Tm),a1p H g T T'→l3 w (Sx S0 (m9 ρ g)) (m9 ρ g) (fun r=>r<g.length) (m6 T' t) (a.tmps.getD t undef):=by
   intro T'
   induction T' with
   |nil=>intro _;exact .pure _ _ (.any _)
   | cons p T' ih=>
    obtain⟨i,x⟩:=p;rintro⟨h1,h2⟩;simp only[m6]
    split
    ·rename_i e;subst e
     rcases h1 with rfl|rfl
     ·exact .pure _ _ (.any _)
     ·exact hren 3 _ _ (hc.tmps t)
    ·exact ih h2
  exact gen T' hT
 ·intro r row hr;simp only[a0t,A1]at hr
  split at hr
  ·rename_i q hq
   split at hr
   ·rename_i q';simp only[Option.map_eq_some_iff]at hr;obtain⟨row0,h0,rfl⟩:=hr;obtain⟨l,hl,hrow⟩:=hc.rows q' row0 h0;refine⟨l,by simp only[m9,hq];exact hl,?_⟩
    cases row0 with
    |map kvs=>exact hrow
    | itr ag kts left cur=>
     obtain⟨b,h1,h0,h2⟩:=hrow;exact⟨b,h1,h0,h2.same rfl (Nat.le_refl _) (fun b _ hn=>⟨rfl,fun k=>hn (by
      rcases k with h|⟨r,l,h1,h2⟩
      ·exact Or.inl h
      ·obtain⟨q,_,h3⟩:=j6 h1;exact Or.inr ⟨q,l,h3,h2⟩)⟩)⟩
    |els sz es=>
     obtain⟨h1,h2,h3,h4⟩:=hrow;refine⟨h1,?_,fun hb=>by rw[h3 hb];rfl,fun b hb=>?_⟩
     ·intro e he;simp only[List.mem_map]at he;obtain⟨e',he',rfl⟩:=he;simpa using h2 e' he'
     ·obtain⟨c,t,k1,k2,k3,k4⟩:=h4 b hb;refine⟨c,t,k1,k2,by simpa using k3,fun i av hi=>?_⟩;rw[←List.map_flatten]at hi;simp only[List.getElem?_map,Option.map_eq_some_iff]at hi;obtain⟨av0,hi,rfl⟩:=hi;obtain⟨x,p1,p2,p3⟩:=k4 i av0 hi;exact⟨x,p1,p2,hren 3 _ _ p3⟩
   ·cases hr
  ·cases hr
 ·intro r hr;simp only[a0t,A1]at hr;simp only[m9]
  split
  ·rename_i q hq;rw[hq]at hr;simp only[Option.map_eq_none_iff]at hr;exact hc.dead q hr
  ·rfl
def b1L (gs:List Nat) (n:Nat):List (Option Nat):=(List.range n).map fun r=>if gs.contains r then none else some r
theorem b5m (gs:List Nat) (n r:Nat):(b1L gs n)[r]?=if r<n then some (if gs.contains r then none else some r)else none:=by
 unfold b1L;rw[List.getElem?_map]
 by_cases h:r<n
 ·rw[if_pos h,List.getElem?_range h];rfl
 ·rw[if_neg h,List.getElem?_eq_none (by simpa using h)];rfl
def bkN (gs:List Nat) (i:Nat):Nat:=gs.getD i 0
def b1p (gs:List Nat):AV→AV
 | .v x=> .v x
 | .row i k n=>if i<gs.length then .row (bkN gs i) k n else .any
 | .ptr i k o=>if i<gs.length then .ptr (bkN gs i) k o else .any
 | .mp i=>if i<gs.length then .mp (bkN gs i)else .any
 |_=> .any
def b4L (gs:List Nat):m5→m5
 | .els sz es=> .els sz (es.map fun e=>e.map (b1p gs))
 | .map ag kts kvs=> .map ag kts kvs
 | .itr ag kts left cur=> .itr ag kts left cur
def a4O (gs us kp:List Nat) (n:Nat) (T T':Tm):Tm:=us.map (fun t=>(t,b1p gs (m6 T' t)))++kp.map (fun t=>(t,n0 (b1L gs n) 40 (m6 T t)))
def a8I (gs:List Nat) (H H':Hp):Hp:=(List.range H.length).map fun r=>match gs.findIdx? (· ==r)with
 |some i=>(m7 H' i).map (b4L gs)
 |none=>(m7 H r).map (v6 (b1L gs H.length))
def a8D (B:Nat→Prop) (S0:Nat→Prop) (w:World) (m:Nat→Prop):Jt:={rel:=fun _ S' O w'=>S'=S0∧Ext B w w'∧∀b,O b→B b,mark:=m}
theorem a5P {B S0:Nat→Prop} {w:World} {m:Nat→Prop} (hB:∀b,w.heap.size≤b→B b):JOk (a8D B S0 w m):=by
 rintro y S' O O' A A' ⟨rfl,h1,h2⟩ _ _ he ho;refine⟨rfl,h1.trans (he.mono fun b _ hb=>h2 b hb),fun b hb=>?_⟩
 rcases(ho b hb).2 with h|h
 ·exact h2 b h
 ·exact hB b (Nat.le_trans h1.size h)
def bkρ (gs:List Nat) (ρ ρ1:Nat→Option Loc) (r:Nat):Option Loc:=match gs.findIdx? (· ==r)with|some i=>ρ1 i|none=>ρ r
theorem c2q {gs:List Nat} (hn:gs.Nodup) {i:Nat} (hi:i<gs.length):gs.findIdx? (· ==bkN gs i)=some i:=by
 rw[List.findIdx?_eq_some_iff_getElem];refine⟨hi,by simp[bkN,hi],fun j hj=>?_⟩;simp only[bkN,List.getD_eq_getElem?_getD,List.getElem?_eq_getElem hi,Option.getD_some,beq_iff_eq];intro e;have:=(List.getElem?_inj (Nat.lt_trans hj hi) hn).1 (show gs[j]?=gs[i]? by rw[List.getElem?_eq_getElem hi,List.getElem?_eq_getElem (Nat.lt_trans hj hi),e]);omega
theorem a8A {gs:List Nat} {r i:Nat} (h:gs.findIdx? (· ==r)=some i):i<gs.length∧gs[i]?=some r:=by
 rw[List.findIdx?_eq_some_iff_getElem]at h;obtain⟨h1,h2,_⟩:=h;exact⟨h1,by rw[List.getElem?_eq_getElem h1];simpa using h2⟩
theorem b1U {gs:List Nat} {r:Nat} (h:gs.findIdx? (· ==r)=none):r∉gs:=by
 rw[List.findIdx?_eq_none_iff]at h;intro hr;simpa using h r hr
theorem b4u {w:World} {S0:Nat→Prop} {ρ ρ1:Nat→Option Loc} {L1 L:Nat→Prop} {S1 S:Nat→Prop} {gs:List Nat} (hn:gs.Nodup) (hL:∀r∈gs,L r) {x:AV} {y:Value} (h:l3 w S1 ρ1 L1 x y):l3 w S (bkρ gs ρ ρ1) L (b1p gs x) y:=by
 have nm:∀{i:Nat},i<gs.length→L (bkN gs i)∧bkρ gs ρ ρ1 (bkN gs i)=ρ1 i:=by
  intro i hi;refine⟨hL _ (by simp[bkN,hi]),?_⟩;unfold bkρ;rw[c2q hn hi]
 cases x with
 |v c=>rw[n7 h];exact .pure _ _ (.v _)
 | row i k n=>
  simp only[b1p]
  split
  ·rename_i hi
   cases h with
   |pure _ _ h=>cases h
   |row _ _ _ _ h1 h2 h3=>exact .row _ _ _ _ (nm hi).1 h2 (fun l hl=>h3 l ((nm hi).2▸hl))
  ·exact .pure _ _ (.any _)
 | ptr i k n=>
  simp only[b1p]
  split
  ·rename_i hi
   cases h with
   |pure _ _ h=>cases h
   |ptr _ _ _ _ h1 h2 h3=>exact .ptr _ _ _ _ (nm hi).1 h2 (fun l hl=>h3 l ((nm hi).2▸hl))
  ·exact .pure _ _ (.any _)
 | mp i=>
  simp only[b1p]
  split
  ·rename_i hi
   cases h with
   |pure _ _ h=>cases h
   |mp _ _ h1 h2 h3=>exact .mp _ _ (nm hi).1 h2 (fun l hl=>h3 l ((nm hi).2▸hl))
  ·exact .pure _ _ (.any _)
 |_=>exact .pure _ _ (.any _)
def a8h:Hp→Bool
 |[]=>true
 |some (.itr _ _ _ _)::_=>false
 |_::H=>a8h H
theorem a0H:∀{H:Hp},a8h H=true→∀(r:Nat) ag kts left cur,m7 H r≠some (.itr ag kts left cur)
 |[],_,r,_,_,_,_=>by cases r<;>simp[m7]
 |x::H,h,0,_,_,_,_=>by
  intro e;simp only[m7]at e;subst e;simp[a8h]at h
 | x::H,h,r+1,ag,kts,left,cur=>by
  simp only[m7];refine a0H (H:=H) ?_ r ag kts left cur
  cases x with
  |none=>exact h
  |some row=>cases row with
   |itr=>simp[a8h]at h
   |_=>exact h
theorem b2i {J:Jt} (hJ:JOk J) {nt:Nat} {kp0:List Nat} {kv:Nat→Value} {T:Tm} {H:Hp} {a:Act} {w:World} (hs:SG J nt kp0 kv T H a w) (gs us kp:List Nat) (Tf:Tm) (Hf:Hp) (hlt:∀r∈gs,r<H.length) (hnd:gs.Nodup) (hT:a1p H (gs.map some) T Tf) (hH:a0t H (gs.map some)=Hf)
  (hkk:∀t∈kp0,t∈kp):∃J1,JOk J1∧SG J1 nt kp (fun t=>a.tmps.getD t undef) Tf Hf a w∧
   ∀T' H' a' w',a8h H'=true→SG J1 nt kp (fun t=>a.tmps.getD t undef) T' H' a' w'→m6 (a4O gs us kp H.length T T') 999999=m6 T 999999→SG J nt kp0 kv (a4O gs us kp H.length T T') (a8I gs H H') a' w':=by
 obtain⟨⟨S0,ρ,L,hc,hL,hj,hm⟩,hk⟩:=hs;have hgi:∀(i j q:Nat),(gs.map some)[i]?=some (some q)→(gs.map some)[j]?=some (some q)→i=j:=by
  intro i j q h1 h2;simp only[List.getElem?_map,Option.map_eq_some_iff,Option.some.injEq]at h1 h2;obtain⟨_,h1,rfl⟩:=h1;obtain⟨_,h2,rfl⟩:=h2;exact(List.getElem?_inj (List.getElem?_eq_some_iff.1 h1).1 hnd).1 (h1.trans h2.symm)
 have hf:=a2t (gs.map some) hgi hT hH hc
 let B1:Nat→Prop:=fun b=>own (m9 ρ (gs.map some)) b∨w.heap.size≤b
 have hrg:∀{r:Nat} {l:Loc},m9 ρ (gs.map some) r=some l→∃q∈gs,ρ q=some l:=by
  intro r l h;obtain⟨q,h1,h2⟩:=j6 h;simp only[List.getElem?_map,Option.map_eq_some_iff,Option.some.injEq]at h1;obtain⟨_,h1,rfl⟩:=h1;exact⟨_,List.mem_of_getElem? h1,h2⟩
 have hJ1:JOk (a8D B1 S0 w J.mark):=a5P fun b h=>Or.inr h;refine⟨a8D B1 S0 w J.mark,hJ1,?_,?_⟩
 ·subst hH;obtain⟨Ds,q1,q2,q3⟩:=hm;exact⟨⟨S0,m9 ρ (gs.map some),fun r=>r<(gs.map some).length,hf.inB (fun _ _=>trivial) (fun _ _=>trivial),fun r h=>by simpa [a0t]using h,⟨rfl,Ext.refl _ _,fun b h=>Or.inl h⟩,Ds,q1,q2,q3⟩,fun _ _=>rfl⟩
 rintro T' H' a' w' hni ⟨⟨S0',ρ1,L1,hc1,hL1,⟨rfl,hx1,ho1⟩,hm1⟩,hk1⟩ hy;have hot:∀{r:Nat} {l:Loc} {b:Nat},r∉gs→ρ r=some l→l.b=some b→¬B1 b:=by
  rintro r l b hr h1 h2 (⟨q,l',h3,h4⟩|h)
  ·obtain⟨q',hq,h5⟩:=hrg h3;exact hr (hc.wf.inj r q' l l' b h1 h5 h2 h4▸hq)
  ·exact absurd (hc.wf.own r l b h1 h2).1 (Nat.not_lt.2 h)
 have hcase:∀{r:Nat} {l:Loc},bkρ gs ρ ρ1 r=some l→(∃i,gs[i]?=some r∧gs.findIdx? (· ==r)=some i∧ρ1 i=some l)∨(r∉gs∧ρ r=some l):=by
  intro r l h;unfold bkρ at h
  split at h
  ·rename_i i hi;exact Or.inl ⟨i,(a8A hi).2,hi,h⟩
  ·rename_i hi;exact Or.inr ⟨b1U hi,h⟩
 have hSx:∀b,b<w.heap.size→¬Sx S0' ρ b→w'.heap[b]?=w.heap[b]?∧¬Sx S0' (bkρ gs ρ ρ1) b:=by
  intro b hb hn;have hnB:¬B1 b:=by
   rintro(⟨r,l,h1,h2⟩|h)
   ·obtain⟨q,_,h3⟩:=hrg h1;exact hn (Or.inr ⟨q,l,h3,h2⟩)
   ·omega
  refine⟨hx1.block b hb hnB,?_⟩;rintro(h|⟨r,l,h1,h2⟩)
  ·exact hn (Or.inl h)
  ·rcases hcase h1 with⟨i,_,_,h3⟩|⟨_,h3⟩
   ·exact hnB (ho1 b ⟨i,l,h3,h2⟩)
   ·exact hn (Or.inr ⟨r,l,h3,h2⟩)
 have hgf:∀{r:Nat},(∃q,(b1L gs H.length)[r]?=some (some q))→r<H.length∧r∉gs∧bkρ gs ρ ρ1 r=ρ r∧m9 ρ (b1L gs H.length) r=ρ r:=by
  rintro r ⟨q,hq⟩;have h0:=hq;rw[b5m]at hq
  split at hq
  ·rename_i hr
   split at hq
   ·cases hq
   ·rename_i hg;simp only[Option.some.injEq]at hq;subst hq;have hg':r∉gs:=by simpa using hg
    refine⟨hr,hg',?_,by simp only[m9,h0]⟩;unfold bkρ
    split
    ·rename_i i hi;exact absurd (List.mem_of_getElem? (a8A hi).2) hg'
    ·rfl
  ·cases hq
 have keep:∀x y,l3 w (Sx S0' ρ) ρ L x y→l3 w' (Sx S0' (bkρ gs ρ ρ1)) (bkρ gs ρ ρ1) (fun r=>r<H.length) (n0 (b1L gs H.length) 40 x) y:=by
  intro x y h;refine(L0 (g:=b1L gs H.length) (S':=Sx S0' ρ) (fun _ h=>h) 40 x y h).ext hx1.size hSx (fun r hr=>(hgf hr).1) (fun r l hr hl=>?_);rw[(hgf hr).2.2.2,←(hgf hr).2.2.1];exact hl
 refine⟨⟨S0',bkρ gs ρ ρ1,fun r=>r<H.length,⟨⟨?_,?_,?_,hc1.wf.low,?_⟩,hc1.size,rfl,?_,?_,?_⟩,?_,?_,?_⟩,fun t ht=>(hk1 t (hkk t ht)).trans (hk t ht)⟩
 ·intro r r' l l' b h1 h2 k1 k2
  rcases hcase h1 with⟨i,hi,hi',h3⟩|⟨hi,h3⟩<;>rcases hcase h2 with⟨j,hj,hj',h4⟩|⟨hj,h4⟩
  ·have:=hc1.wf.inj i j l l' b h3 h4 k1 k2;subst this;rw[hi]at hj;exact Option.some.inj hj
  ·exact absurd (ho1 b ⟨i,l,h3,k1⟩) (hot hj h4 k2)
  ·exact absurd (ho1 b ⟨j,l',h4,k2⟩) (hot hi h3 k1)
  ·exact hc.wf.inj r r' l l' b h3 h4 k1 k2
 ·intro r l b h1 k1
  rcases hcase h1 with⟨i,hi,_,h3⟩|⟨hi,h3⟩
  ·obtain⟨p1,p2,_⟩:=hc1.wf.own i l b h3 k1;exact⟨p1,p2,trivial⟩
  ·obtain⟨p1,p2,p3⟩:=hc.wf.own r l b h3 k1;exact⟨Nat.lt_of_lt_of_le p1 hx1.size,p2,p3⟩
 ·intro r l h1
  rcases hcase h1 with⟨i,hi,_,h3⟩|⟨hi,h3⟩
  ·exact hlt r (List.mem_of_getElem? hi)
  ·exact hL r (hc.wf.given r l h3)
 ·intro b h
  trivial
 ·have gen:∀(l:Tm),(∀p∈l,l3 w' (Sx S0' (bkρ gs ρ ρ1)) (bkρ gs ρ ρ1) (fun r=>r<H.length) p.2 (a'.tmps.getD p.1 undef))→∀t,l3 w' (Sx S0' (bkρ gs ρ ρ1)) (bkρ gs ρ ρ1) (fun r=>r<H.length) (m6 l t) (a'.tmps.getD t undef):=by
   intro l
   induction l with
   |nil=>intro _ t;exact .pure _ _ (.any _)
   |cons p l ih=>
    intro h t;obtain⟨i,x⟩:=p;simp only[m6]
    split
    ·rename_i e;subst e;exact h (_,x) (by simp)
    ·exact ih (fun p hp=>h p (by simp[hp])) t
  refine gen _ fun p hp=>?_;unfold a4O at hp;rw[List.mem_append]at hp
  rcases hp with hp|hp
  ·obtain⟨t,_,rfl⟩:=List.mem_map.1 hp;exact b4u (S0:=S0') hnd hlt (hc1.tmps t)
  ·obtain⟨t,ht,rfl⟩:=List.mem_map.1 hp;show l3 _ _ _ _ (n0 _ 40 (m6 T t)) (a'.tmps.getD t undef);rw[hk1 t ht];exact keep _ _ (hc.tmps t)
 ·intro r row hr;unfold a8I at hr;rw[A1]at hr
  split at hr
  ·rename_i q hq;have hqr:q=r:=by
    by_cases h:r<H.length
    ·rw[List.getElem?_range h]at hq;exact(Option.some.inj hq).symm
    ·rw[List.getElem?_eq_none (by simpa using h)]at hq;cases hq
   subst hqr
   split at hr
   ·rename_i i hi;obtain⟨row1,h1,rfl⟩:=Option.map_eq_some_iff.1 hr;obtain⟨l,hl,hrow⟩:=hc1.rows i row1 h1;refine⟨l,by unfold bkρ;rw[hi];exact hl,?_⟩
    cases row1 with
    |map ag kts kvs=>exact hrow
    |itr ag kts left cur=>
     exact(a0H hni i _ _ _ _ h1).elim
    |els sz es=>
     obtain⟨k1,k2,k3,k4⟩:=hrow;refine⟨k1,?_,fun hb=>by rw[k3 hb];rfl,fun b hb=>?_⟩
     ·intro e he;simp only[List.mem_map]at he;obtain⟨e',he',rfl⟩:=he;simpa using k2 e' he'
     ·obtain⟨c,t,q1,q2,q3,q4⟩:=k4 b hb;refine⟨c,t,q1,q2,by simpa using q3,fun i av hi=>?_⟩;rw[←List.map_flatten]at hi;simp only[List.getElem?_map,Option.map_eq_some_iff]at hi;obtain⟨av0,hi,rfl⟩:=hi;obtain⟨x,p1,p2,p3⟩:=q4 i av0 hi;exact⟨x,p1,p2,b4u (S0:=S0') hnd hlt p3⟩
   ·rename_i hi;obtain⟨row1,h1,rfl⟩:=Option.map_eq_some_iff.1 hr;obtain⟨l,hl,hrow⟩:=hc.rows q row1 h1;have hng:=b1U hi;refine⟨l,by unfold bkρ;rw[hi];exact hl,?_⟩;refine(R1 (g:=b1L gs H.length) (S':=Sx S0' ρ) (fun _ h=>h) hrow).ext hx1.size hSx (fun r hr=>(hgf hr).1) (fun r l hr hl=>?_) (fun b hb=>?_)
    ·rw[(hgf hr).2.2.2,←(hgf hr).2.2.1];exact hl
    ·exact hx1.block b (hc.wf.own q l b hl hb).1 (hot hng hl hb)
  ·cases hr
 ·intro r hr;unfold a8I at hr;rw[A1]at hr
  by_cases h:r<H.length
  ·rw[List.getElem?_range h]at hr;simp only at hr;unfold bkρ
   split at hr
   ·rename_i i hi;exact hc1.dead i (by simpa using hr)
   ·exact hc.dead r (by simpa using hr)
  ·unfold bkρ
   split
   ·rename_i i hi;exact absurd (hlt r (List.mem_of_getElem? (a8A hi).2)) h
   ·cases hρ:ρ r with
    |none=>rfl
    |some l=>exact absurd (hL r (hc.wf.given r l hρ)) h
 ·intro r hr;simpa [a8I]using hr
 ·rw[hy];refine hJ _ _ _ _ _ _ hj hc.wf.low hc.owned (hx1.mono fun b hb h=>?_) ?_
  ·rcases h with⟨r,l,h1,h2⟩|h
   ·obtain⟨q,_,h3⟩:=hrg h1;exact⟨q,l,h3,h2⟩
   ·omega
  ·rintro b ⟨r,l,h1,h2⟩
   rcases hcase h1 with⟨i,_,_,h3⟩|⟨_,h3⟩
   ·refine⟨(hc1.wf.own i l b h3 h2).1,?_⟩
    rcases ho1 b ⟨i,l,h3,h2⟩with⟨r',l',h4,h5⟩|h
    ·obtain⟨q,_,h6⟩:=hrg h4;exact Or.inl ⟨q,l',h6,h5⟩
    ·exact Or.inr h
   ·exact⟨Nat.lt_of_lt_of_le (hc.wf.own r l b h3 h2).1 hx1.size,Or.inl ⟨r,l,h3,h2⟩⟩
 ·exact hm1
theorem g6.keep {P:Program} {f:FuncId} {args:List AV} {Hk Hd Hk' Hn:Hp} {res:AV} {d d':Option m5} (q k k':Nat) {sz sz' s1:Nat} {es es' e1 e1':List (List AV)} {x:Value} {i o:Nat} (h:g6 P f args Hk (d::Hd) res Hk' (d'::Hn))
  (h1:m7 (Hk++d::Hd) q=some (.els sz es)) (h2:es.flatten[k]?=some (.fptr x Hk.length i o)) (h3:m7 (Hk'++d'::Hn) q=some (.els sz' es')) (h4:es'.flatten[k']?=some (.fptr x Hk.length i o))
  (h5:d=some (.els s1 e1)) (h6:d'=some (.els s1 e1')):g6 P f args (Hk++[d]) Hd res (Hk'++[d']) Hn:=by
 have eH:Hk++[d]++Hd=Hk++d::Hd:=by simp
 have eH':Hk'++[d']++Hn=Hk'++d'::Hn:=by simp
 refine⟨h.1,by simp[h.2.1],?_⟩;rw[eH,eH'];intro S0 w ρ vs hh hl hreps;refine(h.2.2 S0 w ρ vs hh hl hreps).mono ?_;rintro e w' ⟨v,ρ',rfl,hh',hrep,hkeep,hfresh,hext⟩;refine⟨v,ρ',rfl,hh',hrep,fun r l' hr hl'=>?_,hfresh,hext⟩
 by_cases hrk:r<Hk.length
 ·exact hkeep r l' hrk hl'
 have hre:r=Hk.length:=by
  rw[List.length_append]at hr;simp at hr;omega
 subst hre;have g1:m7 (Hk++d::Hd) Hk.length=some (.els s1 e1):=by rw[E9,List.getElem?_append_right (Nat.le_refl _)];simp[h5]
 have g2:m7 (Hk'++d'::Hn) Hk.length=some (.els s1 e1'):=by rw[E9,h.2.1,List.getElem?_append_right (Nat.le_refl _)];simp[h6]
 obtain⟨l,hlr,hrow⟩:=hh.rows _ _ g1;obtain⟨l2,hl2,hrow2⟩:=hh'.rows _ _ g2;rw[hl2]at hl';simp only[Option.some.injEq]at hl';subst hl';have cell:∀{w:World} {ρ:Nat→Option Loc} {L:Nat→Prop} {S:Nat→Prop} {l:Loc} {sz:Nat} {es:List (List AV)} {k:Nat},o1 w S ρ L l (.els sz es)→es.flatten[k]?=some (.fptr x Hk.length i o)→l3 w S ρ L (.ptr Hk.length i o) x:=by
  intro w ρ L S l sz es k hr hk;obtain⟨_,_,e3,e4⟩:=hr
  cases hb:l.b with
  |none=>rw[e3 hb]at hk;simp at hk
  |some b=>
   obtain⟨c,t,_,_,_,p⟩:=e4 b hb;obtain⟨u,_,_,hu⟩:=p k _ hk
   cases hu with
   |pure _ _ h=>cases h
   |fptr _ _ _ _ h=>exact h
 obtain⟨lq,_,hrq⟩:=hh.rows q _ h1;obtain⟨lq',_,hrq'⟩:=hh'.rows q _ h3;have:=b4y (x:= .ptr Hk.length i o) rfl (cell hrq h2) (cell hrq' h4) hlr hl2 hrow hrow2 hext.cells (fun b hb hn=>hext.block b hb (fun ho=>hn (Or.inr ho)));rw[this];exact hlr
theorem b0b {w:World} {S:Nat→Prop} {ρ:Nat→Option Loc} {L:Nat→Prop} {l:Loc} {sz:Nat} {e e':List AV} (h:o1 w S ρ L l (.els sz [e])) (hl:e'.length=e.length)
  (hc:∀(k:Nat) a',e'[k]?=some a'→∃a,e[k]?=some a∧∀x,(∃b c t,l.b=some b∧w.heap[b]?=some (.cells c t (0,0))∧c[l.o+k]?=some x)→l3 w S ρ L a x→l3 w S ρ L a' x):o1 w S ρ L l (.els sz [e']):=by
 obtain⟨h1,h2,h3,h4⟩:=h;refine⟨h1,fun y hy=>?_,fun hb=>(by cases h3 hb),fun b hb=>?_⟩
 ·simp only[List.mem_singleton]at hy;subst hy;rw[hl];exact h2 e (by simp)
 ·obtain⟨c,t,k1,k2,k3,k4⟩:=h4 b hb;refine⟨c,t,k1,k2,by simpa using k3,fun i a hi=>?_⟩;simp only[List.flatten_cons,List.flatten_nil,List.append_nil]at hi k4;obtain⟨a0,g1,g2⟩:=hc i a hi;obtain⟨x,p1,p2,p3⟩:=k4 i a0 g1;exact⟨x,p1,p2,g2 x ⟨b,c,t,hb,k1,p1⟩ p3⟩
theorem b1M {P:Program} {ro:Option Nat} {J:Jt} {nt:Nat} {kp:List Nat} {c:Code} {T:Tm} {H:Hp} {Q:Exit→Tm→Hp→Prop} (q j:Nat) {sz:Nat} {e:List AV} {r i o:Nat} (hr:m7 H q=some (.els sz [e])) (hj:e[j]?=some (.ptr r i o))
  (h:∀x,GWp P ro J nt kp c T (B2 H q (some (.els sz [e.set j (.fptr x r i o)]))) Q):GWp P ro J nt kp c T H Q:=by
 intro hJ kv a w ⟨⟨S0,ρ,L,hc,hL,hjr,hm⟩,hk⟩;have hql:=a2j hr;obtain⟨l,hl,hrow⟩:=hc.rows q _ hr;have hrow0:=hrow;obtain⟨_,_,e3,e4⟩:=hrow0
 cases hb:l.b with
 |none=>cases e3 hb
 | some b=>
  obtain⟨cc,t,k1,k2,k3,k4⟩:=e4 b hb;simp only[List.flatten_cons,List.flatten_nil,List.append_nil]at k4;obtain⟨x,p1,p2,p3⟩:=k4 j _ hj;refine h x hJ kv a w ⟨⟨S0,ρ,L,⟨hc.wf,hc.size,hc.defers,hc.tmps,fun r' row hr'=>?_,fun r' hr'=>?_⟩,fun r' hr'=>by rw[a4R _ _ _ hql];exact hL r' hr',hjr,hm⟩,hk⟩
  ·rw[F8 _ _ _ _ (by omega)]at hr'
   split at hr'
   ·rename_i e';subst e';simp only[Option.some.injEq]at hr';subst hr';refine⟨l,hl,b0b hrow (by simp) fun k a' ha=>?_⟩
    by_cases hkj:k=j
    ·subst hkj;have hkl:k<e.length:=(List.getElem?_eq_some_iff.1 hj).1;rw[List.getElem?_set_self hkl]at ha;simp only[Option.some.injEq]at ha;subst ha;refine⟨_,hj,?_⟩;rintro y ⟨b',c',t',q1,q2,q3⟩ hy;rw[hb]at q1;simp only[Option.some.injEq]at q1;subst q1;rw[k1]at q2;simp only[Option.some.injEq,Obj.cells.injEq]at q2;rw[←q2.1,p1]at q3;simp only[Option.some.injEq]at q3;subst q3;exact .fptr _ _ _ _ hy
    ·rw[List.getElem?_set_ne (fun e=>hkj e.symm)]at ha;exact⟨a',ha,fun _ _ h=>h⟩
   ·exact hc.rows r' row hr'
  ·rw[F8 _ _ _ _ (by omega)]at hr'
   split at hr'
   ·cases hr'
   ·exact hc.dead r' hr'
theorem a6k {nt:Nat} {T:Tm} {H:Hp} (q j:Nat) {sz:Nat} {e:List AV} {x:Value} {r i o:Nat} (hr:m7 H q=some (.els sz [e])) (hj:e[j]?=some (.fptr x r i o)):Sub nt T H T (B2 H q (some (.els sz [e.set j (.ptr r i o)]))):=by
 rintro w0 B S0 a w ⟨⟨ρ,L,hc,hL⟩,hext⟩;have hql:=a2j hr;refine⟨⟨ρ,L,⟨hc.wf,hc.size,hc.defers,hc.tmps,fun r' row hr'=>?_,fun r' hr'=>?_⟩,fun r' hr'=>by rw[a4R _ _ _ hql];exact hL r' hr'⟩,hext⟩
 ·rw[F8 _ _ _ _ (by omega)]at hr'
  split at hr'
  ·rename_i e';subst e';simp only[Option.some.injEq]at hr';subst hr';obtain⟨l,hl,hrow⟩:=hc.rows r' _ hr;refine⟨l,hl,b0b hrow (by simp) fun k a' ha=>?_⟩
   by_cases hkj:k=j
   ·subst hkj;have hkl:k<e.length:=(List.getElem?_eq_some_iff.1 hj).1;rw[List.getElem?_set_self hkl]at ha;simp only[Option.some.injEq]at ha;subst ha;refine⟨_,hj,fun y _ hy=>?_⟩
    cases hy with
    |pure _ _ h=>cases h
    |fptr _ _ _ _ h=>exact h
   ·rw[List.getElem?_set_ne (fun e=>hkj e.symm)]at ha;exact⟨a',ha,fun _ _ h=>h⟩
  ·exact hc.rows r' row hr'
 ·rw[F8 _ _ _ _ (by omega)]at hr'
  split at hr'
  ·cases hr'
  ·exact hc.dead r' hr'
theorem a9t {P:Program} {ro:Option Nat} {J:Jt} {nt:Nat} {kp0:List Nat} {T:Tm} {H:Hp} {Q:Exit→Tm→Hp→Prop} {x y:Code} (us kp:List Nat) (Tf:Tm) (hT:a1p H [] T Tf) (hkk:∀t∈kp0,t∈kp)
  (R:Tm→Prop) (hin:∀J1,JOk J1→GWp P ro J1 nt kp x Tf [] (fun e T' H'=>e= .normal∧R T'))
  (hout:∀T',R T'→m6 (us.map (fun t=>(t,b1p [] (m6 T' t)))++kp.map (fun t=>(t,m6 T t))) 999999=m6 T 999999∧
   GWp P ro J nt kp0 y (us.map (fun t=>(t,b1p [] (m6 T' t)))++kp.map (fun t=>(t,m6 T t))) H Q):GWp P ro J nt kp0 (.seq x y) T H Q:=by
 intro hJ kv a w ⟨⟨S0,ρ,L,hc,hL,hj,hm⟩,hk⟩;have hf:=a2t (T':=Tf) (H':=[]) [] (by intro i j q h;simp at h) hT rfl hc
 let B1:Nat→Prop:=fun b=>w.heap.size≤b
 have hJ1:JOk (a8D B1 S0 w J.mark):=a5P fun b h=>h;have hs1:SG (a8D B1 S0 w J.mark) nt kp (fun t=>a.tmps.getD t undef) Tf [] a w:=by
  refine⟨⟨S0,m9 ρ [],fun r=>r<([]:List (Option Nat)).length,hf,fun r h=>by simp at h,⟨rfl,Ext.refl _ _,?_⟩,hm⟩,fun _ _=>rfl⟩;rintro b ⟨r,l,h1,_⟩;obtain⟨q,h,_⟩:=j6 h1;simp at h
 refine wpIn_seq (wpIn_mono (hin _ hJ1 hJ1 _ a w hs1) ?_);rintro e a' w' ⟨T',H',⟨rfl,hR⟩,⟨⟨S0',ρ1,L1,hc1,hL1,⟨rfl,hx1,ho1⟩,hm1⟩,hk1⟩⟩;obtain⟨hy,ho⟩:=hout T' hR;refine ho hJ kv a' w' ⟨⟨S0',ρ,L,⟨⟨hc.wf.inj,fun r l b h1 h2=>?_,hc.wf.given,hc1.wf.low,fun _ _=>trivial⟩,hc1.size,rfl,?_,?_,hc.dead⟩,hL,?_,hm1⟩,fun t ht=>(hk1 t (hkk t ht)).trans (hk t ht)⟩
 ·obtain⟨p1,p2,p3⟩:=hc.wf.own r l b h1 h2;exact⟨Nat.lt_of_lt_of_le p1 hx1.size,p2,p3⟩
 ·have hS:∀b,b<w.heap.size→¬Sx S0' ρ b→w'.heap[b]?=w.heap[b]?∧¬Sx S0' ρ b:=fun b hb hn=>⟨hx1.block b hb (by show¬w.heap.size≤b;omega),hn⟩;have gen:∀(l:Tm),(∀p∈l,l3 w' (Sx S0' ρ) ρ L p.2 (a'.tmps.getD p.1 undef))→∀t,l3 w' (Sx S0' ρ) ρ L (m6 l t) (a'.tmps.getD t undef):=by
   intro l
   induction l with
   |nil=>intro _ t;exact .pure _ _ (.any _)
   |cons p l ih=>
    intro h t;obtain⟨i,x⟩:=p;simp only[m6]
    split
    ·rename_i e;subst e;exact h (_,x) (by simp)
    ·exact ih (fun p hp=>h p (by simp[hp])) t
  refine gen _ fun p hp=>?_;rw[List.mem_append]at hp
  rcases hp with hp|hp
  ·obtain⟨t,_,rfl⟩:=List.mem_map.1 hp;exact b4u (S0:=S0') (gs:=[]) (ρ:=ρ) List.nodup_nil (by simp) (hc1.tmps t)
  ·obtain⟨t,ht,rfl⟩:=List.mem_map.1 hp;show l3 _ _ _ _ (m6 T t) (a'.tmps.getD t undef);rw[hk1 t ht];exact(hc.tmps t).ext hx1.size hS (fun _ h=>h) (fun _ _ _ h=>h)
 ·intro r row hr;obtain⟨l,hl,hrow⟩:=hc.rows r row hr;refine⟨l,hl,hrow.ext hx1.size (fun b hb hn=>⟨hx1.block b hb (by show¬w.heap.size≤b;omega),hn⟩) (fun _ h=>h) (fun _ _ _ h=>h) (fun b hb=>?_)⟩;have:=(hc.wf.own r l b hl hb).1;exact hx1.block b this (by show¬w.heap.size≤b;omega)
 ·rw[hy];refine hJ _ _ _ _ _ _ hj hc.wf.low hc.owned (hx1.mono fun b hb h=>absurd hb (by show¬b<w.heap.size;exact Nat.not_lt.2 h)) ?_;rintro b ⟨r,l,h1,h2⟩;exact⟨Nat.lt_of_lt_of_le (hc.wf.own r l b h1 h2).1 hx1.size,Or.inl ⟨r,l,h1,h2⟩⟩
end Go.AM
end
section
namespace Go.Cur
open Go.AM Go.Proofs
def s6 (g:Gr) (s:Sta) (k:Nat):List Nat:=cp (a2T g s) g.Nodes.toNat (nm (a2T g s) g.Nodes.toNat k)
theorem G1 {g:Gr} {s:Sta} {p:List Nat} {k:Nat} (hp:p∈l8 g s) (hk:k∈p):p=s6 g s k:=by
 obtain⟨i,_,rfl⟩:=List.mem_map.1 hp;unfold s6;rw[(B4.1 hk).2]
abbrev stg (g:Gr) (s:Sta) (l:List Ld) (sv:List Bool) (v f c:AV):AV:= .iptr [net g s,lL l,bL sv,v,f,c]
theorem a6X (g:Gr) (s:Sta) (l:List Ld) (sv:List Bool) (v f c:AV) (hnt:o8 g s) (h12:V4 g s) (x:Int) (h0:0≤x) (hx:x<g.Nodes):
  d5 Try.prog 94 [stg g s l sv v f c,I x] (iL (upN (s6 g s x.toNat))):=by
 have hit:=b2Q g s hnt h12;have hc:=a7B (ntC g (bL s.Feeds) (bL s.Wires));have hpo:=fun(p:List Nat) (hp:p∈l8 g s)=>G1 (k:=x.toNat) hp;have hcov:=G0 hnt (k:=x.toNat) (by omega);have h12':∀p∈l8 g s,p.length≤12:=h12;generalize s6 g s x.toNat=po at hpo ⊢;generalize l8 g s=L at hit hpo hcov h12';refine d5.of_bodyG Try.func94 rfl (by decide) (by simp[Try.ntmps94]) ?_;intro J hJ;simp only[Try.ntmps94,Try.results94];refine gS fun K hK=>?_;simp -dsimp;apply hK;clear hK K;refine b9 fun K1 hK1=>?_;refine gS fun K hK=>?_;simp -dsimp;refine d6 _ (hc) (by simp) ?_;simp -dsimp;apply hK;clear hK K;refine d7 ?_;refine b7 [3,4,10] (Or.inr (by simp)) ?_;simp only[zP,Nat.reduceEqDiff,reduceIte];refine V3 hJ [3,4,10] (fun _=>[some (.els 1 [[I x]]),some (.els 1 [[.v (.slice none 0 0)]])]) (fun n=>∀p∈L.take n,x.toNat∉p) rfl (hit) rfl (by simp) (by decide) (by decide) (by decide) (a8s L) ?_ ?_ ?_ ?_
 ·simp
 ·exact j7 (by simp)
 ·intro n xv hxn hi l1 J1 hJ1;obtain⟨p,hp,rfl⟩:∃p,L[n]?=some p∧pAV p=xv:=by simpa using hxn
  have hpl:=r9 p;have hpm:=List.mem_of_getElem? hp;have hpp:=h12' p hpm;simp only[pAV];simp only[List.zip_cons_cons,List.zip_nil_left,List.zip_nil_right,List.cons_append,List.nil_append];refine gR fun K hK=>?_;simp -dsimp;apply hK;clear hK K;simp only[b0z];intro J2 hJ2;refine b7 [3,4,5,10] (Or.inr (by simp)) ?_;simp only[zP,Nat.reduceEqDiff,reduceIte];refine d7 ?_;refine gS fun K hK=>?_;simp -dsimp;refine d6 _ (a4i (upN p) x (by omega)) (by simp) ?_;simp -dsimp;apply hK;clear hK K;refine d8 rfl (fun hc0=>?_) (fun hc0=>?_)
  ·have hkp:x.toNat∈p:=(W4.1 (by simpa using hc0)).2;have hpe:=hpo p hpm hkp;refine gS fun K hK=>?_;simp -dsimp;apply hK;clear hK K;exact k7 ⟨[some (.els 1 [[I x]]),some (.els 1 [[iL (upN p)]])],e8 [some 0,some 1] rfl (by simp) (by simp),by simp[y8,n5,hpe]⟩
  ·have hkp:x.toNat∉p:=fun h=>by simp[W4,h0,h]at hc0
   refine e9 ?_;simp only[V8,D1,a3E,reduceIte,Nat.reduceEqDiff,eq_self];refine⟨?_,e8 [some 0,some 1] rfl (by simp) (by simp)⟩;rw[List.take_add_one,hp];intro q hq
   rcases List.mem_append.1 hq with h|h
   ·exact hi q h
   ·simp at h;rw[h];exact hkp
 ·intro hdone;rw[List.take_of_length_le (by simp)]at hdone;obtain⟨p,hp,hkp⟩:=List.mem_flatten.1 hcov;exact absurd hkp (hdone p hp)
def ldA (l:List Ld) (k:Nat):Ld:=(l[k]?).getD default
theorem t6 {l:List Ld} {k:Nat} (h:k<l.length):l[k]?=some (ldA l k):=by
 unfold ldA;rw[List.getElem?_eq_getElem h];rfl
def leS (l:List Ld) (sv:List Bool) (q:Ld→Bool) (out:Int) (i:Nat):Int:=
 if bAt sv i=true∧q (ldA l i)=true∧(out<0∨(ldA l i).Rank≤(ldA l out.toNat).Rank)then i else out
def leL (l:List Ld) (sv:List Bool) (q:Ld→Bool) (n:Nat):Int:=(List.range n).foldl (leS l sv q) (-1)
theorem N1 (l:List Ld) (sv:List Bool) (q:Ld→Bool) (n:Nat):leL l sv q (n+1)=leS l sv q (leL l sv q n) n:=by
 unfold leL;rw[List.range_succ,List.foldl_append];rfl
theorem O4 (l:List Ld) (sv:List Bool) (q:Ld→Bool) (n:Nat):-1≤leL l sv q n∧leL l sv q n<n:=by
 induction n with
 |zero=>exact⟨by simp[leL],by simp[leL]⟩
 |succ n ih=>
  rw[N1];unfold leS
  split<;>omega
theorem a5k (x0:AV) (l:List Ld) (sv:List Bool) (v f c:AV) (fn:FuncId) (cl:List (List AV)) (q:Ld→Bool) (hl:l.length≤1000) (hs:sv.length=l.length)
  (h:∀x∈l,d5 Try.prog fn (.agg x.cells::a5V cl) (Bo (q x))):d5 Try.prog 96 [.iptr [x0,lL l,bL sv,v,f,c], .clo fn (a5V cl)] (I (leL l sv q l.length)):=by
 refine d5.of_body Try.func96 rfl (by decide) (by simp[Try.ntmps96]) ?_;simp only[Try.ntmps96,Try.results96];refine aS fun K hK=>?_;simp -dsimp;apply hK;clear hK K;refine aS fun K hK=>?_;simp -dsimp;apply hK;clear hK K;refine d4 fun K1 hK1=>?_;refine aS fun K hK=>?_;simp -dsimp;apply hK;clear hK K;refine e7 ?_;refine b8 [0,1,5,11,12,13] ?_;simp only[zP,Nat.reduceEqDiff,reduceIte];refine g9 [0,1,11,12] (α:=Nat) (fun k=>[(5,I (leL l sv q k)),(13,I k)]) (fun k=>[]) (fun k=>k≤l.length) (fun k=>l.length-k) 0 ?_ ?_ ?_
 ·exact Nat.zero_le _
 ·exact j7 (by simp[leL])
 rintro k k1;simp only[zP,Nat.reduceEqDiff,reduceIte];refine aS fun K hK=>?_;simp -dsimp;apply hK;clear hK K;refine d4 fun K2 hK2=>?_;refine d9 rfl (fun hc0=>?_) (fun hc0=>?_)
 ·skip
  try simp at hc0
  obtain⟨x,hx⟩:∃x,l[k]?=some x:=⟨_,List.getElem?_eq_getElem hc0⟩;have wk:=zW k (by omega);have gb:=s7 (l:=sv) (k:=k) (by omega);have hne:¬sv=[]:=by intro e;rw[e]at hs;simp at hs;omega
  have hsu:=N1 l sv q k;have hbd:=O4 l sv q k;have hxe:ldA l k=x:=by have:=t6 hc0;rw[hx]at this;exact(Option.some.inj this).symm
  unfold leS at hsu;rw[hxe]at hsu;generalize leL l sv q k=out at hsu hbd ⊢;refine f6 ?_;simp only[zT,reduceIte,Nat.reduceEqDiff];refine hK2 _ _ ?_;refine b8 [0,1,5,11,12,13] ?_;simp only[zP,Nat.reduceEqDiff,reduceIte];refine d4 fun K3 hK3=>?_;refine e7 ?_;refine aS fun K hK=>?_;simp -dsimp [hx];apply hK;clear hK K;refine v5 l6 rfl fun K hK=>?_;simp -dsimp [gb];refine f8 _ (fun hm=>h x (List.mem_of_getElem? hx)) (by simp) ?_;simp -dsimp [gb];refine j8 ((ldA l out.toNat).cells) (fun hm=>by simp at hm;have:=t6 (l:=l) (k:=out.toNat) (by omega);simp[this]) ?_;simp -dsimp [gb];refine hK _ _ _ (by decide+kernel) ?_;clear hK K;refine d9 rfl (fun hc1=>?_) (fun hc1=>?_)
  ·refine aR fun K hK=>?_;simp -dsimp;apply hK;clear hK K;simp only[zT,reduceIte,Nat.reduceEqDiff];refine hK3 _ _ ?_;refine b8 [0,1,5,11,12,13] ?_;simp only[zP,Nat.reduceEqDiff,reduceIte];refine aR fun K hK=>?_;simp -dsimp [wk];apply hK;clear hK K;simp only[zT,reduceIte,Nat.reduceEqDiff];have hcd:bAt sv k=true∧q x=true∧(out<0∨x.Rank≤(ldA l out.toNat).Rank):=by simpa [and_assoc]using hc1
   rw[if_pos hcd]at hsu;exact⟨k+1,by omega,by omega,e8 [] rfl (by simp[hsu]) (by simp)⟩
  ·refine f6 ?_;simp only[zT,reduceIte,Nat.reduceEqDiff];refine hK3 _ _ ?_;refine b8 [0,1,5,11,12,13] ?_;simp only[zP,Nat.reduceEqDiff,reduceIte];refine aR fun K hK=>?_;simp -dsimp [wk];apply hK;clear hK K;simp only[zT,reduceIte,Nat.reduceEqDiff];have hcd:¬(bAt sv k=true∧q x=true∧(out<0∨x.Rank≤(ldA l out.toNat).Rank)):=fun h=>by simp[h.1,h.2.1]at hc1;omega
   rw[if_neg hcd]at hsu;exact⟨k+1,by omega,by omega,e8 [] rfl (by simp[hsu]) (by simp)⟩
 ·skip
  try simp at hc0
  have hke:k=l.length:=by omega
  subst hke;refine j9 ?_;simp only[zT,reduceIte,Nat.reduceEqDiff];refine hK1 _ _ ?_;refine b8 [5] ?_;simp only[zP,Nat.reduceEqDiff,reduceIte];refine aS fun K hK=>?_;simp -dsimp;apply hK;clear hK K;exact g7 (by simp)
end Go.Cur
end
section
namespace Go.Cur
open Go.AM Go.Proofs
abbrev hSa (x:AV) (l:List Ld) (ns:Nat) (vs fs:List Fr) (nc:Nat):Option m5:=some (.els 6 [[x,lL l, .row 2 0 ns,fL vs,fL fs, .row 4 0 nc]])
abbrev hNa (g:Gr) (fe wi:List Bool):Option m5:=some (.els 6 [[I g.Nodes, .lst 4 (g.Wires.map Wr.cells), .lst 4 (g.Feeds.map Fd.cells),I g.Least, .row 3 0 fe.length,bL wi]])
abbrev hSb (x:AV) (l:List Ld) (ns:Nat) (vs fs:List Fr) (nc:Nat):Option m5:=some (.els 6 [[x,lL l, .row 2 0 ns,fL vs,fL fs, .row 3 0 nc]])
abbrev hNb (g:Gr) (fe wi:List Bool):Option m5:=some (.els 6 [[I g.Nodes, .lst 4 (g.Wires.map Wr.cells), .lst 4 (g.Feeds.map Fd.cells),I g.Least,bL [],bL wi]])
theorem b3b (x:Value) (g:Gr) (fe wi:List Bool) (l:List Ld) (sv:List Bool) (vs fs:List Fr) (cuts:List Cu) (kd:Int) (i:Nat) (v:Fr) (hi:i<sv.length) (hc:cuts.length≤1000):
  g6 Try.prog 95 [.ptr 0 0 0,I kd,I i,v.av] [hSa (.fptr x 1 0 0) l sv.length vs fs cuts.length] [hNa g fe wi,some (.els 1 (sv.map i8)),some (.els 1 (fe.map i8)),some (.els 4 (cuts.map Cu.cells))]
   (.tup []) [hSa (.fptr x 1 0 0) l (sv.set i false).length vs fs (cuts++[(⟨kd,i,v⟩:Cu)]).length] [hNa g fe wi,some (.els 1 ((sv.set i false).map i8)),some (.els 1 (fe.map i8)),some (.els 4 ((cuts++[(⟨kd,i,v⟩:Cu)]).map Cu.cells))]:=by
 have f1:C7 (cuts.length+1) 33:=k9 (by omega) (by omega);refine g6.of_bodyG [0] Try.func95 rfl (by decide) (by simp[Try.ntmps95]) rfl rfl ?_;intro J hJ;simp only[Try.ntmps95,Try.results95];refine gS fun K hK=>?_;simp -dsimp;apply hK;clear hK K;refine gS fun K hK=>?_;simp -dsimp [hi];apply hK;clear hK K;refine p9 l6 rfl (by decide) rfl rfl fun K hK=>?_;simp -dsimp [f1];refine hK _ _ _ (by decide+kernel) ?_;clear hK K
 try simp only[zT,reduceIte,Nat.reduceEqDiff]
 exact⟨[some 0,some 1,some 2,some 3,some 6],rfl,by simp,by simp[List.map_set],by simp,by simp[y8,n5]⟩
theorem b2O (x:Value) (g:Gr) (fe wi:List Bool) (l:List Ld) (sv:List Bool) (vs fs:List Fr) (cuts:List Cu) (kd:Int) (i:Nat) (v:Fr) (hi:i<sv.length) (hc:cuts.length≤1000):
  g6 Try.prog 95 [.ptr 0 0 0,I kd,I i,v.av] [hSb (.fptr x 1 0 0) l sv.length vs fs cuts.length] [hNb g fe wi,some (.els 1 (sv.map i8)),some (.els 4 (cuts.map Cu.cells))]
   (.tup []) [hSb (.fptr x 1 0 0) l (sv.set i false).length vs fs (cuts++[(⟨kd,i,v⟩:Cu)]).length] [hNb g fe wi,some (.els 1 ((sv.set i false).map i8)),some (.els 4 ((cuts++[(⟨kd,i,v⟩:Cu)]).map Cu.cells))]:=by
 have f1:C7 (cuts.length+1) 33:=k9 (by omega) (by omega);refine g6.of_bodyG [0] Try.func95 rfl (by decide) (by simp[Try.ntmps95]) rfl rfl ?_;intro J hJ;simp only[Try.ntmps95,Try.results95];refine gS fun K hK=>?_;simp -dsimp;apply hK;clear hK K;refine gS fun K hK=>?_;simp -dsimp [hi];apply hK;clear hK K;refine p9 l6 rfl (by decide) rfl rfl fun K hK=>?_;simp -dsimp [f1];refine hK _ _ _ (by decide+kernel) ?_;clear hK K
 try simp only[zT,reduceIte,Nat.reduceEqDiff]
 exact⟨[some 0,some 1,some 2,some 5],rfl,by simp,by simp[List.map_set],by simp,by simp[y8,n5]⟩
end Go.Cur
end
section
namespace Go.Cur
open Go.AM Go.Proofs
def B8 (g:Gr) (s:Sta) (l:List Ld) (sv:List Bool) (i:Nat):Bool:=
 bAt sv i&&(decide ((ldA l i).Units≠0)&&decide ((n8 g s (upN (s6 g s (ldA l i).At.toNat))).length=0))
theorem L8 (g:Gr) (s:Sta) (k:Nat):(s6 g s k).length≤g.Nodes.toNat:=by
 unfold s6 cp;have:=List.length_filter_le (fun i=>decide (nm (a2T g s) g.Nodes.toNat i=nm (a2T g s) g.Nodes.toNat k)) (List.range g.Nodes.toNat);simpa using this
theorem b9U (x:Value) (g:Gr) (fe wi:List Bool) (l:List Ld) (sv:List Bool) (vs fs:List Fr) (cuts:List Cu) (hl:l.length≤1000) (hs:sv.length=l.length) (hc:cuts.length≤1000)
  (hld:∀y∈l,0≤y.At∧y.At<g.Nodes) (hnt:o8 g ⟨fe,wi⟩) (h12:V4 g ⟨fe,wi⟩) (r:Bool) (sv2:List Bool) (cuts2:List Cu)
  (ht:∀i,i<l.length→B8 g ⟨fe,wi⟩ l sv i=true→(∀j,j<i→B8 g ⟨fe,wi⟩ l sv j=false)→r=true∧sv2=sv.set i false∧cuts2=cuts++[(⟨1,i,⟨0,1⟩⟩:Cu)])
  (hf:(∀j,j<l.length→B8 g ⟨fe,wi⟩ l sv j=false)→r=false∧sv2=sv∧cuts2=cuts):
  g6 Try.prog 77 [.ptr 0 0 0] [hSa (.fptr x 1 0 0) l sv.length vs fs cuts.length,hNa g fe wi] [some (.els 1 (sv.map i8)),some (.els 1 (fe.map i8)),some (.els 4 (cuts.map Cu.cells))]
   (Bo r) [hSa (.fptr x 1 0 0) l sv2.length vs fs cuts2.length,hNa g fe wi] [some (.els 1 (sv2.map i8)),some (.els 1 (fe.map i8)),some (.els 4 (cuts2.map Cu.cells))]:=by
 refine g6.keep (Hk:=[_]) (Hk':=[_]) 0 0 0 (x:=x) (i:=0) (o:=0) ?_ rfl rfl rfl rfl rfl rfl;have hbd:=r7 hnt.gr;refine g6.of_bodyG [0] Try.func77 rfl (by decide) (by simp[Try.ntmps77]) rfl rfl ?_;intro J hJ;simp only[Try.ntmps77,Try.results77];refine gS fun K hK=>?_;simp -dsimp;apply hK;clear hK K;refine b9 fun K1 hK1=>?_;refine gS fun K hK=>?_;simp -dsimp;apply hK;clear hK K;refine d7 ?_;refine b7 [0,8,9,10] (Or.inr (by simp)) ?_;simp only[zP,Nat.reduceEqDiff,reduceIte];refine g8 [0,8,9] (α:=Nat) (fun k=>[(10,I k)]) (fun k=>[hSa (.fptr x 1 0 0) l sv.length vs fs cuts.length,hNa g fe wi,some (.els 1 (sv.map i8)),some (.els 1 (fe.map i8)),some (.els 4 (cuts.map Cu.cells))]) (fun k=>k≤l.length∧∀j,j<k→B8 g ⟨fe,wi⟩ l sv j=false) (fun k=>l.length-k) 0 ?_ ?_ ?_
 ·exact⟨Nat.zero_le _,fun j hj=>by omega⟩
 ·exact m8 (j7 (by simp)) (by simp)
 rintro k ⟨k1,k2⟩;simp only[zP,Nat.reduceEqDiff,reduceIte];refine gS fun K hK=>?_;simp -dsimp;apply hK;clear hK K;refine b9 fun K2 hK2=>?_;refine d8 rfl (fun hc0=>?_) (fun hc0=>?_)
 ·have hkl:k<l.length:=by simpa using hc0
  obtain⟨y,hy⟩:∃y,l[k]?=some y:=⟨_,List.getElem?_eq_getElem hkl⟩;have hye:ldA l k=y:=by have:=t6 hkl;rw[hy]at this;exact(Option.some.inj this).symm
  have wk:=zW k (by omega);have gb:=s7 (l:=sv) (k:=k) (by omega);have hya:=hld y (List.mem_of_getElem? hy);have hpl:=r9 (s6 g ⟨fe,wi⟩ y.At.toNat);have hpo:=L8 g ⟨fe,wi⟩ y.At.toNat;have hdk:B8 g ⟨fe,wi⟩ l sv k=(bAt sv k&&(decide (y.Units≠0)&&decide ((n8 g ⟨fe,wi⟩ (upN (s6 g ⟨fe,wi⟩ y.At.toNat))).length=0))):=by unfold B8;rw[hye]
  refine e9 ?_;simp only[zT,reduceIte,Nat.reduceEqDiff];refine hK2 _ _ ?_;refine b7 [0,8,9,10] (Or.inr (by simp)) ?_;simp only[zP,Nat.reduceEqDiff,reduceIte];refine b9 fun K3 hK3=>?_;refine d7 ?_;refine gS fun K hK=>?_;simp -dsimp [hy];apply hK;clear hK K;refine a9t [39] [0,3,4,8,9,10] [(0,stg g ⟨fe,wi⟩ l sv (fL vs) (fL fs) (cL cuts)),(3,I k),(4, .iptr y.cells)] (⟨.inr (by simp), .inr (by simp), .inr (by simp),trivial⟩) (by decide) (fun T'=>Go.AM.m6 T' 39=Bo (B8 g ⟨fe,wi⟩ l sv k)) ?_ ?_
  ·intro J1 hJ1;refine p9 l6 rfl (by decide) rfl rfl fun K hK=>?_;simp -dsimp [gb];refine f8 _ (fun hm=>a6X g ⟨fe,wi⟩ l sv (fL vs) (fL fs) (cL cuts) hnt h12 y.At hya.1 hya.2) (by simp) ?_;simp -dsimp [gb];refine f8 _ (fun hm=>a8t g ⟨fe,wi⟩ _ hnt.sf (by omega) (by omega)) (by simp) ?_;simp -dsimp [gb];refine hK _ _ _ (by decide+kernel) ?_;clear hK K;exact⟨rfl,by rw[hdk];simp;rw[Bool.eq_iff_iff];simp[and_assoc]⟩
  ·intro T' hR;refine⟨by simp,?_⟩;simp only[List.map_cons,List.map_nil,List.cons_append,List.nil_append,hR,b1p,Go.AM.m6,Nat.reduceEqDiff,reduceIte];refine d8 rfl (fun hc1=>?_) (fun hc1=>?_)
   ·obtain⟨e1,e2,e3⟩:=ht k hkl hc1 k2;subst e1 e2 e3;refine gS fun K hK=>?_;simp -dsimp;refine k8 [0,1] [2,3,4] [some 0,some 1,none,none,none,none,some 2,some 3,some 4] ((b3b x g fe wi l sv vs fs cuts 1 k ⟨0,1⟩ (by omega) hc).keep (Hk:=[_]) (Hk':=[_]) 0 0 0 (x:=x) (i:=0) (o:=0) rfl rfl rfl rfl rfl rfl) (by decide) rfl (by simp) (by simp) rfl (by simp) ?_;simp -dsimp;apply hK;clear hK K;refine gS fun K hK=>?_;simp -dsimp;apply hK;clear hK K;exact k7 ⟨[some 0,some 1,some 6,some 7,some 8],rfl,by simp,by simp,by simp,by simp[y8,n5]⟩
   ·refine e9 ?_;simp only[zT,reduceIte,Nat.reduceEqDiff];refine hK3 _ _ ?_;refine b7 [0,8,9,10] (Or.inr (by simp)) ?_;simp only[zP,Nat.reduceEqDiff,reduceIte];refine gR fun K hK=>?_;simp -dsimp [wk];apply hK;clear hK K;simp only[zT,reduceIte,Nat.reduceEqDiff];exact⟨k+1,⟨by omega,fun j hj=>by rcases(by omega:j<k∨j=k)with h|rfl;exact k2 j h;exact hc1⟩,by omega,m8 (e8 [some 0,some 1,some 2,some 3,some 4] rfl (by simp) (by simp)) (by simp)⟩
 ·have hke:k=l.length:=by have hn:¬k<l.length:=(by simpa using hc0);omega
  subst hke;obtain⟨e1,e2,e3⟩:=hf k2;subst e1 e2 e3;refine i6 ?_;simp only[zT,reduceIte,Nat.reduceEqDiff];refine hK1 _ _ ?_;refine b7 [0] (Or.inr (by simp)) ?_;simp only[zP,Nat.reduceEqDiff,reduceIte];refine gS fun K hK=>?_;simp -dsimp;apply hK;clear hK K;exact k7 ⟨[some 0,some 1,some 2,some 3,some 4],rfl,by simp,by simp,by simp,by simp[y8,n5]⟩
theorem b8p (x:Value) (g:Gr) (fe wi:List Bool) (l:List Ld) (sv:List Bool) (vs fs:List Fr) (cuts:List Cu) (hl:l.length≤1000) (hs:sv.length=l.length) (hc:cuts.length≤1000)
  (hld:∀y∈l,0≤y.At∧y.At<g.Nodes) (hnt:o8 g ⟨[],wi⟩) (h12:V4 g ⟨[],wi⟩) (r:Bool) (sv2:List Bool) (cuts2:List Cu)
  (ht:∀i,i<l.length→B8 g ⟨[],wi⟩ l sv i=true→(∀j,j<i→B8 g ⟨[],wi⟩ l sv j=false)→r=true∧sv2=sv.set i false∧cuts2=cuts++[(⟨1,i,⟨0,1⟩⟩:Cu)])
  (hf:(∀j,j<l.length→B8 g ⟨[],wi⟩ l sv j=false)→r=false∧sv2=sv∧cuts2=cuts):
  g6 Try.prog 77 [.ptr 0 0 0] [hSb (.fptr x 1 0 0) l sv.length vs fs cuts.length,hNb g fe wi] [some (.els 1 (sv.map i8)),some (.els 4 (cuts.map Cu.cells))]
   (Bo r) [hSb (.fptr x 1 0 0) l sv2.length vs fs cuts2.length,hNb g fe wi] [some (.els 1 (sv2.map i8)),some (.els 4 (cuts2.map Cu.cells))]:=by
 refine g6.keep (Hk:=[_]) (Hk':=[_]) 0 0 0 (x:=x) (i:=0) (o:=0) ?_ rfl rfl rfl rfl rfl rfl;have hbd:=r7 hnt.gr;refine g6.of_bodyG [0] Try.func77 rfl (by decide) (by simp[Try.ntmps77]) rfl rfl ?_;intro J hJ;simp only[Try.ntmps77,Try.results77];refine gS fun K hK=>?_;simp -dsimp;apply hK;clear hK K;refine b9 fun K1 hK1=>?_;refine gS fun K hK=>?_;simp -dsimp;apply hK;clear hK K;refine d7 ?_;refine b7 [0,8,9,10] (Or.inr (by simp)) ?_;simp only[zP,Nat.reduceEqDiff,reduceIte];refine g8 [0,8,9] (α:=Nat) (fun k=>[(10,I k)]) (fun k=>[hSb (.fptr x 1 0 0) l sv.length vs fs cuts.length,hNb g fe wi,some (.els 1 (sv.map i8)),some (.els 4 (cuts.map Cu.cells))]) (fun k=>k≤l.length∧∀j,j<k→B8 g ⟨[],wi⟩ l sv j=false) (fun k=>l.length-k) 0 ?_ ?_ ?_
 ·exact⟨Nat.zero_le _,fun j hj=>by omega⟩
 ·exact m8 (j7 (by simp)) (by simp)
 rintro k ⟨k1,k2⟩;simp only[zP,Nat.reduceEqDiff,reduceIte];refine gS fun K hK=>?_;simp -dsimp;apply hK;clear hK K;refine b9 fun K2 hK2=>?_;refine d8 rfl (fun hc0=>?_) (fun hc0=>?_)
 ·have hkl:k<l.length:=by simpa using hc0
  obtain⟨y,hy⟩:∃y,l[k]?=some y:=⟨_,List.getElem?_eq_getElem hkl⟩;have hye:ldA l k=y:=by have:=t6 hkl;rw[hy]at this;exact(Option.some.inj this).symm
  have wk:=zW k (by omega);have gb:=s7 (l:=sv) (k:=k) (by omega);have hya:=hld y (List.mem_of_getElem? hy);have hpl:=r9 (s6 g ⟨[],wi⟩ y.At.toNat);have hpo:=L8 g ⟨[],wi⟩ y.At.toNat;have hdk:B8 g ⟨[],wi⟩ l sv k=(bAt sv k&&(decide (y.Units≠0)&&decide ((n8 g ⟨[],wi⟩ (upN (s6 g ⟨[],wi⟩ y.At.toNat))).length=0))):=by unfold B8;rw[hye]
  refine e9 ?_;simp only[zT,reduceIte,Nat.reduceEqDiff];refine hK2 _ _ ?_;refine b7 [0,8,9,10] (Or.inr (by simp)) ?_;simp only[zP,Nat.reduceEqDiff,reduceIte];refine b9 fun K3 hK3=>?_;refine d7 ?_;refine gS fun K hK=>?_;simp -dsimp [hy];apply hK;clear hK K;refine a9t [39] [0,3,4,8,9,10] [(0,stg g ⟨[],wi⟩ l sv (fL vs) (fL fs) (cL cuts)),(3,I k),(4, .iptr y.cells)] (⟨.inr (by simp), .inr (by simp), .inr (by simp),trivial⟩) (by decide) (fun T'=>Go.AM.m6 T' 39=Bo (B8 g ⟨[],wi⟩ l sv k)) ?_ ?_
  ·intro J1 hJ1;refine p9 l6 rfl (by decide) rfl rfl fun K hK=>?_;simp -dsimp [gb];refine f8 _ (fun hm=>a6X g ⟨[],wi⟩ l sv (fL vs) (fL fs) (cL cuts) hnt h12 y.At hya.1 hya.2) (by simp) ?_;simp -dsimp [gb];refine f8 _ (fun hm=>a8t g ⟨[],wi⟩ _ hnt.sf (by omega) (by omega)) (by simp) ?_;simp -dsimp [gb];refine hK _ _ _ (by decide+kernel) ?_;clear hK K;exact⟨rfl,by rw[hdk];simp;rw[Bool.eq_iff_iff];simp[and_assoc]⟩
  ·intro T' hR;refine⟨by simp,?_⟩;simp only[List.map_cons,List.map_nil,List.cons_append,List.nil_append,hR,b1p,Go.AM.m6,Nat.reduceEqDiff,reduceIte];refine d8 rfl (fun hc1=>?_) (fun hc1=>?_)
   ·obtain⟨e1,e2,e3⟩:=ht k hkl hc1 k2;subst e1 e2 e3;refine gS fun K hK=>?_;simp -dsimp;refine k8 [0,1] [2,3] [some 0,some 1,none,none,none,some 2,some 3] ((b2O x g fe wi l sv vs fs cuts 1 k ⟨0,1⟩ (by omega) hc).keep (Hk:=[_]) (Hk':=[_]) 0 0 0 (x:=x) (i:=0) (o:=0) rfl rfl rfl rfl rfl rfl) (by decide) rfl (by simp) (by simp) rfl (by simp) ?_;simp -dsimp;apply hK;clear hK K;refine gS fun K hK=>?_;simp -dsimp;apply hK;clear hK K;exact k7 ⟨[some 0,some 1,some 5,some 6],rfl,by simp,by simp,by simp,by simp[y8,n5]⟩
   ·refine e9 ?_;simp only[zT,reduceIte,Nat.reduceEqDiff];refine hK3 _ _ ?_;refine b7 [0,8,9,10] (Or.inr (by simp)) ?_;simp only[zP,Nat.reduceEqDiff,reduceIte];refine gR fun K hK=>?_;simp -dsimp [wk];apply hK;clear hK K;simp only[zT,reduceIte,Nat.reduceEqDiff];exact⟨k+1,⟨by omega,fun j hj=>by rcases(by omega:j<k∨j=k)with h|rfl;exact k2 j h;exact hc1⟩,by omega,m8 (e8 [some 0,some 1,some 2,some 3] rfl (by simp) (by simp)) (by simp)⟩
 ·have hke:k=l.length:=by have hn:¬k<l.length:=(by simpa using hc0);omega
  subst hke;obtain⟨e1,e2,e3⟩:=hf k2;subst e1 e2 e3;refine i6 ?_;simp only[zT,reduceIte,Nat.reduceEqDiff];refine hK1 _ _ ?_;refine b7 [0] (Or.inr (by simp)) ?_;simp only[zP,Nat.reduceEqDiff,reduceIte];refine gS fun K hK=>?_;simp -dsimp;apply hK;clear hK K;exact k7 ⟨[some 0,some 1,some 2,some 3],rfl,by simp,by simp,by simp,by simp[y8,n5]⟩
end Go.Cur
end
section
namespace Go.Cur
open Go.AM Go.Proofs
theorem a5a (l:List Ld) (sv:List Bool) (hl:l.length≤1000) (hs:sv.length=l.length):g6 Try.prog 50 [lL l,bL sv] [] [] (.mp 0) [] [some (.map false [.i .i64] (tkK l sv))]:=by
 refine g6.of_bodyG [] Try.func50 rfl (by decide) (by simp[Try.ntmps50]) rfl rfl ?_;intro J hJ;simp only[Try.ntmps50,Try.results50];refine gS fun K hK=>?_;simp -dsimp;apply hK;clear hK K;refine gS fun K hK=>?_;simp -dsimp;apply hK;clear hK K;refine b9 fun K1 hK1=>?_;refine gS fun K hK=>?_;simp -dsimp;apply hK;clear hK K;refine d7 ?_;refine b7 [1,5,9,10,11] (Or.inr (by simp)) ?_;simp only[zP,Nat.reduceEqDiff,reduceIte];refine g8 [1,5,9,10] (α:=Nat) (fun k=>[(11,I k)]) (fun k=>[some (.map false [.i .i64] (tkK (l.take k) (sv.take k)))]) (fun k=>k≤l.length) (fun k=>l.length-k) 0 ?_ ?_ ?_
 ·exact Nat.zero_le _
 ·exact m8 (j7 (by simp[tkK])) (by simp)
 rintro k k1;simp only[zP,Nat.reduceEqDiff,reduceIte];refine gS fun K hK=>?_;simp -dsimp;apply hK;clear hK K;refine b9 fun K2 hK2=>?_;refine d8 rfl (fun hc0=>?_) (fun hc0=>?_)
 ·have hkl:k<l.length:=by simpa using hc0
  obtain⟨f,hf⟩:∃f,l[k]?=some f:=⟨_,List.getElem?_eq_getElem hkl⟩;have wk:=zW k (by omega);have gb:=s7 (l:=sv) (k:=k) (by omega);have hsn:=a9M hf gb;have hne:¬sv=[]:=by intro e;rw[e]at hs;simp at hs;omega
  refine e9 ?_;simp only[zT,reduceIte,Nat.reduceEqDiff];refine hK2 _ _ ?_;refine b7 [1,5,9,10,11] (Or.inr (by simp)) ?_;simp only[zP,Nat.reduceEqDiff,reduceIte];refine b9 fun K3 hK3=>?_;refine d7 ?_;refine gS fun K hK=>?_;simp -dsimp [hf];apply hK;clear hK K;refine gS fun K hK=>?_;simp -dsimp [gb,hne];refine j8 (i8 (bAt sv k)) (fun _=>by simp[gb]) ?_;simp -dsimp [gb,hne];apply hK;clear hK K;refine d8 rfl (fun hc1=>?_) (fun hc1=>?_)
  ·refine gR fun K hK=>?_;simp -dsimp;apply hK;clear hK K;simp only[zT,reduceIte,Nat.reduceEqDiff];refine hK3 _ _ ?_;refine b7 [1,5,9,10,11] (Or.inr (by simp)) ?_;simp only[zP,Nat.reduceEqDiff,reduceIte];refine gR fun K hK=>?_;simp -dsimp [wk];apply hK;clear hK K;simp only[zT,reduceIte,Nat.reduceEqDiff];have hb:bAt sv k=true:=by simpa using hc1
   exact⟨k+1,by omega,by omega,m8 (e8 [some 0] rfl (by simp) (by simp[hsn,tkS,hb])) (by simp)⟩
  ·refine e9 ?_;simp only[zT,reduceIte,Nat.reduceEqDiff];refine hK3 _ _ ?_;refine b7 [1,5,9,10,11] (Or.inr (by simp)) ?_;simp only[zP,Nat.reduceEqDiff,reduceIte];refine gR fun K hK=>?_;simp -dsimp [wk];apply hK;clear hK K;simp only[zT,reduceIte,Nat.reduceEqDiff];have hb:bAt sv k=false:=by simpa using hc1
   exact⟨k+1,by omega,by omega,m8 (e8 [some 0] rfl (by simp) (by simp[hsn,tkS,hb])) (by simp)⟩
 ·have hke:k=l.length:=by have hn:¬k<l.length:=(by simpa using hc0);omega
  subst hke;have htk:sv.take l.length=sv:=List.take_of_length_le (by omega);refine i6 ?_;simp only[zT,reduceIte,Nat.reduceEqDiff];refine hK1 _ _ ?_;refine b7 [5] (Or.inr (by simp)) ?_;simp only[zP,Nat.reduceEqDiff,reduceIte];refine gS fun K hK=>?_;simp -dsimp;apply hK;clear hK K;exact k7 ⟨[some 0],rfl,by simp,by simp[htk],by simp,by simp[y8,n5]⟩
def O8 (g:Gr) (s:Sta) (us:Kvs) (y:Ld):Bool:=decide (y.Units<0)&&decide (B3 us (s6 g s y.At.toNat)<0)
theorem b7Q (g:Gr) (s:Sta) (l:List Ld) (sv:List Bool) (v f c:AV) (hnt:o8 g s) (h12:V4 g s) (us:Kvs) (hI:a1s us) (hus:∀x,-40≤igt us x∧igt us x≤40) (y:Ld) (h0:0≤y.At) (h1:y.At<g.Nodes):
  d5 Try.prog 97 (.agg y.cells::a5V [[stg g s l sv v f c],[.mpc false [.i .i64] us]]) (Bo (O8 g s us y)):=by
 show d5 Try.prog 97 [.agg y.cells, .iptr [stg g s l sv v f c], .iptr [.mpc false [.i .i64] us]] (Bo (O8 g s us y));have hp:=a6X g s l sv v f c hnt h12 y.At h0 h1;have hbd:=r7 hnt.gr;have hpo:=L8 g s y.At.toNat;unfold O8;generalize s6 g s y.At.toNat=p at hp hpo ⊢;have hpl:=r9 p;refine d5.of_body Try.func97 rfl (by decide) (by simp[Try.ntmps97]) ?_;simp only[Try.ntmps97,Try.results97];refine aS fun K hK=>?_;simp -dsimp;apply hK;clear hK K;refine aS fun K hK=>?_;simp -dsimp;apply hK;clear hK K;refine d4 fun K1 hK1=>?_;refine aS fun K hK=>?_;simp -dsimp;refine d6 _ (hp) (by simp) ?_;simp -dsimp;apply hK;clear hK K;refine e7 ?_;refine b8 [2,3,5,11,12,13] ?_;simp only[zP,Nat.reduceEqDiff,reduceIte];refine g9 [2,3,11,12] (α:=Nat) (fun k=>[(5,I (B3 us (p.take k))),(13,I k)]) (fun k=>[some (.els 3 [y.cells])]) (fun k=>k≤p.length) (fun k=>p.length-k) 0 ?_ ?_ ?_
 ·exact Nat.zero_le _
 ·exact j7 (by simp[B3,sm])
 rintro k k1;simp only[zP,Nat.reduceEqDiff,reduceIte];refine aS fun K hK=>?_;simp -dsimp;apply hK;clear hK K;refine d4 fun K2 hK2=>?_;refine d9 rfl (fun hc0=>?_) (fun hc0=>?_)
 ·have hkn:k<p.length:=by rw[←hpl];simpa using hc0
  obtain⟨x,hx⟩:∃x,p[k]?=some x:=⟨_,List.getElem?_eq_getElem hkn⟩;have gx:=F1 hx;have wk:=zW k (by omega);have hsb:=a2V hus (p.take k);have htl:(p.take k).length=k:=by rw[List.length_take];omega
  rw[htl]at hsb;have ws:IntKind.i64.wrap (B3 us (p.take k)+igt us x)=B3 us (p.take k)+igt us x:=i7 (by have:=hus x;omega) (by have:=hus x;omega);refine f6 ?_;simp only[zT,reduceIte,Nat.reduceEqDiff];refine hK2 _ _ ?_;refine b8 [2,3,5,11,12,13] ?_;simp only[zP,Nat.reduceEqDiff,reduceIte];refine d4 fun K3 hK3=>?_;refine e7 ?_;refine aS fun K hK=>?_;simp -dsimp [gx];apply hK;clear hK K;refine aR fun K hK=>?_;simp -dsimp [s9 hI,ws];refine p6 (_) (fun hm=>rfl) ?_;simp -dsimp [s9 hI,ws];apply hK;clear hK K;simp only[zT,reduceIte,Nat.reduceEqDiff];refine hK3 _ _ ?_;refine b8 [2,3,5,11,12,13] ?_;simp only[zP,Nat.reduceEqDiff,reduceIte];refine aR fun K hK=>?_;simp -dsimp [wk];apply hK;clear hK K;simp only[zT,reduceIte,Nat.reduceEqDiff];exact⟨k+1,by omega,by omega,e8 [some 0] rfl (by simp[X2 hx]) (by simp)⟩
 ·have hkp:¬k<p.length:=by rw[←hpl];simpa using hc0
  have htp:p.take k=p:=List.take_of_length_le (by omega);rw[htp];refine j9 ?_;simp only[zT,reduceIte,Nat.reduceEqDiff];refine hK1 _ _ ?_;refine b8 [3,5] ?_;simp only[zP,Nat.reduceEqDiff,reduceIte];refine aS fun K hK=>?_;simp -dsimp;apply hK;clear hK K;exact g7 (by simp)
theorem a8a (x:Value) (g:Gr) (fe wi:List Bool) (l:List Ld) (sv:List Bool) (vs fs:List Fr) (cuts:List Cu) (hl:l.length≤1000) (hs:sv.length=l.length) (hc:cuts.length≤1000)
  (hld:∀y∈l,0≤y.At∧y.At<g.Nodes) (hnt:o8 g ⟨fe,wi⟩) (h12:V4 g ⟨fe,wi⟩) (hus:∀x,-40≤igt (tkK l sv) x∧igt (tkK l sv) x≤40) (r:Bool) (sv2:List Bool) (cuts2:List Cu)
  (ht:∀i:Nat,leL l sv (O8 g ⟨fe,wi⟩ (tkK l sv)) l.length=i→r=true∧sv2=sv.set i false∧cuts2=cuts++[(⟨2,i,⟨(ldA l i).Units,1⟩⟩:Cu)])
  (hf:leL l sv (O8 g ⟨fe,wi⟩ (tkK l sv)) l.length<0→r=false∧sv2=sv∧cuts2=cuts):
  g6 Try.prog 78 [.ptr 0 0 0] [hSa (.fptr x 1 0 0) l sv.length vs fs cuts.length,hNa g fe wi] [some (.els 1 (sv.map i8)),some (.els 1 (fe.map i8)),some (.els 4 (cuts.map Cu.cells))]
   (Bo r) [hSa (.fptr x 1 0 0) l sv2.length vs fs cuts2.length,hNa g fe wi] [some (.els 1 (sv2.map i8)),some (.els 1 (fe.map i8)),some (.els 4 (cuts2.map Cu.cells))]:=by
 refine g6.keep (Hk:=[_]) (Hk':=[_]) 0 0 0 (x:=x) (i:=0) (o:=0) ?_ rfl rfl rfl rfl rfl rfl;have hlb:=O4 l sv (O8 g ⟨fe,wi⟩ (tkK l sv)) l.length;have hle:=a5k (net g ⟨fe,wi⟩) l sv (fL vs) (fL fs) (cL cuts) 97 [[stg g ⟨fe,wi⟩ l sv (fL vs) (fL fs) (cL cuts)],[.mpc false [.i .i64] (tkK l sv)]] (O8 g ⟨fe,wi⟩ (tkK l sv)) hl hs
  (fun y hy=>b7Q g ⟨fe,wi⟩ l sv (fL vs) (fL fs) (cL cuts) hnt h12 (tkK l sv) (a4E l sv) hus y (hld y hy).1 (hld y hy).2)
 generalize leL l sv (O8 g ⟨fe,wi⟩ (tkK l sv)) l.length=out at ht hf hlb hle;refine g6.of_bodyG [0] Try.func78 rfl (by decide) (by simp[Try.ntmps78]) rfl rfl ?_;intro J hJ;simp only[Try.ntmps78,Try.results78];refine gS fun K hK=>?_;simp -dsimp;apply hK;clear hK K;refine s4 l6 rfl (by decide) rfl rfl fun K hK=>?_;simp -dsimp;refine D6 [] [] [none,none,none,none,none,none,some 0] (a5a l sv hl hs) (by decide) rfl (by simp) (by simp) rfl (by simp) (by simp) (by simp) ?_;simp -dsimp;refine hK _ _ _ (by decide+kernel) ?_;clear hK K;refine gS fun K hK=>?_;simp -dsimp;refine d6 _ (hle) (by simp) ?_;simp -dsimp;apply hK;clear hK K;refine b9 fun K1 hK1=>?_;refine gS fun K hK=>?_;simp -dsimp;apply hK;clear hK K;refine d8 rfl (fun hc0=>?_) (fun hc0=>?_)
 ·obtain⟨i,rfl⟩:∃i:Nat,out=i:=⟨out.toNat,by have:0≤out:=(by simpa using hc0);omega⟩;have gl:=t6 (l:=l) (k:=i) (by omega);obtain⟨e1,e2,e3⟩:=ht i rfl;subst e1 e2 e3;refine p9 l6 rfl (by decide) rfl rfl fun K hK=>?_;simp -dsimp [gl];refine k8 [0,1] [2,3,4] [some 0,some 1,none,none,none,none,none,none,some 2,some 3,some 4] ((b3b x g fe wi l sv vs fs cuts 2 i ⟨(ldA l i).Units,1⟩ (by omega) hc).keep (Hk:=[_]) (Hk':=[_]) 0 0 0 (x:=x) (i:=0) (o:=0) rfl rfl rfl rfl rfl rfl) (by decide) rfl (by simp) (by simp) rfl (by simp) ?_;simp -dsimp [gl];refine hK _ _ _ (by decide+kernel) ?_;clear hK K;simp only[zT,reduceIte,Nat.reduceEqDiff];refine hK1 _ _ ?_;refine b7 [0,4] (Or.inr (by simp)) ?_;simp only[zP,Nat.reduceEqDiff,reduceIte];refine gS fun K hK=>?_;simp -dsimp;apply hK;clear hK K;exact k7 ⟨[some 0,some 1,some 8,some 9,some 10],rfl,by simp,by simp,by simp,by simp[y8,n5]⟩
 ·obtain⟨e1,e2,e3⟩:=hf (by have:¬0≤out:=(by simpa using hc0);omega);subst e1 e2 e3;refine e9 ?_;simp only[zT,reduceIte,Nat.reduceEqDiff];refine hK1 _ _ ?_;refine b7 [0,4] (Or.inr (by simp)) ?_;simp only[zP,Nat.reduceEqDiff,reduceIte];refine gS fun K hK=>?_;simp -dsimp;apply hK;clear hK K;exact k7 ⟨[some 0,some 1,some 2,some 3,some 4],rfl,by simp,by simp,by simp,by simp at hc0;simp[y8,n5];omega⟩
theorem a8E (x:Value) (g:Gr) (fe wi:List Bool) (l:List Ld) (sv:List Bool) (vs fs:List Fr) (cuts:List Cu) (hl:l.length≤1000) (hs:sv.length=l.length) (hc:cuts.length≤1000)
  (hld:∀y∈l,0≤y.At∧y.At<g.Nodes) (hnt:o8 g ⟨[],wi⟩) (h12:V4 g ⟨[],wi⟩) (hus:∀x,-40≤igt (tkK l sv) x∧igt (tkK l sv) x≤40) (r:Bool) (sv2:List Bool) (cuts2:List Cu)
  (ht:∀i:Nat,leL l sv (O8 g ⟨[],wi⟩ (tkK l sv)) l.length=i→r=true∧sv2=sv.set i false∧cuts2=cuts++[(⟨2,i,⟨(ldA l i).Units,1⟩⟩:Cu)])
  (hf:leL l sv (O8 g ⟨[],wi⟩ (tkK l sv)) l.length<0→r=false∧sv2=sv∧cuts2=cuts):
  g6 Try.prog 78 [.ptr 0 0 0] [hSb (.fptr x 1 0 0) l sv.length vs fs cuts.length,hNb g fe wi] [some (.els 1 (sv.map i8)),some (.els 4 (cuts.map Cu.cells))]
   (Bo r) [hSb (.fptr x 1 0 0) l sv2.length vs fs cuts2.length,hNb g fe wi] [some (.els 1 (sv2.map i8)),some (.els 4 (cuts2.map Cu.cells))]:=by
 refine g6.keep (Hk:=[_]) (Hk':=[_]) 0 0 0 (x:=x) (i:=0) (o:=0) ?_ rfl rfl rfl rfl rfl rfl;have hlb:=O4 l sv (O8 g ⟨[],wi⟩ (tkK l sv)) l.length;have hle:=a5k (net g ⟨[],wi⟩) l sv (fL vs) (fL fs) (cL cuts) 97 [[stg g ⟨[],wi⟩ l sv (fL vs) (fL fs) (cL cuts)],[.mpc false [.i .i64] (tkK l sv)]] (O8 g ⟨[],wi⟩ (tkK l sv)) hl hs
  (fun y hy=>b7Q g ⟨[],wi⟩ l sv (fL vs) (fL fs) (cL cuts) hnt h12 (tkK l sv) (a4E l sv) hus y (hld y hy).1 (hld y hy).2)
 generalize leL l sv (O8 g ⟨[],wi⟩ (tkK l sv)) l.length=out at ht hf hlb hle;refine g6.of_bodyG [0] Try.func78 rfl (by decide) (by simp[Try.ntmps78]) rfl rfl ?_;intro J hJ;simp only[Try.ntmps78,Try.results78];refine gS fun K hK=>?_;simp -dsimp;apply hK;clear hK K;refine s4 l6 rfl (by decide) rfl rfl fun K hK=>?_;simp -dsimp;refine D6 [] [] [none,none,none,none,none,some 0] (a5a l sv hl hs) (by decide) rfl (by simp) (by simp) rfl (by simp) (by simp) (by simp) ?_;simp -dsimp;refine hK _ _ _ (by decide+kernel) ?_;clear hK K;refine gS fun K hK=>?_;simp -dsimp;refine d6 _ (hle) (by simp) ?_;simp -dsimp;apply hK;clear hK K;refine b9 fun K1 hK1=>?_;refine gS fun K hK=>?_;simp -dsimp;apply hK;clear hK K;refine d8 rfl (fun hc0=>?_) (fun hc0=>?_)
 ·obtain⟨i,rfl⟩:∃i:Nat,out=i:=⟨out.toNat,by have:0≤out:=(by simpa using hc0);omega⟩;have gl:=t6 (l:=l) (k:=i) (by omega);obtain⟨e1,e2,e3⟩:=ht i rfl;subst e1 e2 e3;refine p9 l6 rfl (by decide) rfl rfl fun K hK=>?_;simp -dsimp [gl];refine k8 [0,1] [2,3] [some 0,some 1,none,none,none,none,none,some 2,some 3] ((b2O x g fe wi l sv vs fs cuts 2 i ⟨(ldA l i).Units,1⟩ (by omega) hc).keep (Hk:=[_]) (Hk':=[_]) 0 0 0 (x:=x) (i:=0) (o:=0) rfl rfl rfl rfl rfl rfl) (by decide) rfl (by simp) (by simp) rfl (by simp) ?_;simp -dsimp [gl];refine hK _ _ _ (by decide+kernel) ?_;clear hK K;simp only[zT,reduceIte,Nat.reduceEqDiff];refine hK1 _ _ ?_;refine b7 [0,4] (Or.inr (by simp)) ?_;simp only[zP,Nat.reduceEqDiff,reduceIte];refine gS fun K hK=>?_;simp -dsimp;apply hK;clear hK K;exact k7 ⟨[some 0,some 1,some 7,some 8],rfl,by simp,by simp,by simp,by simp[y8,n5]⟩
 ·obtain⟨e1,e2,e3⟩:=hf (by have:¬0≤out:=(by simpa using hc0);omega);subst e1 e2 e3;refine e9 ?_;simp only[zT,reduceIte,Nat.reduceEqDiff];refine hK1 _ _ ?_;refine b7 [0,4] (Or.inr (by simp)) ?_;simp only[zP,Nat.reduceEqDiff,reduceIte];refine gS fun K hK=>?_;simp -dsimp;apply hK;clear hK K;exact k7 ⟨[some 0,some 1,some 2,some 3],rfl,by simp,by simp,by simp,by simp at hc0;simp[y8,n5];omega⟩
end Go.Cur
end
section
namespace Go.Cur
open Go.AM Go.Proofs
def a9b (s:Kvs):Prop:=∀p∈s,∃b,p.2= .bool b
def ibt (s:Kvs) (x:Int):Bool:=match t7 s (ik x)with|some (.bool b)=>b|_=>false
theorem a9r {s:Kvs} (hs:a9b s) (x:Int):(t7 s (ik x)).getD (.bool false)= .bool (ibt s x):=by
 unfold ibt
 cases h:t7 s (ik x)with
 |none=>rfl
 |some v=>
  obtain⟨p,hp,e⟩:=c0I h;obtain⟨n,hn⟩:=hs p hp;rw[←e,hn];rfl
theorem a9b.set {s:Kvs} (hs:a9b s) (x:Int) (b:Bool):a9b (y5 s (ik x) (.bool b)):=fun p hp=>by
 rcases a6R hp with rfl|hp
 ·exact⟨b,rfl⟩
 ·exact hs p hp
theorem a9b.nil:a9b []:=fun p hp=>by cases hp
theorem b9g (s:Kvs) (x y:Int) (b:Bool):ibt (y5 s (ik x) (.bool b)) y=if y=x then b else ibt s y:=by
 unfold ibt;rw[a4b]
 by_cases h:y=x
 ·rw[if_pos (by rw[h]),if_pos h]
 ·rw[if_neg (fun e=>h (P1.1 e)),if_neg h]
@[simp] theorem b3t (x:Int):ibt [] x=false:=rfl
def Y2 (bs:Kvs) (y:Ld):Bool:=decide (0<y.Units)&&ibt bs y.At
theorem b7p (bs:Kvs) (hb:a9b bs) (y:Ld):d5 Try.prog 98 (.agg y.cells::a5V [[.mpc false [.i .i64] bs]]) (Bo (Y2 bs y)):=by
 show d5 Try.prog 98 [.agg y.cells, .iptr [.mpc false [.i .i64] bs]] (Bo (Y2 bs y));unfold Y2;refine d5.of_body Try.func98 rfl (by decide) (by simp[Try.ntmps98]) ?_;simp only[Try.ntmps98,Try.results98];refine aS fun K hK=>?_;simp -dsimp;apply hK;clear hK K;refine aS fun K hK=>?_;simp -dsimp [a9r hb];refine p6 (_) (fun hm=>rfl) ?_;simp -dsimp [a9r hb];apply hK;clear hK K;exact g7 (by simp)
theorem a2N (g:Gr) (s:Sta) (us:Kvs) (hnt:o8 g s) (h12:V4 g s) (vf:Nat→Fr) (hv:∀p∈l8 g s,∃v d,a4y g s us p v d vf):
  g6 Try.prog 49 [net g s, .mpc false [.i .i64] us] [] [] (.tup [.agg [.row 0 0 g.Nodes.toNat, .row 1 0 g.Feeds.length],Bo true]) []
   [some (.els 2 ((vlA g.Nodes.toNat vf).map Fr.cells)),some (.els 2 ((flA g s vf).map Fr.cells)),some (.els 2 [[.row 0 0 g.Nodes.toNat, .row 1 0 g.Feeds.length]]),some (.els 1 [[Bo true]])]:=by
 have hbd:=r7 hnt.gr;obtain⟨N,hnn⟩:∃N:Nat,g.Nodes.toNat=N:=⟨g.Nodes.toNat,rfl⟩;have hn0:0≤g.Nodes:=by omega
 rw[hnn];have hit:=b2Q g s hnt h12;have hc:=a7B (ntC g (bL s.Feeds) (bL s.Wires));have hcov:=fun k=>G0 (k:=k) hnt;have hlt:=fun p (hp:p∈l8 g s) k (hk:k∈p)=>Z3 hp hk;rw[hnn]at hcov hlt;have h12':∀p∈l8 g s,p.length≤12:=h12;generalize l8 g s=L at hit hv hcov hlt h12';have f0:C7 N 17:=k9 (by omega) (by omega);have f1:C7 g.Feeds.length 17:=k9 (by omega) (by omega);refine g6.of_bodyG [] Try.func49 rfl (by decide) (by simp[Try.ntmps49]) rfl rfl ?_;intro J hJ;simp only[Try.ntmps49,Try.results49];refine gS fun K hK=>?_;simp -dsimp;apply hK;clear hK K;refine s4 l6 rfl (by decide) rfl rfl fun K hK=>?_;simp -dsimp [hn0,hnn,f0,f1];refine hK _ _ _ (by decide+kernel) ?_;clear hK K;refine b9 fun K1 hK1=>?_;refine gS fun K hK=>?_;simp -dsimp;refine d6 _ (hc) (by simp) ?_;simp -dsimp;apply hK;clear hK K;refine d7 ?_;refine b7 [2,3,4,5,6,32] (Or.inr (by simp)) ?_;simp only[zP,Nat.reduceEqDiff,reduceIte];refine V3 hJ [2,3,4,5,6,32] (fun t=>[some (.els 1 [[net g s]]),some (.els 1 [[.mpc false [.i .i64] us]]),some (.els 2 [[.v (.slice none 0 0), .v (.slice none 0 0)]]),some (.els 1 [[Bo false]]),some (.els 2 ((vlF N vf (L.take t).flatten).map Fr.cells)),some (.els 2 ((flF g s vf 0).map Fr.cells)),some (.els 2 [[.row 4 0 N, .row 5 0 g.Feeds.length]])]) (fun t=>True) rfl (hit) rfl (by simp) (by decide) (by decide) (by decide) (a8s L) ?_ ?_ ?_ ?_
 ·trivial
 ·exact e8 [some 0,some 1,some 2,some 3,some 4,some 5,some 6] rfl (by simp) (by simp[b3E,b5k])
 ·intro n xv hxn hi l1 J1 hJ1;obtain⟨p,hp,rfl⟩:∃p,L[n]?=some p∧pAV p=xv:=by simpa using hxn
  have hpm:=List.mem_of_getElem? hp;obtain⟨v,d,hV⟩:=hv p hpm;have hpl:=r9 p;have hcall:=hV.call;have hvl:=hV.len;have hp12:=h12' p hpm;have hd0:=hV.d0;have hd1:=hV.d1;simp only[pAV];simp only[List.zip_cons_cons,List.zip_nil_left,List.zip_nil_right,List.cons_append,List.nil_append];refine gR fun K hK=>?_;simp -dsimp;apply hK;clear hK K;simp only[b0z];intro J2 hJ2;refine b7 [2,3,4,5,6,7,32] (Or.inr (by simp)) ?_;simp only[zP,Nat.reduceEqDiff,reduceIte];refine d7 ?_;refine gS fun K hK=>?_;simp -dsimp;refine d6 _ (hcall) (by simp) ?_;simp -dsimp;apply hK;clear hK K;refine b9 fun K2 hK2=>?_;refine gS fun K hK=>?_;simp -dsimp;apply hK;clear hK K;refine d8 rfl (fun hc0=>?_) (fun hc0=>?_)
  ·simp at hc0
  ·refine e9 ?_;simp only[zT,reduceIte,Nat.reduceEqDiff];refine hK2 _ _ ?_;refine b7 [2,3,4,5,6,7,8,9,32] (Or.inr (by simp)) ?_;simp only[zP,Nat.reduceEqDiff,reduceIte];refine gS fun K hK=>?_;simp -dsimp;apply hK;clear hK K;refine d7 ?_;refine b7 [2,3,4,5,6,8,9,32,45,46,47] (Or.inr (by simp)) ?_;simp only[zP,Nat.reduceEqDiff,reduceIte];refine g8 [2,3,4,5,6,8,9,32,45,46] (α:=Nat) (fun i=>[(47,I i)]) (fun i=>[some (.els 1 [[net g s]]),some (.els 1 [[.mpc false [.i .i64] us]]),some (.els 2 [[.v (.slice none 0 0), .v (.slice none 0 0)]]),some (.els 1 [[Bo false]]),some (.els 2 ((vlF N vf ((L.take n).flatten++p.take i)).map Fr.cells)),some (.els 2 ((flF g s vf 0).map Fr.cells)),some (.els 2 [[.row 4 0 N, .row 5 0 g.Feeds.length]])]) (fun i=>i≤p.length) (fun i=>p.length-i) 0 ?_ ?_ ?_
   ·exact Nat.zero_le _
   ·exact m8 (e8 [some 0,some 1,some 2,some 3,some 4,some 5,some 6] rfl (by simp) (by simp)) (by simp)
   rintro i i1;simp only[zP,Nat.reduceEqDiff,reduceIte];refine gS fun K hK=>?_;simp -dsimp;apply hK;clear hK K;refine b9 fun K3 hK3=>?_;refine d8 rfl (fun hc1=>?_) (fun hc1=>?_)
   ·have hil:i<p.length:=by rw[←hpl];simpa using hc1
    obtain⟨k,hk⟩:∃k,p[i]?=some k:=⟨_,List.getElem?_eq_getElem hil⟩;have gk:=F1 hk;have gv:=B9 (l:=v) (k:=i) (by omega);have hkN:=hlt p hpm k (List.mem_of_getElem? hk);have wi:=zW i (by omega);have hnb:=hV.nb _ (List.mem_of_getElem? gv);have hfr:=a3L (at0 v (i:Nat)) d hd0 (by omega) (by omega) (by omega);have hfk:=hV.fr i k hk;rw[←hfk]at hfr;have hvls:=a8L N vf ((L.take n).flatten++p.take i);have gvl:=a4F (vf:=vf) (done:=(L.take n).flatten++p.take i) hkN;have hst:=b4o (n:=N) (vf:=vf) (done:=(L.take n).flatten++p.take i) (k:=k);have hpt:p.take (i+1)=p.take i++[k]:=by rw[List.take_add_one,hk];rfl
    rw[List.append_assoc,←hpt]at hst;generalize vlF N vf ((L.take n).flatten++p.take i)=VL at hvls gvl hst ⊢;refine e9 ?_;simp only[zT,reduceIte,Nat.reduceEqDiff];refine hK3 _ _ ?_;refine b7 [2,3,4,5,6,8,9,32,45,46,47] (Or.inr (by simp)) ?_;simp only[zP,Nat.reduceEqDiff,reduceIte];refine b9 fun K4 hK4=>?_;refine d7 ?_;refine gS fun K hK=>?_;simp -dsimp [gk];apply hK;clear hK K;refine p9 l6 rfl (by decide) rfl rfl fun K hK=>?_;simp -dsimp [gv,hkN,hvls,gvl];refine d6 _ (hfr) (by simp) ?_;simp -dsimp [gv,hkN,hvls,gvl];refine hK _ _ _ (by decide+kernel) ?_;clear hK K;simp only[zT,reduceIte,Nat.reduceEqDiff];refine hK4 _ _ ?_;refine b7 [2,3,4,5,6,8,9,32,45,46,47] (Or.inr (by simp)) ?_;simp only[zP,Nat.reduceEqDiff,reduceIte];refine gR fun K hK=>?_;simp -dsimp [wi];apply hK;clear hK K;simp only[zT,reduceIte,Nat.reduceEqDiff];exact⟨i+1,by omega,by omega,m8 (e8 [some 0,some 1,some 2,some 3,some 4,some 5,some 6] rfl (by simp) (by simp[←hst,List.map_set])) (by simp)⟩
   ·have hil:¬i<p.length:=by rw[←hpl];simpa using hc1
    have hpt:p.take i=p:=List.take_of_length_le (by omega);rw[hpt];refine i6 ?_;simp only[V8,D1,a3E,reduceIte,Nat.reduceEqDiff,eq_self];have hfl:(L.take (n+1)).flatten=(L.take n).flatten++p:=by rw[List.take_add_one,hp,List.flatten_append];simp
    exact⟨trivial,e8 [some 0,some 1,some 2,some 3,some 4,some 5,some 6] rfl (by simp) (by simp[hfl])⟩
 ·intro hdone;simp only[zT,reduceIte,Nat.reduceEqDiff];refine hK1 _ _ ?_;refine b7 [2,4,5,6] (Or.inr (by simp)) ?_;simp only[zP,Nat.reduceEqDiff,reduceIte];refine b9 fun K5 hK5=>?_;refine gS fun K hK=>?_;simp -dsimp;apply hK;clear hK K;refine d7 ?_;refine b7 [2,4,5,6,67,68,69] (Or.inr (by simp)) ?_;simp only[zP,Nat.reduceEqDiff,reduceIte];refine g8 [2,4,5,6,67,68] (α:=Nat) (fun i=>[(69,I i)]) (fun i=>[some (.els 1 [[net g s]]),some (.els 1 [[.mpc false [.i .i64] us]]),some (.els 2 [[.v (.slice none 0 0), .v (.slice none 0 0)]]),some (.els 1 [[Bo false]]),some (.els 2 ((vlA N vf).map Fr.cells)),some (.els 2 ((flF g s vf i).map Fr.cells)),some (.els 2 [[.row 4 0 N, .row 5 0 g.Feeds.length]])]) (fun i=>i≤g.Feeds.length) (fun i=>g.Feeds.length-i) 0 ?_ ?_ ?_
  ·exact Nat.zero_le _
  ·have hva:vlF N vf L.flatten=vlA N vf:=b3F fun k hk=>hcov k hk;rw[hva];exact m8 (e8 [some 0,some 1,some 2,some 3,some 4,some 5,some 6] rfl (by simp) (by simp)) (by simp)
  rintro i i1;simp only[zP,Nat.reduceEqDiff,reduceIte];refine gS fun K hK=>?_;simp -dsimp;apply hK;clear hK K;refine b9 fun K6 hK6=>?_;refine d8 rfl (fun hc2=>?_) (fun hc2=>?_)
  ·have hil:i<g.Feeds.length:=by simpa using hc2
   have hfi:g.Feeds[i]?=some (fdI g i):=by have:=M7 (g:=g) (i:=(i:Int)) (by omega) (by omega);rwa [Int.toNat_natCast]at this
   have hfb:=hnt.feeds _ (List.mem_of_getElem? hfi);have wi:=zW i (by omega);have hff:ffF g s vf i=if bAt s.Feeds i=true∧0<(fdI g i).Volts*(vf (fdI g i).At.toNat).Den-(vf (fdI g i).At.toNat).Num then red ((fdI g i).Siem*((fdI g i).Volts*(vf (fdI g i).At.toNat).Den-(vf (fdI g i).At.toNat).Num)) (vf (fdI g i).At.toNat).Den else⟨0,1⟩:=rfl;obtain⟨kA,hkA⟩:∃kA:Nat,kA=(fdI g i).At.toNat:=⟨_,rfl⟩;have hkN:kA<N:=by omega
   have hA0:0≤(fdI g i).At:=hfb.1;have gvv:=a4W (vf:=vf) hkN;have hvb:0<(vf kA).Den∧(vf kA).Den≤100000000000000∧(vf kA).Num.natAbs≤300000000000000000:=by
    obtain⟨p,hp,hkp⟩:=List.mem_flatten.1 (hcov kA hkN);obtain⟨v,d,hV⟩:=hv p hp;obtain⟨j,hj⟩:=List.getElem?_of_mem hkp;have hjl:=(List.getElem?_eq_some_iff.1 hj).1;have hd0:=hV.d0;have hd1:=hV.d1;have hr:=a6g (n:=at0 v (j:Nat)) hd0;have hgv:=B9 (l:=v) (k:=j) (by rw[hV.len];exact hjl);have hnb:=hV.nb _ (List.mem_of_getElem? hgv);rw[hV.fr j kA hj];omega
   have gfe:=a7E (s:=s) (vf:=vf) (k:=i) hil;have hfll:=b3H g s vf i;have hfst:=b9E (g:=g) (s:=s) (vf:=vf) (k:=i);have hsf:=hnt.sf;have gsf:=s7 (l:=s.Feeds) (k:=i) (by omega);rw[←hkA]at hff;generalize fdI g i=f at hfi hfb hff hkA hA0;generalize vf kA=vk at gvv hvb hff;have hvd:0≤f.Volts*vk.Den∧f.Volts*vk.Den≤100000000000000000:=⟨Int.mul_nonneg (by omega) (by omega),Int.le_trans (Int.mul_le_mul hfb.2.2.2.1 hvb.2.1 (by omega) (by omega)) (by omega)⟩;have w1:IntKind.i64.wrap (f.Volts*vk.Den)=f.Volts*vk.Den:=i7 (by omega) (by omega);have w2:IntKind.i64.wrap (f.Volts*vk.Den-vk.Num)=f.Volts*vk.Den-vk.Num:=i7 (by omega) (by omega);generalize hD:f.Volts*vk.Den-vk.Num=D at w2 hff;have hsd:f.Siem*D≤4000000000000000000∧-4000000000000000000≤f.Siem*D:=by
    rcases(by omega:f.Siem=1∨f.Siem=2∨f.Siem=3∨f.Siem=4)with h|h|h|h<;>rw[h]<;>omega
   have w3:IntKind.i64.wrap (f.Siem*D)=f.Siem*D:=i7 (by omega) (by omega);have hfr:=a3L (f.Siem*D) vk.Den hvb.1 (by omega) (by omega) (by omega);refine e9 ?_;simp only[zT,reduceIte,Nat.reduceEqDiff];refine hK6 _ _ ?_;refine b7 [2,4,5,6,67,68,69] (Or.inr (by simp)) ?_;simp only[zP,Nat.reduceEqDiff,reduceIte];refine b9 fun K7 hK7=>?_;refine d7 ?_;refine gS fun K hK=>?_;simp -dsimp [hfi];apply hK;clear hK K;refine gS fun K hK=>?_;simp -dsimp [hil,hfll,gfe];apply hK;clear hK K;refine gS fun K hK=>?_;simp -dsimp [←hkA,hkN,gvv,hA0];apply hK;clear hK K;refine gS fun K hK=>?_;simp -dsimp [w1,hD,w2];apply hK;clear hK K;refine gS fun K hK=>?_;simp -dsimp [gsf];apply hK;clear hK K;refine d8 rfl (fun hc3=>?_) (fun hc3=>?_)
   ·refine p9 l6 rfl (by decide) rfl rfl fun K hK=>?_;simp -dsimp [hil,hfll,w3];refine d6 _ (hfr) (by simp) ?_;simp -dsimp [hil,hfll,w3];refine hK _ _ _ (by decide+kernel) ?_;clear hK K;simp only[zT,reduceIte,Nat.reduceEqDiff];refine hK7 _ _ ?_;refine b7 [2,4,5,6,67,68,69] (Or.inr (by simp)) ?_;simp only[zP,Nat.reduceEqDiff,reduceIte];refine gR fun K hK=>?_;simp -dsimp [wi];apply hK;clear hK K;simp only[zT,reduceIte,Nat.reduceEqDiff];have hcd:bAt s.Feeds i=true∧0<D:=by simpa using hc3
    rw[if_pos hcd]at hff;rw[hff]at hfst;exact⟨i+1,by omega,by omega,m8 (e8 [some 0,some 1,some 2,some 3,some 4,some 5,some 6] rfl (by simp) (by simp[←hfst,List.map_set])) (by simp)⟩
   ·refine e9 ?_;simp only[zT,reduceIte,Nat.reduceEqDiff];refine hK7 _ _ ?_;refine b7 [2,4,5,6,67,68,69] (Or.inr (by simp)) ?_;simp only[zP,Nat.reduceEqDiff,reduceIte];refine gR fun K hK=>?_;simp -dsimp [wi];apply hK;clear hK K;simp only[zT,reduceIte,Nat.reduceEqDiff];have hcd:¬(bAt s.Feeds i=true∧0<D):=by intro h;simp[h.1,h.2]at hc3
    rw[if_neg hcd]at hff;rw[hff]at hfst;exact⟨i+1,by omega,by omega,m8 (e8 [some 0,some 1,some 2,some 3,some 4,some 5,some 6] rfl (by simp) (by simp[←hfst,List.map_set])) (by simp)⟩
  ·have hil:¬i<g.Feeds.length:=by simpa using hc2
   have hie:i=g.Feeds.length:=by omega
   have hvN:(vlA N vf).length=N:=by simp[vlA]
   have hfN:(flA g s vf).length=g.Feeds.length:=by simp[flA]
   have htv:List.take N ((vlA N vf).map Fr.cells)=(vlA N vf).map Fr.cells:=List.take_of_length_le (by simp;omega);have htf:List.take g.Feeds.length ((flA g s vf).map Fr.cells)=(flA g s vf).map Fr.cells:=List.take_of_length_le (by simp;omega);rw[hie,c0x];refine i6 ?_;simp only[zT,reduceIte,Nat.reduceEqDiff];refine hK5 _ _ ?_;refine b7 [4,5,6] (Or.inr (by simp)) ?_;simp only[zP,Nat.reduceEqDiff,reduceIte];refine gS fun K hK=>?_;simp -dsimp;apply hK;clear hK K;exact k7 ⟨[some 4,some 5,some 2,some 3],rfl,by simp,by simp,by simp,by simp[y8,n5]⟩
end Go.Cur
end
section
namespace Go.AM
def b6G (n:Nat):AV→AV
 | .v x=> .v x
 | .row i k m=> .row (n+i) k m
 | .ptr i k o=> .ptr (n+i) k o
 | .mp i=> .mp (n+i)
 | .agg cs=> .agg (cs.map fun c=>match c with| .v x=> .v x| .row i k m=> .row (n+i) k m| .ptr i k o=> .ptr (n+i) k o| .mp i=> .mp (n+i)|_=> .any)
 |_=> .any
def a3A (n:Nat):m5→m5
 | .els sz es=> .els sz (es.map fun e=>e.map (b6G n))
 | .map ag kts kvs=> .map ag kts kvs
 | .itr ag kts left cur=> .itr ag kts left cur
def upρ (n:Nat) (ρ ρ1:Nat→Option Loc) (r:Nat):Option Loc:=if r<n then ρ r else ρ1 (r-n)
theorem a5x (n:Nat) (ρ ρ1:Nat→Option Loc) (i:Nat):upρ n ρ ρ1 (n+i)=ρ1 i:=by
 unfold upρ;rw[if_neg (by omega),Nat.add_sub_cancel_left]
theorem b7y {w:World} {ρ ρ1:Nat→Option Loc} {L1 L:Nat→Prop} {S1 S:Nat→Prop} {n:Nat} (hL:∀r,L1 r→L (n+r)) {x:AV} {y:Value} (h:l3 w S1 ρ1 L1 x y):l3 w S (upρ n ρ ρ1) L (b6G n x) y:=by
 have row:∀{i k m:Nat} {y:Value},l3 w S1 ρ1 L1 (.row i k m) y→l3 w S (upρ n ρ ρ1) L (.row (n+i) k m) y:=by
  intro i k m y h
  cases h with
  |pure _ _ h=>cases h
  |row _ _ _ _ h1 h2 h3=>exact .row _ _ _ _ (hL _ h1) h2 (fun l hl=>h3 l (a5x n ρ ρ1 i▸hl))
 have ptr:∀{i k m:Nat} {y:Value},l3 w S1 ρ1 L1 (.ptr i k m) y→l3 w S (upρ n ρ ρ1) L (.ptr (n+i) k m) y:=by
  intro i k m y h
  cases h with
  |pure _ _ h=>cases h
  |ptr _ _ _ _ h1 h2 h3=>exact .ptr _ _ _ _ (hL _ h1) h2 (fun l hl=>h3 l (a5x n ρ ρ1 i▸hl))
 have mp:∀{i:Nat} {y:Value},l3 w S1 ρ1 L1 (.mp i) y→l3 w S (upρ n ρ ρ1) L (.mp (n+i)) y:=by
  intro i y h
  cases h with
  |pure _ _ h=>cases h
  |mp _ _ h1 h2 h3=>exact .mp _ _ (hL _ h1) h2 (fun l hl=>h3 l (a5x n ρ ρ1 i▸hl))
 cases x with
 |v c=>rw[n7 h];exact .pure _ _ (.v _)
 |row i k m=>exact row h
 |ptr i k m=>exact ptr h
 |mp i=>exact mp h
 | agg cs=>
  obtain⟨vs,rfl,hl,hc⟩:=A8 h;refine .agg _ vs (by simpa using hl) (fun u hu=>?_) (fun i c u h1 h2=>?_)
  ·obtain⟨i,hi,rfl⟩:=List.getElem_of_mem hu;exact(hc i _ _ (List.getElem?_eq_getElem (by omega)) (List.getElem?_eq_getElem hi)).1
  ·simp only[List.getElem?_map,Option.map_eq_some_iff]at h1;obtain⟨c',h1,rfl⟩:=h1;have h3:=(hc i c' u h1 h2).2
   cases c' with
   |v c=>rw[n7 h3];exact .pure _ _ (.v _)
   |row i k m=>exact row h3
   |ptr i k m=>exact ptr h3
   |mp i=>exact mp h3
   |_=>exact .pure _ _ (.any _)
 |_=>exact .pure _ _ (.any _)
theorem a9c (H H':Hp) (r:Nat):m7 (H++H') r=if r<H.length then m7 H r else m7 H' (r-H.length):=by
 rw[E9,E9,E9]
 split
 ·rename_i h;rw[List.getElem?_append_left h]
 ·rename_i h;rw[List.getElem?_append_right (by omega)]
theorem Z8 {P:Program} {ro:Option Nat} {J:Jt} {nt:Nat} {kp0:List Nat} {T:Tm} {H:Hp} {Q:Exit→Tm→Hp→Prop} {x y:Code} (us kp:List Nat) (Tf:Tm) (hT:a1p H [] T Tf) (hkk:∀t∈kp0,t∈kp)
  (R:Tm→Hp→Prop) (hin:∀J1,JOk J1→GWp P ro J1 nt kp x Tf [] (fun e T' H'=>e= .normal∧a8h H'=true∧R T' H'))
  (hout:∀T' H',R T' H'→m6 (us.map (fun t=>(t,b6G H.length (m6 T' t)))++kp.map (fun t=>(t,m6 T t))) 999999=m6 T 999999∧
   GWp P ro J nt kp0 y (us.map (fun t=>(t,b6G H.length (m6 T' t)))++kp.map (fun t=>(t,m6 T t))) (H++H'.map (Option.map (a3A H.length))) Q):GWp P ro J nt kp0 (.seq x y) T H Q:=by
 intro hJ kv a w ⟨⟨S0,ρ,L,hc,hL,hj,hm⟩,hk⟩;have hf:=a2t (T':=Tf) (H':=[]) [] (by intro i j q h;simp at h) hT rfl hc
 let B1:Nat→Prop:=fun b=>w.heap.size≤b
 have hJ1:JOk (a8D B1 S0 w J.mark):=a5P fun b h=>h;have hs1:SG (a8D B1 S0 w J.mark) nt kp (fun t=>a.tmps.getD t undef) Tf [] a w:=by
  refine⟨⟨S0,m9 ρ [],fun r=>r<([]:List (Option Nat)).length,hf,fun r h=>by simp at h,⟨rfl,Ext.refl _ _,?_⟩,hm⟩,fun _ _=>rfl⟩;rintro b ⟨r,l,h1,_⟩;obtain⟨q,h,_⟩:=j6 h1;simp at h
 refine wpIn_seq (wpIn_mono (hin _ hJ1 hJ1 _ a w hs1) ?_);rintro e a' w' ⟨T',H',⟨rfl,hni,hR⟩,⟨⟨S0',ρ1,L1,hc1,hL1,⟨rfl,hx1,ho1⟩,hm1⟩,hk1⟩⟩;obtain⟨hy,ho⟩:=hout T' H' hR;have hnr:∀{r l},ρ r=some l→r<H.length:=fun h=>hL _ (hc.wf.given _ _ h);have hold:∀{r l b},ρ r=some l→l.b=some b→b<w.heap.size:=fun h1 h2=>(hc.wf.own _ _ _ h1 h2).1;have hnew:∀{r l b},ρ1 r=some l→l.b=some b→w.heap.size≤b:=fun h1 h2=>ho1 _ ⟨_,_,h1,h2⟩;have hcase:∀{r l},upρ H.length ρ ρ1 r=some l→(r<H.length∧ρ r=some l)∨(H.length≤r∧ρ1 (r-H.length)=some l):=by
  intro r l h;unfold upρ at h
  split at h
  ·rename_i h1;exact Or.inl ⟨h1,h⟩
  ·rename_i h1;exact Or.inr ⟨by omega,h⟩
 have hS:∀b,b<w.heap.size→¬Sx S0' ρ b→w'.heap[b]?=w.heap[b]?∧¬Sx S0' (upρ H.length ρ ρ1) b:=by
  intro b hb hn;refine⟨hx1.block b hb (by show¬w.heap.size≤b;omega),?_⟩;rintro(h|⟨r,l,h1,h2⟩)
  ·exact hn (Or.inl h)
  ·rcases hcase h1 with⟨_,h3⟩|⟨_,h3⟩
   ·exact hn (Or.inr ⟨r,l,h3,h2⟩)
   ·have:=hnew h3 h2;omega
 have hρ:∀r l,L r→upρ H.length ρ ρ1 r=some l→ρ r=some l:=by
  intro r l hr h;unfold upρ at h
  rwa [if_pos (hL r hr)]at h
 have hLo:∀r,L r→r<(H++H'.map (Option.map (a3A H.length))).length:=fun r hr=>by have:=hL r hr;rw[List.length_append];omega
 have hLn:∀r,L1 r→H.length+r<(H++H'.map (Option.map (a3A H.length))).length:=fun r hr=>by have:=hL1 r hr;rw[List.length_append,List.length_map];omega
 refine ho hJ kv a' w' ⟨⟨S0',upρ H.length ρ ρ1,fun r=>r<(H++H'.map (Option.map (a3A H.length))).length,⟨⟨?_,fun r l b h1 h2=>?_,fun r l h1=>?_,hc1.wf.low,fun _ _=>trivial⟩,hc1.size,rfl,?_,?_,?_⟩,fun r h=>h,?_,hm1⟩,fun t ht=>(hk1 t (hkk t ht)).trans (hk t ht)⟩
 ·intro r r' l l' b h1 h2 k1 k2
  rcases hcase h1 with⟨_,h3⟩|⟨_,h3⟩<;>rcases hcase h2 with⟨_,h4⟩|⟨_,h4⟩
  ·exact hc.wf.inj r r' l l' b h3 h4 k1 k2
  ·have:=hold h3 k1;have:=hnew h4 k2;omega
  ·have:=hold h4 k2;have:=hnew h3 k1;omega
  ·have:=hc1.wf.inj _ _ l l' b h3 h4 k1 k2;omega
 ·rcases hcase h1 with⟨_,h3⟩|⟨_,h3⟩
  ·obtain⟨p1,p2,p3⟩:=hc.wf.own r l b h3 h2;exact⟨Nat.lt_of_lt_of_le p1 hx1.size,p2,p3⟩
  ·obtain⟨p1,p2,p3⟩:=hc1.wf.own _ l b h3 h2;exact⟨p1,p2,p3⟩
 ·rcases hcase h1 with⟨h,_⟩|⟨h,h3⟩
  ·show r<_;rw[List.length_append];omega
  ·have:=hLn _ (hc1.wf.given _ _ h3);show r<_;omega
 ·have gen:∀(l:Tm),(∀p∈l,l3 w' (Sx S0' (upρ H.length ρ ρ1)) (upρ H.length ρ ρ1) (fun r=>r<(H++H'.map (Option.map (a3A H.length))).length) p.2 (a'.tmps.getD p.1 undef))→∀t,l3 w' (Sx S0' (upρ H.length ρ ρ1)) (upρ H.length ρ ρ1) (fun r=>r<(H++H'.map (Option.map (a3A H.length))).length) (m6 l t) (a'.tmps.getD t undef):=by
   intro l
   induction l with
   |nil=>intro _ t;exact .pure _ _ (.any _)
   |cons p l ih=>
    intro h t;obtain⟨i,x⟩:=p;simp only[m6]
    split
    ·rename_i e;subst e;exact h (_,x) (by simp)
    ·exact ih (fun p hp=>h p (by simp[hp])) t
  refine gen _ fun p hp=>?_;rw[List.mem_append]at hp
  rcases hp with hp|hp
  ·obtain⟨t,_,rfl⟩:=List.mem_map.1 hp;exact b7y hLn (hc1.tmps t)
  ·obtain⟨t,ht,rfl⟩:=List.mem_map.1 hp;show l3 _ _ _ _ (m6 T t) (a'.tmps.getD t undef);rw[hk1 t ht];exact(hc.tmps t).ext hx1.size hS hLo hρ
 ·intro r row hr;rw[a9c]at hr
  split at hr
  ·rename_i hrl;obtain⟨l,hl,hrow⟩:=hc.rows r row hr;refine⟨l,by unfold upρ;rw[if_pos hrl];exact hl,hrow.ext hx1.size hS hLo hρ (fun b hb=>?_)⟩;exact hx1.block b (hold hl hb) (by have:=hold hl hb;show¬w.heap.size≤b;omega)
  ·rename_i hrl;rw[A1]at hr
   split at hr
   ·rename_i q hq;obtain⟨row1,e1,rfl⟩:=Option.map_eq_some_iff.1 hr;have h1:m7 H' (r-H.length)=some row1:=by rw[E9,hq];exact e1
    obtain⟨l,hl,hrow⟩:=hc1.rows _ row1 h1;refine⟨l,by unfold upρ;rw[if_neg hrl];exact hl,?_⟩
    cases row1 with
    |map ag kts kvs=>exact hrow
    |itr ag kts left cur=>exact(a0H hni _ _ _ _ _ h1).elim
    |els sz es=>
     obtain⟨k1,k2,k3,k4⟩:=hrow;refine⟨k1,?_,fun hb=>by rw[k3 hb];rfl,fun b hb=>?_⟩
     ·intro e he;simp only[List.mem_map]at he;obtain⟨e',he',rfl⟩:=he;simpa using k2 e' he'
     ·obtain⟨c,t,q1,q2,q3,q4⟩:=k4 b hb;refine⟨c,t,q1,q2,by simpa using q3,fun i av hi=>?_⟩;rw[←List.map_flatten]at hi;simp only[List.getElem?_map,Option.map_eq_some_iff]at hi;obtain⟨av0,hi,rfl⟩:=hi;obtain⟨x,p1,p2,p3⟩:=q4 i av0 hi;exact⟨x,p1,p2,b7y hLn p3⟩
   ·cases hr
 ·intro r hr;rw[a9c]at hr;unfold upρ
  split at hr
  ·rename_i hrl;rw[if_pos hrl];exact hc.dead r hr
  ·rename_i hrl;rw[if_neg hrl];refine hc1.dead _ ?_;rw[A1]at hr;rw[E9]
   split at hr
   ·rename_i q hq;rw[hq];simpa using hr
   ·rename_i hq;rw[hq];rfl
 ·rw[hy];refine hJ _ _ _ _ _ _ hj hc.wf.low hc.owned (hx1.mono fun b hb h=>absurd hb (by show¬b<w.heap.size;exact Nat.not_lt.2 h)) ?_;rintro b ⟨r,l,h1,h2⟩
  rcases hcase h1 with⟨_,h3⟩|⟨_,h3⟩
  ·exact⟨Nat.lt_of_lt_of_le (hold h3 h2) hx1.size,Or.inl ⟨r,l,h3,h2⟩⟩
  ·exact⟨(hc1.wf.own _ l b h3 h2).1,Or.inr (hnew h3 h2)⟩
theorem a6n {P:Program} {ro:Option Nat} {J:Jt} {nt:Nat} {kp0:List Nat} {T:Tm} {H:Hp} {Q:Exit→Tm→Hp→Prop} {x b:Code} (gs us kp:List Nat) (Tf:Tm) (Hf:Hp) (hlt:∀r∈gs,r<H.length) (hnd:gs.Nodup) (hT:a1p H (gs.map some) T Tf) (hH:a0t H (gs.map some)=Hf) (hkk:∀t∈kp0,t∈kp)
  (R:Tm→Hp→Prop) (hin:∀J1,JOk J1→GWp P ro J1 nt kp x Tf Hf (fun e T' H'=>e= .normal∧GWp P ro J1 nt kp b T' H' (fun e T' H'=>e= .normal∧a8h H'=true∧R T' H')))
  (hout:∀T' H',R T' H'→m6 (a4O gs us kp H.length T T') 999999=m6 T 999999∧Q .normal (a4O gs us kp H.length T T') (a8I gs H H')):GWp P ro J nt kp0 (.seq x b) T H Q:=by
 intro hJ kv a w hs;obtain⟨J1,hJ1,hs1,back⟩:=b2i hJ hs gs us kp Tf Hf hlt hnd hT hH hkk;refine wpIn_seq (wpIn_mono (hin J1 hJ1 hJ1 _ a w hs1) ?_);rintro e a1 w1 ⟨T1,H1,⟨rfl,hb⟩,s1⟩;refine wpIn_mono (hb hJ1 _ a1 w1 s1) ?_;rintro e a' w' ⟨T',H',⟨rfl,hni,hR⟩,s⟩;obtain⟨hy,ho⟩:=hout T' H' hR;exact⟨_,_,ho,back T' H' a' w' hni s hy⟩
theorem g6.pure {P:Program} {f:FuncId} {args:List AV} {res res':AV} {Hn:Hp} (h:g6 P f args [] [] res [] Hn) (e:frz (m7 Hn) 6 res=res'):d5 P f args res':=by
 subst e;obtain⟨h1,_,h3⟩:=h;refine Or.inl ⟨h1,fun S0 w vs hlow hl hrep=>?_⟩;have hh:b6n S0 w (fun _=>none) ([]++[]):=⟨⟨(by intro r r' l l' b h;cases h),(by intro r l b h;cases h),(by intro r l h;cases h),hlow,fun _ _=>trivial⟩,fun r row hr=>by cases r<;>simp[m7]at hr,fun r _=>rfl⟩;have hsx:∀b,Sx S0 (fun _=>none) b→S0 b:=by
  rintro b (h|⟨r,l,h1,_⟩)
  ·exact h
  ·cases h1
 refine(h3 S0 w _ vs hh hl fun i c x hc hx=> .pure _ _ ((hrep i c x hc hx).ext (Nat.le_refl _) fun b _ hn=>⟨rfl,fun k=>hn (hsx b k)⟩)).mono ?_;rintro en w' ⟨v,ρ',rfl,hh',hr,_,hfresh,hx⟩;refine⟨v,rfl,a1P hh'.wf (S':=S0) (fun b hn k=>hn (Or.inl k)) (fun r l b row _ hl hb k=>(hh'.wf.own r l b hl hb).2.1 k) 6 res v (fun r _ row hr=>hh'.rows r row hr) hr,hx.mono ?_⟩;rintro b _ ⟨r,l,h1,_⟩
 cases h1
end Go.AM
end
section
namespace Go.Cur
open Go.AM Go.Proofs
def X4 (P:o6) (m:Nat):Nat:=((List.range (2^m)).find? fun a=>decide (1≤a)&&b5g P m a).getD 0
abbrev ptO (g:Gr) (s:Sta) (us:Kvs) (p:List Nat):o6:=Pt g (onW g.Wires s.Wires) us p (n8 g s (upN p)) (n8 g s (upN p)).length
def H8 (g:Gr) (s:Sta) (us:Kvs) (p:List Nat):List Int×Int×Bool:=
 if n8 g s (upN p)=[]then(a0Y p.length,1,T6 us p)
 else if B3 us p<0 then([],0,false)
 else if B3 us p=0 then
  (p.map fun k=>(ptO g s us p).num0 (p.getD 0 0) k+F2 ((ptO g s us p).V 0*(ptO g s us p).den0 (p.getD 0 0)-(ptO g s us p).num0 (p.getD 0 0) ((ptO g s us p).p 0)) ((List.range (n8 g s (upN p)).length).map fun b=>(ptO g s us p).V b*(ptO g s us p).den0 (p.getD 0 0)-(ptO g s us p).num0 (p.getD 0 0) ((ptO g s us p).p b)),
   (ptO g s us p).den0 (p.getD 0 0),true)
 else(p.map fun k=>(ptO g s us p).num (u5 (X4 (ptO g s us p) (n8 g s (upN p)).length)) k,(ptO g s us p).den (u5 (X4 (ptO g s us p) (n8 g s (upN p)).length)),true)
theorem a8C (S:Nat→Bool):∀m,∃a,a<2^m∧∀b,b<m→a.testBit b=S b
 |0=>⟨0,by simp,fun b hb=>by omega⟩
 | m+1=>by
  obtain⟨a,h1,h2⟩:=a8C S m
  cases h:S m with
  |false=>
   refine⟨a,by rw[Nat.pow_succ];omega,fun b hb=>?_⟩
   rcases Nat.lt_succ_iff_lt_or_eq.1 hb with hb|rfl
   ·exact h2 b hb
   ·rw[h];exact Nat.testBit_lt_two_pow h1
  |true=>
   refine⟨a|||2^m,Nat.or_lt_two_pow (by rw[Nat.pow_succ];omega) (Nat.pow_lt_pow_right (by omega) (by omega)),fun b hb=>?_⟩;rw[Nat.testBit_or,Nat.testBit_two_pow]
   rcases Nat.lt_succ_iff_lt_or_eq.1 hb with hb|rfl
   ·rw[h2 b hb,decide_eq_false (by omega),Bool.or_false]
   ·rw[h];simp
theorem b4k {P:o6} {m a:Nat} (hfs:P.fs=List.range m) (ha:∃b,b<m∧a.testBit b=true):b5g P m a=true↔a4G P (u5 a):=by
 unfold b5g a4G;rw[hfs,List.all_eq_true];constructor
 ·intro h;refine⟨by obtain⟨b,hb,h⟩:=ha;exact⟨b,List.mem_range.2 hb,h⟩,fun b hb=>?_⟩;have:=h b hb;unfold u5 at this ⊢;constructor
  ·intro e;rw[if_pos e]at this;have:=of_decide_eq_true this;omega
  ·intro e;rw[if_neg (by simp[e])]at this;have:=of_decide_eq_true this;omega
 ·rintro⟨_,h⟩ b hb;have:=h b hb;unfold u5 at this ⊢
  cases e:a.testBit b with
  |true=>have:=this.1 e;simp;omega
  |false=>have:=this.2 e;simp;omega
theorem a3e {a m:Nat} (h1:1≤a) (h2:a<2^m):∃b,b<m∧a.testBit b=true:=by
 obtain⟨b,hb⟩:=Nat.exists_testBit_of_ne_zero (x:=a) (by omega);refine⟨b,?_,hb⟩
 rcases Nat.lt_or_ge b m with h|h
 ·exact h
 ·rw[Nat.testBit_lt_two_pow (Nat.lt_of_lt_of_le h2 (Nat.pow_le_pow_right (by omega) h))]at hb
  cases hb
theorem a1G {P:o6} (ho:P.Ok) {m:Nat} (hfs:P.fs=List.range m) (hm:m≠0) (hsum:0<sm P.u P.ns):
  1≤X4 P m∧X4 P m<2^m∧b5g P m (X4 P m)=true∧∀a,1≤a→a<X4 P m→b5g P m a=false:=by
 obtain⟨S,hS⟩:=a3D ho hsum (by rw[hfs];intro e;have:=congrArg List.length e;simp at this;exact hm this);obtain⟨a,ha,hb⟩:=a8C S m;obtain⟨b0,hb0,hSb⟩:=hS.1;rw[hfs,List.mem_range]at hb0;have hbit:∃b,b<m∧a.testBit b=true:=⟨b0,hb0,by rw[hb b0 hb0,hSb]⟩;have ha1:1≤a:=by
  rcases Nat.eq_zero_or_pos a with h|h
  ·subst h;obtain⟨b,_,h⟩:=hbit;simp at h
  ·exact h
 have hnc:=a6U (P:=P) (S:=S) (S':=u5 a) fun b hb'=>by rw[hfs,List.mem_range]at hb';exact(hb b hb').symm
 have hfit:b5g P m a=true:=by
  rw[b4k hfs hbit];refine⟨⟨b0,by rw[hfs];exact List.mem_range.2 hb0,by show a.testBit b0=true;rw[hb b0 hb0,hSb]⟩,fun b hb'=>?_⟩;have h:=hS.2 b hb';rw[hnc.1,hnc.2]at h;rw[hfs,List.mem_range]at hb';rw[show u5 a b=S b from hb b hb'];exact h
 cases hf:(List.range (2^m)).find? (fun a=>decide (1≤a)&&b5g P m a)with
 |none=>
  rw[List.find?_eq_none]at hf;have:=hf a (List.mem_range.2 ha);simp[ha1,hfit]at this
 |some a0=>
  have e:X4 P m=a0:=by unfold X4;rw[hf];rfl
  rw[List.find?_range_eq_some]at hf;rw[e];obtain⟨h1,h2,h3⟩:=hf;simp only[Bool.and_eq_true,decide_eq_true_eq]at h1;refine⟨h1.1,List.mem_range.1 h2,h1.2,fun a h4 h5=>?_⟩;have:=h3 a h5;simpa [h4]using this
def Siz (us:Kvs) (p:List Nat):Prop:=p.length≤5∨(p.length≤10∧∀x,igt us x=0)
section
variable {g:Gr} {s:Sta} {us:Kvs} {p:List Nat}
theorem a2p (h:∀x,igt us x=0):∀p:List Nat,B3 us p=0
 |[]=>rfl
 |x::p=>by
  have:=a2p h p;unfold B3 at this ⊢;rw[sm,this,h];rfl
theorem a2O (g:Gr) (s:Sta) (us:Kvs) (p:List Nat):sm (ptO g s us p).u (ptO g s us p).ns=B3 us p:=rfl
theorem c1o (hnt:o8 g s) (hp:p∈l8 g s) (hz:Siz us p) (hI:a1s us) (hus:∀x,-40≤igt us x∧igt us x≤40):
  d5 Try.prog 69 [net g s,iL (upN p), .mpc false [.i .i64] us] (.tup [iL (H8 g s us p).1,I (H8 g s us p).2.1,Bo (H8 g s us p).2.2]):=by
 have h10:p.length≤10:=by rcases hz with h|h<;>omega
 refine b9k g s p us (n8 g s (upN p)) rfl hnt (a4u hnt hp h10) hI hus _ _ _ (p.getD 0 0) rfl ?_ ?_ ?_ ?_
 ·intro h;unfold H8;rw[if_pos h];exact⟨rfl,rfl,rfl⟩
 ·intro h h1;unfold H8;rw[if_neg h,if_pos h1];exact⟨rfl,rfl,rfl⟩
 ·intro h h1;refine⟨a2o hnt hp hz rfl hus _ rfl,?_⟩;unfold H8;rw[if_neg h,if_neg (by omega),if_pos h1];exact⟨rfl,rfl,rfl⟩
 ·intro h h1;have h5:p.length≤5:=by
   rcases hz with h|⟨_,h⟩
   ·exact h
   ·have:=a2p h p;omega
  refine⟨fun a h2 h3=>a4Y hnt hp h5 rfl hus _ (a3e h2 h3),?_⟩;obtain⟨k1,k2,k3,k4⟩:=a1G (P:=ptO g s us p) (a4J hnt hp rfl) (m:=(n8 g s (upN p)).length) rfl (by intro e;exact h (List.length_eq_zero_iff.1 e)) (by rw[a2O];exact h1);unfold H8;rw[if_neg h,if_neg (by omega),if_neg (by omega)];exact⟨rfl,_,k1,k2,k3,k4,rfl,rfl⟩
def vfS (g:Gr) (s:Sta) (us:Kvs) (k:Nat):Fr:=red (at0 (H8 g s us (s6 g s k)).1 ((s6 g s k).idxOf k:Nat)) (H8 g s us (s6 g s k)).2.1
theorem b9K (hnt:o8 g s) (hp:p∈l8 g s) (hz:Siz us p) (hI:a1s us) (hus:∀x,-40≤igt us x∧igt us x≤40) (hok:(H8 g s us p).2.2=true):
  (H8 g s us p).1.length=p.length∧0<(H8 g s us p).2.1∧(H8 g s us p).2.1≤100000000000000∧∀x∈(H8 g s us p).1,-300000000000000000≤x∧x≤300000000000000000:=by
 unfold H8 at hok ⊢
 by_cases h:n8 g s (upN p)=[]
 ·rw[if_pos h];refine⟨by simp[a0Y],show(0:Int)<1 by decide,show(1:Int)≤100000000000000 by decide,fun x hx=>?_⟩;have:x=0:=(List.mem_replicate.1 hx).2;omega
 ·rw [if_neg h]at hok ⊢
  by_cases h1:B3 us p<0
  ·rw[if_pos h1]at hok;cases hok
  ·rw [if_neg h1]at hok ⊢
   by_cases h2:B3 us p=0
   ·rw[if_pos h2];obtain⟨z1,z2,z3⟩:c1J (ptO g s us p) (p.getD 0 0):=a2o (us:=us) hnt hp hz rfl hus (p.getD 0 0) rfl;refine⟨by simp,z2,z3,fun x hx=>?_⟩;obtain⟨k,_,rfl⟩:=List.mem_map.1 hx;have key:∀b,b<(n8 g s (upN p)).length→ -200000000000000000≤(ptO g s us p).V b*(ptO g s us p).den0 (p.getD 0 0)-(ptO g s us p).num0 (p.getD 0 0) ((ptO g s us p).p b)∧(ptO g s us p).V b*(ptO g s us p).den0 (p.getD 0 0)-(ptO g s us p).num0 (p.getD 0 0) ((ptO g s us p).p b)≤200000000000000000:=by
     intro b hb;have hf:=H6 hnt rfl hb;have h3:=z1 ((ptO g s us p).p b);have h4:0≤(ptO g s us p).V b∧(ptO g s us p).V b≤1000:=by
      show 0≤(fdI g _).Volts∧(fdI g _).Volts≤1000;omega
     have h5:=Int.mul_nonneg h4.1 (Int.le_of_lt z2);have h6:=Int.mul_le_mul h4.2 z3 (Int.le_of_lt z2) (by omega);omega
    have hpos:0<(n8 g s (upN p)).length:=List.length_pos_iff.2 h;have h3:=P8 (B:=200000000000000000) ((List.range (n8 g s (upN p)).length).map fun b=>(ptO g s us p).V b*(ptO g s us p).den0 (p.getD 0 0)-(ptO g s us p).num0 (p.getD 0 0) ((ptO g s us p).p b)) _ (key 0 hpos) fun x hx=>by
     obtain⟨b,hb,rfl⟩:=List.mem_map.1 hx;exact key b (List.mem_range.1 hb)
    have h4:=z1 k;omega
   ·rw[if_neg h2];have h5:p.length≤5:=by
     rcases hz with h|⟨_,h⟩
     ·exact h
     ·have:=a2p h p;omega
    obtain⟨k1,k2,k3,k4⟩:=a1G (P:=ptO g s us p) (a4J hnt hp rfl) (m:=(n8 g s (upN p)).length) rfl (by intro e;exact h (List.length_eq_zero_iff.1 e)) (by rw[a2O];omega);obtain⟨z1,z2,z3⟩:Sml (ptO g s us p) (u5 (X4 (ptO g s us p) (n8 g s (upN p)).length)):=a4Y (us:=us) hnt hp h5 rfl hus _ (a3e k1 k2);refine⟨by simp,z2,z3,fun x hx=>?_⟩;obtain⟨k,_,rfl⟩:=List.mem_map.1 hx;have:=z1 k;omega
theorem c1X (hnt:o8 g s) (hp:p∈l8 g s) (hz:Siz us p) (hI:a1s us) (hus:∀x,-40≤igt us x∧igt us x≤40) (hok:(H8 g s us p).2.2=true):a4y g s us p (H8 g s us p).1 (H8 g s us p).2.1 (vfS g s us):=by
 obtain⟨b1,b2,b3,b4⟩:=b9K hnt hp hz hI hus hok;have hc:=c1o hnt hp hz hI hus;rw[hok]at hc;refine⟨hc,b1,b2,b3,b4,fun i k hk=>?_⟩;have hpe:=G1 hp (List.mem_of_getElem? hk);have hnd:p.Nodup:=by obtain⟨_,_,e⟩:=C8 hp;rw[e];exact I4
 have hi:p.idxOf k=i:=by
  obtain⟨hil,e⟩:=List.getElem?_eq_some_iff.1 hk;rw[←e];exact List.Nodup.idxOf_getElem hnd i hil
 unfold vfS;rw[←hpe,hi]
end
def okS (g:Gr) (s:Sta) (us:Kvs):Bool:=(l8 g s).all fun p=>(H8 g s us p).2.2
theorem b6k (g:Gr) (s:Sta) (l:List Ld) (hl:l.length≤1000) (hf:w9 g s l=true) (hlo:G2 g s=false) (h12:V4 g s) (vf:Nat→Fr) (hv:∀p∈l8 g s,∃v d,a4y g s (tkK l (a9v l)) p v d vf):
  g6 Try.prog 18 [g.av,s.av,lL l] [] [] (.tup [.row 0 0 g.Nodes.toNat, .row 1 0 g.Feeds.length,I 0]) [] [some (.els 2 ((vlA g.Nodes.toNat vf).map Fr.cells)),some (.els 2 ((flA g s vf).map Fr.cells))]:=by
 have hb:=a2a g s l hl hf;have hnt:=z9 hf;have hlg:=a0X g s hnt h12;rw[hlo]at hlg;have htk:=b3u l hl;have hsv:=a2N g s (tkK l (a9v l)) hnt h12 vf hv;generalize vlA g.Nodes.toNat vf=vs at hsv ⊢;generalize flA g s vf=fs at hsv ⊢;generalize tkK l (a9v l)=us at htk hsv;refine g6.of_bodyG [] Try.func18 rfl (by decide) (by simp[Try.ntmps18]) rfl rfl ?_;intro J hJ;simp only[Try.ntmps18,Try.results18];refine gS fun K hK=>?_;simp -dsimp;apply hK;clear hK K;refine gS fun K hK=>?_;simp -dsimp;refine d6 _ (hb) (by simp) ?_;simp -dsimp;apply hK;clear hK K;refine b9 fun K1 hK1=>?_;refine d7 ?_;refine gS fun K hK=>?_;simp -dsimp;apply hK;clear hK K;refine d8 rfl (fun hc0=>?_) (fun hc0=>?_)
 ·simp at hc0
 ·refine gS fun K hK=>?_;simp -dsimp;refine d6 _ (hlg) (by simp) ?_;simp -dsimp;apply hK;clear hK K;refine d8 rfl (fun hc1=>?_) (fun hc1=>?_)
  ·simp at hc1
  ·refine e9 ?_;simp only[zT,reduceIte,Nat.reduceEqDiff];refine hK1 _ _ ?_;refine b7 [2,9] (Or.inr (by simp)) ?_;simp only[zP,Nat.reduceEqDiff,reduceIte];refine gS fun K hK=>?_;simp -dsimp;refine d6 _ (htk) (by simp) ?_;simp -dsimp;refine k8 [] [] [none,none,some 0,some 1,some 2,some 3] (hsv) (by decide) rfl (by simp) (by simp) rfl (by simp) ?_;simp -dsimp;apply hK;clear hK K;refine b9 fun K2 hK2=>?_;refine gS fun K hK=>?_;simp -dsimp;apply hK;clear hK K;refine d8 rfl (fun hc2=>?_) (fun hc2=>?_)
   ·simp at hc2
   ·refine e9 ?_;simp only[zT,reduceIte,Nat.reduceEqDiff];refine hK2 _ _ ?_;refine b7 [11] (Or.inr (by simp)) ?_;simp only[zP,Nat.reduceEqDiff,reduceIte];refine s4 l6 rfl (by decide) rfl rfl fun K hK=>?_;simp -dsimp;refine hK _ _ _ (by decide+kernel) ?_;clear hK K;exact k7 ⟨[some 2,some 3],rfl,by simp,by simp,by simp,by simp[y8,n5]⟩
theorem b3s (x:Int):∀(l:List (Ld×Bool)) (c:Int),l.foldl (b1o x) c=c∨∃p∈l,p.2=true∧p.1.At=x∧l.foldl (b1o x) c=p.1.Units
 |[],c=>Or.inl rfl
 | p::l,c=>by
  rw[List.foldl_cons]
  rcases b3s x l (b1o x c p)with h|⟨q,hq,h1,h2,h3⟩
  ·rw[h];unfold b1o
   by_cases hc:p.2=true∧p.1.At=x
   ·rw[if_pos hc];exact Or.inr ⟨p,by simp,hc.1,hc.2,rfl⟩
   ·rw[if_neg hc];exact Or.inl rfl
  ·exact Or.inr ⟨q,by simp[hq],h1,h2,h3⟩
theorem b7r (l:List Ld) (sv:List Bool) (x:Int):igt (tkK l sv) x=0∨∃(i:Nat) (y:Ld),l[i]?=some y∧sv[i]?=some true∧y.At=x∧igt (tkK l sv) x=y.Units:=by
 rw[a2G];unfold cur
 rcases b3s x (l.zip sv) 0 with h|⟨q,hq,h1,h2,h3⟩
 ·exact Or.inl h
 ·obtain⟨i,hi⟩:=List.getElem?_of_mem hq;rw[List.getElem?_zip_eq_some]at hi;exact Or.inr ⟨i,q.1,hi.1,by rw[hi.2,h1],h2,h3⟩
theorem a0I {g:Gr} {l:List Ld}:∀{k:Nat},a1V g l k=true→∀(i:Nat) y,i<k→l[i]?=some y→0≤y.At∧y.At<g.Nodes∧-40≤y.Units∧y.Units≤40∧0≤y.Rank∧y.Rank≤100∧∀(j:Nat) z,j<i→l[j]?=some z→z.At≠y.At
 |0,_,i,y,hi,_=>by omega
 |k+1,h,i,y,hi,hy=>by
  simp only[a1V,Bool.and_eq_true]at h
  rcases Nat.lt_succ_iff_lt_or_eq.1 hi with h1|h1
  ·exact a0I h.1 i y h1 hy
  ·subst h1;have h2:=h.2;rw[hy]at h2;simp only[ldB,Bool.and_eq_true,v9,Bool.not_eq_true',List.any_eq_false,decide_eq_true_eq]at h2;obtain⟨⟨⟨a,b⟩,c⟩,d⟩:=h2;refine⟨a.1,by omega,b.1,b.2,c.1,c.2,fun j z hj hz=>?_⟩;exact d z (List.mem_of_getElem? (i:=j) (by rw[List.getElem?_take,if_pos hj];exact hz))
structure c2d (g:Gr) (l:List Ld):Prop where
 at_:∀y∈l,0≤y.At∧y.At<g.Nodes
 un:∀y∈l,-40≤y.Units∧y.Units≤40
 rk:∀y∈l,0≤y.Rank∧y.Rank≤100
 one:∀(i j:Nat) y z,l[i]?=some y→l[j]?=some z→y.At=z.At→i=j
theorem a5m {g:Gr} {s:Sta} {l:List Ld} (h:w9 g s l=true):c2d g l:=by
 simp only[w9,Bool.and_eq_true]at h;have key:∀y∈l,∃i:Nat,i<l.length∧l[i]?=some y:=fun y hy=>by
  obtain⟨i,hi⟩:=List.getElem?_of_mem hy;exact⟨i,(List.getElem?_eq_some_iff.1 hi).1,hi⟩
 refine⟨fun y hy=>?_,fun y hy=>?_,fun y hy=>?_,fun i j y z hi hj e=>?_⟩
 ·obtain⟨i,h1,h2⟩:=key y hy;have:=a0I h.2 i y h1 h2;omega
 ·obtain⟨i,h1,h2⟩:=key y hy;have:=a0I h.2 i y h1 h2;omega
 ·obtain⟨i,h1,h2⟩:=key y hy;have:=a0I h.2 i y h1 h2;omega
 ·have h1:=(a0I h.2 i y (List.getElem?_eq_some_iff.1 hi).1 hi).2.2.2.2.2.2;have h2:=(a0I h.2 j z (List.getElem?_eq_some_iff.1 hj).1 hj).2.2.2.2.2.2
  rcases Nat.lt_trichotomy i j with h3|h3|h3
  ·exact absurd e (h2 i y h3 hi)
  ·exact h3
  ·exact absurd e.symm (h1 j z h3 hj)
theorem b0X {g:Gr} {l:List Ld} (h:c2d g l) (sv:List Bool) (x:Int):-40≤igt (tkK l sv) x∧igt (tkK l sv) x≤40:=by
 rcases b7r l sv x with e|⟨i,y,h1,_,_,e⟩
 ·omega
 ·have:=h.un y (List.mem_of_getElem? h1);omega
end Go.Cur
end
section
namespace Go.Cur
open Go.AM Go.Proofs
abbrev Wd (x:Nat):AV:= .v (.int .u64 (x:Int))
theorem a0C (x:Nat) (hx:x<18446744073709551616):bits .and .u64 (x:Int) 4294967295=((x % 4294967296:Nat):Int):=by
 show IntKind.u64.wrap ((BitVec.ofInt 64 x&&&BitVec.ofInt 64 (4294967295:Nat)).toNat:Int)=_;have h:(BitVec.ofInt 64 x&&&BitVec.ofInt 64 (4294967295:Nat)).toNat=x % 4294967296:=by
  simp only[BitVec.toNat_and,BitVec.ofInt_natCast,BitVec.toNat_ofNat];rw[Nat.mod_eq_of_lt (by omega),Nat.mod_eq_of_lt (by omega)];exact Nat.and_two_pow_sub_one_eq_mod x 32
 rw[h];exact IntWalk.u64_in _ (by omega)
theorem b4w (x:Nat):(x:Int)/4294967296=((x/4294967296:Nat):Int):=by omega
theorem E8 {x:Nat} (h:x<18446744073709551616):IntKind.u64.wrap (x:Int)=(x:Int):=IntWalk.u64_in _ (by omega)
theorem b8t (x:Nat):IntKind.u64.wrap (x:Int)=((x % 18446744073709551616:Nat):Int):=by
 show(x:Int) % 18446744073709551616=_;omega
theorem b1P (x y:Nat) (hx:x<18446744073709551616) (hy:y<18446744073709551616):d5 Try.prog 103 [Wd x,Wd y] (.tup [Wd (x*y/18446744073709551616),Wd (x*y % 18446744073709551616)]):=by
 have hb:(32:Int)≤(IntKind.u64.bits:Int):=by decide
 have hb':32≤IntKind.u64.bits:=by decide
 obtain⟨h1,h2,h3,h4⟩:=Go.Lib.mul64_hi x y hx hy;have hxy:=b8t (x*y);have a1:=a0C x hx;have a2:=a0C y hy;have s1:=b4w x;have s2:=b4w y;have b0:x/4294967296<4294967296:=by omega
 have b1:y/4294967296<4294967296:=by omega
 have b2:x % 4294967296<4294967296:=by omega
 have b3:y % 4294967296<4294967296:=by omega
 have hhi:x*y/18446744073709551616<18446744073709551616:=by
  have:=Nat.mul_le_mul (Nat.le_of_lt_succ (show x<Nat.succ 18446744073709551615 by omega)) (Nat.le_of_lt_succ (show y<Nat.succ 18446744073709551615 by omega));omega
 generalize x/4294967296=x1 at*
 generalize x % 4294967296=x0 at*
 generalize y/4294967296=y1 at*
 generalize y % 4294967296=y0 at*
 have c1:IntKind.u64.wrap ((x0:Int)*y0)=((x0*y0:Nat):Int):=by rw[←Int.natCast_mul];exact E8 h1
 have hp1:x1*y0<18446744073709551616:=by omega
 have c2:IntKind.u64.wrap ((x1:Int)*y0)=((x1*y0:Nat):Int):=by rw[←Int.natCast_mul];exact E8 hp1
 have d1:=b4w (x0*y0);have c3:IntKind.u64.wrap ((x1:Int)*y0+(x0:Int)*y0/4294967296)=((x1*y0+x0*y0/4294967296:Nat):Int):=by rw[show(x1:Int)*y0+(x0:Int)*y0/4294967296=((x1*y0+x0*y0/4294967296:Nat):Int)by simp];exact E8 h2
 generalize x1*y0+x0*y0/4294967296=t at*
 have a3:=a0C t h2;have d2:=b4w t;have hp2:x0*y1<18446744073709551616:=by omega
 have c4:IntKind.u64.wrap ((x0:Int)*y1)=((x0*y1:Nat):Int):=by rw[←Int.natCast_mul];exact E8 hp2
 have c5:IntKind.u64.wrap ((t:Int) % 4294967296+(x0:Int)*y1)=((t % 4294967296+x0*y1:Nat):Int):=by rw[show(t:Int) % 4294967296+(x0:Int)*y1=((t % 4294967296+x0*y1:Nat):Int)by simp];exact E8 h3
 generalize t % 4294967296+x0*y1=w at*
 have d3:=b4w w;have hp3:x1*y1<18446744073709551616:=by omega
 have c6:IntKind.u64.wrap ((x1:Int)*y1)=((x1*y1:Nat):Int):=by rw[←Int.natCast_mul];exact E8 hp3
 have c7:IntKind.u64.wrap ((x1:Int)*y1+(t:Int)/4294967296)=((x1*y1+t/4294967296:Nat):Int):=by rw[show(x1:Int)*y1+(t:Int)/4294967296=((x1*y1+t/4294967296:Nat):Int)by simp];exact E8 (by omega)
 have c8:IntKind.u64.wrap ((x1:Int)*y1+(t:Int)/4294967296+(w:Int)/4294967296)=((x*y/18446744073709551616:Nat):Int):=by rw[show(x1:Int)*y1+(t:Int)/4294967296+(w:Int)/4294967296=((x1*y1+t/4294967296+w/4294967296:Nat):Int)by simp,h4];exact E8 hhi
 have c9:IntKind.u64.wrap ((x:Int)*y)=((x*y % 18446744073709551616:Nat):Int):=by rw[←Int.natCast_mul];exact hxy
 refine d5.of_body Try.func103 rfl (by decide) (by simp[Try.ntmps103]) ?_;simp only[Try.ntmps103,Try.results103];refine aS fun K hK=>?_;simp -dsimp;apply hK;clear hK K;refine aS fun K hK=>?_;simp -dsimp [a1];apply hK;clear hK K;refine aS fun K hK=>?_;simp -dsimp [s1,hb,hb'];apply hK;clear hK K;refine aS fun K hK=>?_;simp -dsimp [a2];apply hK;clear hK K;refine aS fun K hK=>?_;simp -dsimp [s2,hb,hb'];apply hK;clear hK K;refine aS fun K hK=>?_;simp -dsimp [c1];apply hK;clear hK K;refine aS fun K hK=>?_;simp -dsimp [c2,c3,hb,hb'];apply hK;clear hK K;refine aS fun K hK=>?_;simp -dsimp [a3];apply hK;clear hK K;refine aS fun K hK=>?_;simp -dsimp [hb,hb'];apply hK;clear hK K;refine aS fun K hK=>?_;simp -dsimp [c4,c5];apply hK;clear hK K;refine aS fun K hK=>?_;simp -dsimp [c6,c7,c8,hb,hb'];apply hK;clear hK K;refine aS fun K hK=>?_;simp -dsimp [c9];apply hK;clear hK K;exact g7 (by simp)
theorem a5h (n:Int) (w:World):(convert 3 156 (.int .i64 n)).run Try.prog w= .ok (.int .u64 (IntKind.u64.wrap n)) w:=by
 simp[convert,run_underlying a8M,run_underlying b3G,Conv.intToInt]
theorem b8s (p q:Nat):(q/18446744073709551616<p/18446744073709551616∨p/18446744073709551616=q/18446744073709551616∧q % 18446744073709551616<p % 18446744073709551616)↔q<p:=by omega
theorem b3g (a b:Fr) (ha:0≤a.Num∧a.Num≤9223372036854775807) (ha':0≤a.Den∧a.Den≤9223372036854775807) (hb:0≤b.Num∧b.Num≤9223372036854775807) (hb':0≤b.Den∧b.Den≤9223372036854775807):
  d5 Try.prog 99 [a.av,b.av] (Bo (decide (b.Num*a.Den<a.Num*b.Den))):=by
 obtain⟨an,ad⟩:=a;obtain⟨bn,bd⟩:=b;simp only at ha ha' hb hb';obtain⟨an,rfl⟩:=Int.eq_ofNat_of_zero_le ha.1;obtain⟨ad,rfl⟩:=Int.eq_ofNat_of_zero_le ha'.1;obtain⟨bn,rfl⟩:=Int.eq_ofNat_of_zero_le hb.1;obtain⟨bd,rfl⟩:=Int.eq_ofNat_of_zero_le hb'.1;have m1:=b1P an bd (by omega) (by omega);have m2:=b1P bn ad (by omega) (by omega);have u1:=E8 (x:=an) (by omega);have u2:=E8 (x:=bd) (by omega);have u3:=E8 (x:=bn) (by omega);have u4:=E8 (x:=ad) (by omega);have hw:=b8s (an*bd) (bn*ad);have e:decide ((bn:Int)*ad<an*bd)=decide (bn*ad<an*bd):=by
  rw[←Int.natCast_mul,←Int.natCast_mul];exact decide_eq_decide.2 Int.ofNat_lt
 show d5 Try.prog 99 _ (Bo (decide ((bn:Int)*ad<an*bd)));rw[e];generalize an*bd=p at m1 hw ⊢;generalize bn*ad=q at m2 hw ⊢;refine d5.of_body Try.func99 rfl (by decide) (by simp[Try.ntmps99]) ?_;simp only[Try.ntmps99,Try.results99];refine aS fun K hK=>?_;simp -dsimp;apply hK;clear hK K;refine aS fun K hK=>?_;simp -dsimp;refine⟨_,a5h _,?_⟩;simp -dsimp [u1,u2];refine⟨_,a5h _,?_⟩;simp -dsimp [u1,u2];refine d6 _ (m1) (by simp) ?_;simp -dsimp;apply hK;clear hK K;refine aS fun K hK=>?_;simp -dsimp;refine⟨_,a5h _,?_⟩;simp -dsimp [u3,u4];refine⟨_,a5h _,?_⟩;simp -dsimp [u3,u4];refine d6 _ (m2) (by simp) ?_;simp -dsimp;apply hK;clear hK K;refine aS fun K hK=>?_;simp -dsimp;apply hK;clear hK K;refine g7 ?_;simp;rw[Bool.eq_iff_iff];simp only[Bool.or_eq_true,Bool.and_eq_true,decide_eq_true_eq,beq_iff_eq];omega
end Go.Cur
end
section
namespace Go.Cur
open Go.AM Go.Proofs
def frA (fs:List Fr) (k:Nat):Fr:=(fs[k]?).getD default
theorem Q5 {fs:List Fr} {k:Nat} (h:k<fs.length):fs[k]?=some (frA fs k):=by
 unfold frA;rw[List.getElem?_eq_getElem h];rfl
def fdA (g:Gr) (k:Nat):Fd:=(g.Feeds[k]?).getD default
theorem a2z {g:Gr} {k:Nat} (h:k<g.Feeds.length):g.Feeds[k]?=some (fdA g k):=by
 unfold fdA;rw[List.getElem?_eq_getElem h];rfl
def ovr (g:Gr) (fs:List Fr) (i:Nat):Fr:=⟨(frA fs i).Num-(fdA g i).Limit*(frA fs i).Den,(frA fs i).Den⟩
def trS (g:Gr) (fs:List Fr) (s:Int×Fr) (i:Nat):Int×Fr:=
 if 0<(ovr g fs i).Num∧(s.1<0∨s.2.Num*(ovr g fs i).Den<(ovr g fs i).Num*s.2.Den)then(i,ovr g fs i)else s
def trL (g:Gr) (fs:List Fr) (n:Nat):Int×Fr:=(List.range n).foldl (trS g fs) (-1,⟨0,0⟩)
theorem W9 (g:Gr) (fs:List Fr) (n:Nat):trL g fs (n+1)=trS g fs (trL g fs n) n:=by
 unfold trL;rw[List.range_succ,List.foldl_append];rfl
structure c1E (g:Gr) (fs:List Fr):Prop where
 len:fs.length=g.Feeds.length
 num:∀y∈fs,0≤y.Num∧y.Num≤4000000000000000000
 den:∀y∈fs,1≤y.Den∧y.Den≤100000000000000
 lim:∀f∈g.Feeds,0≤f.Limit∧f.Limit≤10000
theorem c1E.prod {g:Gr} {fs:List Fr} (h:c1E g fs) {k:Nat} (hk:k<g.Feeds.length):0≤(fdA g k).Limit*(frA fs k).Den∧(fdA g k).Limit*(frA fs k).Den≤1000000000000000000:=by
 have h1:=h.lim _ (List.mem_of_getElem? (a2z hk));have h2:=h.den _ (List.mem_of_getElem? (Q5 (by rw[h.len];exact hk)));exact⟨Int.mul_nonneg h1.1 (by omega),Int.le_trans (Int.mul_le_mul h1.2 h2.2 (by omega) (by omega)) (by omega)⟩
theorem b3k {g:Gr} {fs:List Fr} (h:c1E g fs):∀n,n≤g.Feeds.length→ -1≤(trL g fs n).1∧(trL g fs n).1<n∧(0≤(trL g fs n).2.Num∧(trL g fs n).2.Num≤4000000000000000000)∧0≤(trL g fs n).2.Den∧(trL g fs n).2.Den≤100000000000000
 |0,_=>by simp[trL]
 |n+1,hn=>by
  have ih:=b3k h n (by omega);have h1:=h.prod (k:=n) (by omega);have h2:=h.den _ (List.mem_of_getElem? (Q5 (fs:=fs) (k:=n) (by rw[h.len];omega)));have h3:=h.num _ (List.mem_of_getElem? (Q5 (fs:=fs) (k:=n) (by rw[h.len];omega)));rw[W9];unfold trS
  split
  ·rename_i hc;have hc1:=hc.1;simp only[ovr]at hc1 ⊢;omega
  ·omega
theorem b8P (x:Value) (g:Gr) (fe wi:List Bool) (l:List Ld) (sv:List Bool) (vs fs:List Fr) (cuts:List Cu) (hc:cuts.length≤1000) (hn:g.Feeds.length≤1000) (hfe:fe.length=g.Feeds.length) (hok:c1E g fs) (r:Bool) (fe2:List Bool) (cuts2:List Cu)
  (ht:∀i:Nat,(trL g fs g.Feeds.length).1=i→r=true∧fe2=fe.set i false∧cuts2=cuts++[(⟨4,i,frA fs i⟩:Cu)])
  (hf:(trL g fs g.Feeds.length).1<0→r=false∧fe2=fe∧cuts2=cuts):
  g6 Try.prog 80 [.ptr 0 0 0] [hSa (.fptr x 1 0 0) l sv.length vs fs cuts.length,hNa g fe wi] [some (.els 1 (sv.map i8)),some (.els 1 (fe.map i8)),some (.els 4 (cuts.map Cu.cells))]
   (Bo r) [hSa (.fptr x 1 0 0) l sv.length vs fs cuts2.length,hNa g fe2 wi] [some (.els 1 (sv.map i8)),some (.els 1 (fe2.map i8)),some (.els 4 (cuts2.map Cu.cells))]:=by
 refine g6.keep (Hk:=[_]) (Hk':=[_]) 0 0 0 (x:=x) (i:=0) (o:=0) ?_ rfl rfl rfl rfl rfl rfl;have f1:C7 (cuts.length+1) 33:=k9 (by omega) (by omega);refine g6.of_bodyG [0] Try.func80 rfl (by decide) (by simp[Try.ntmps80]) rfl rfl ?_;intro J hJ;simp only[Try.ntmps80,Try.results80];refine gS fun K hK=>?_;simp -dsimp;apply hK;clear hK K;refine gS fun K hK=>?_;simp -dsimp;apply hK;clear hK K;refine gS fun K hK=>?_;simp -dsimp;apply hK;clear hK K;refine b9 fun K1 hK1=>?_;refine gS fun K hK=>?_;simp -dsimp;apply hK;clear hK K;refine d7 ?_;refine b7 [0,3,4,16,17,18] (Or.inr (by simp)) ?_;simp only[zP,Nat.reduceEqDiff,reduceIte];refine g8 [0,4,16,17] (α:=Nat) (fun k=>[(3,I (trL g fs k).1),(18,I k)]) (fun k=>[hSa (.fptr x 1 0 0) l sv.length vs fs cuts.length,hNa g fe wi,some (.els 1 (sv.map i8)),some (.els 1 (fe.map i8)),some (.els 4 (cuts.map Cu.cells)),some (.els 2 [(trL g fs k).2.cells])]) (fun k=>k≤g.Feeds.length) (fun k=>g.Feeds.length-k) 0 ?_ ?_ ?_
 ·exact Nat.zero_le _
 ·exact m8 (j7 (by simp[trL])) (by simp)
 rintro k k1;simp only[zP,Nat.reduceEqDiff,reduceIte];refine gS fun K hK=>?_;simp -dsimp;apply hK;clear hK K;refine b9 fun K2 hK2=>?_;refine d8 rfl (fun hc0=>?_) (fun hc0=>?_)
 ·have hkl:k<g.Feeds.length:=by simpa using hc0
  have wk:=zW k (by omega);have gf:=a2z hkl;have hfl:=hok.len;have gx:=Q5 (fs:=fs) (k:=k) (by omega);have hpr:=hok.prod hkl;have hnm:=hok.num _ (List.mem_of_getElem? gx);have hdn:=hok.den _ (List.mem_of_getElem? gx);have hbd:=b3k hok k k1;have hsu:=W9 g fs k;have w1:IntKind.i64.wrap ((fdA g k).Limit*(frA fs k).Den)=(fdA g k).Limit*(frA fs k).Den:=i7 (by omega) (by omega);have w2:IntKind.i64.wrap ((frA fs k).Num-(fdA g k).Limit*(frA fs k).Den)=(frA fs k).Num-(fdA g k).Limit*(frA fs k).Den:=i7 (by omega) (by omega);unfold trS ovr at hsu;simp only at hsu;generalize trL g fs k=m at hsu hbd ⊢;obtain⟨at_,mn,md⟩:=m;simp only at hsu hbd ⊢;refine e9 ?_;simp only[zT,reduceIte,Nat.reduceEqDiff];refine hK2 _ _ ?_;refine b7 [0,3,4,16,17,18] (Or.inr (by simp)) ?_;simp only[zP,Nat.reduceEqDiff,reduceIte];refine b9 fun K3 hK3=>?_;refine d7 ?_;refine gS fun K hK=>?_;simp -dsimp [gf];apply hK;clear hK K;refine gS fun K hK=>?_;simp -dsimp [gx];apply hK;clear hK K;refine gS fun K hK=>?_;simp -dsimp [w1,w2];apply hK;clear hK K;refine gS fun K hK=>?_;simp -dsimp;refine f8 _ (fun hm=>b3g ⟨(frA fs k).Num-(fdA g k).Limit*(frA fs k).Den,(frA fs k).Den⟩ ⟨mn,md⟩ (by simp at hm;simp;omega) (by simp;omega) (by simp;omega) (by simp;omega)) (by simp) ?_;simp -dsimp;apply hK;clear hK K;refine d8 rfl (fun hc1=>?_) (fun hc1=>?_)
  ·refine p9 l6 rfl (by decide) rfl rfl fun K hK=>?_;simp -dsimp;refine hK _ _ _ (by decide+kernel) ?_;clear hK K;simp only[zT,reduceIte,Nat.reduceEqDiff];refine hK3 _ _ ?_;refine b7 [0,3,4,16,17,18] (Or.inr (by simp)) ?_;simp only[zP,Nat.reduceEqDiff,reduceIte];refine gR fun K hK=>?_;simp -dsimp [wk];apply hK;clear hK K;simp only[zT,reduceIte,Nat.reduceEqDiff];have hcd:0<(frA fs k).Num-(fdA g k).Limit*(frA fs k).Den∧(at_<0∨mn*(frA fs k).Den<((frA fs k).Num-(fdA g k).Limit*(frA fs k).Den)*md):=by simpa using hc1
   rw[if_pos hcd]at hsu;exact⟨k+1,by omega,by omega,m8 (e8 [some 0,some 1,some 2,some 3,some 4,some 5] rfl (by simp[hsu]) (by simp[hsu])) (by simp)⟩
  ·refine e9 ?_;simp only[zT,reduceIte,Nat.reduceEqDiff];refine hK3 _ _ ?_;refine b7 [0,3,4,16,17,18] (Or.inr (by simp)) ?_;simp only[zP,Nat.reduceEqDiff,reduceIte];refine gR fun K hK=>?_;simp -dsimp [wk];apply hK;clear hK K;simp only[zT,reduceIte,Nat.reduceEqDiff];have hcd:¬(0<(frA fs k).Num-(fdA g k).Limit*(frA fs k).Den∧(at_<0∨mn*(frA fs k).Den<((frA fs k).Num-(fdA g k).Limit*(frA fs k).Den)*md)):=fun h=>by have h1:(fdA g k).Limit*(frA fs k).Den<(frA fs k).Num:=(by omega);simp only[h1,decide_true,Bool.true_and,Bool.or_eq_false_iff,decide_eq_false_iff_not]at hc1;exact h.2.elim hc1.1 hc1.2
   rw[if_neg hcd]at hsu;exact⟨k+1,by omega,by omega,m8 (e8 [some 0,some 1,some 2,some 3,some 4,some 5] rfl (by simp[hsu]) (by simp[hsu])) (by simp)⟩
 ·have hke:k=g.Feeds.length:=by have hn:¬k<g.Feeds.length:=(by simpa using hc0);omega
  subst hke;have hbd:=b3k hok g.Feeds.length (Nat.le_refl _);have hfl:=hok.len;generalize trL g fs g.Feeds.length=m at ht hf hbd ⊢;obtain⟨at_,mn,md⟩:=m;simp only at ht hf hbd ⊢;refine i6 ?_;simp only[zT,reduceIte,Nat.reduceEqDiff];refine hK1 _ _ ?_;refine b7 [0,3] (Or.inr (by simp)) ?_;simp only[zP,Nat.reduceEqDiff,reduceIte];refine b9 fun K4 hK4=>?_;refine gS fun K hK=>?_;simp -dsimp;apply hK;clear hK K;refine d8 rfl (fun hc2=>?_) (fun hc2=>?_)
  ·obtain⟨i,rfl⟩:∃i:Nat,at_=i:=⟨at_.toNat,by have:0≤at_:=(by simpa using hc2);omega⟩;have hil:i<g.Feeds.length:=by omega
   have gx:=Q5 (fs:=fs) (k:=i) (by omega);obtain⟨e1,e2,e3⟩:=ht i rfl;subst e1 e2 e3;refine gS fun K hK=>?_;simp -dsimp [hil,hfe];apply hK;clear hK K;refine p9 l6 rfl (by decide) rfl rfl fun K hK=>?_;simp -dsimp [gx,f1];refine hK _ _ _ (by decide+kernel) ?_;clear hK K;simp only[zT,reduceIte,Nat.reduceEqDiff];refine hK4 _ _ ?_;refine b7 [0,3] (Or.inr (by simp)) ?_;simp only[zP,Nat.reduceEqDiff,reduceIte];refine gS fun K hK=>?_;simp -dsimp;apply hK;clear hK K;exact k7 ⟨[some 0,some 1,some 2,some 3,some 6],rfl,by simp,by simp[List.map_set],by simp,by simp[y8,n5]⟩
  ·obtain⟨e1,e2,e3⟩:=hf (by have:¬0≤at_:=(by simpa using hc2);omega);subst e1 e2 e3;refine e9 ?_;simp only[zT,reduceIte,Nat.reduceEqDiff];refine hK4 _ _ ?_;refine b7 [0,3] (Or.inr (by simp)) ?_;simp only[zP,Nat.reduceEqDiff,reduceIte];refine gS fun K hK=>?_;simp -dsimp;apply hK;clear hK K;exact k7 ⟨[some 0,some 1,some 2,some 3,some 4],rfl,by simp,by simp,by simp,by simp at hc2;simp[y8,n5];omega⟩
end Go.Cur
end
section
namespace Go.Cur
open Go.AM Go.Proofs
theorem b9h (x:Value) (g:Gr) (fe wi:List Bool) (l:List Ld) (sv:List Bool) (vs fs:List Fr) (cuts:List Cu) (hg:g.Feeds=[]):
  g6 Try.prog 80 [.ptr 0 0 0] [hSb (.fptr x 1 0 0) l sv.length vs fs cuts.length,hNb g fe wi] [some (.els 1 (sv.map i8)),some (.els 4 (cuts.map Cu.cells))]
   (Bo false) [hSb (.fptr x 1 0 0) l sv.length vs fs cuts.length,hNb g fe wi] [some (.els 1 (sv.map i8)),some (.els 4 (cuts.map Cu.cells))]:=by
 refine g6.keep (Hk:=[_]) (Hk':=[_]) 0 0 0 (x:=x) (i:=0) (o:=0) ?_ rfl rfl rfl rfl rfl rfl;refine g6.of_bodyG [0] Try.func80 rfl (by decide) (by simp[Try.ntmps80]) rfl rfl ?_;intro J hJ;simp only[Try.ntmps80,Try.results80];refine gS fun K hK=>?_;simp -dsimp;apply hK;clear hK K;refine gS fun K hK=>?_;simp -dsimp;apply hK;clear hK K;refine gS fun K hK=>?_;simp -dsimp;apply hK;clear hK K;refine b9 fun K1 hK1=>?_;refine gS fun K hK=>?_;simp -dsimp;apply hK;clear hK K;refine d7 ?_;refine b7 [0,3,4,16,17,18] (Or.inr (by simp)) ?_;simp only[zP,Nat.reduceEqDiff,reduceIte];refine g8 [0,4,16,17] (α:=Nat) (fun k=>[(3,I (-1)),(18,I 0)]) (fun k=>[hSb (.fptr x 1 0 0) l sv.length vs fs cuts.length,hNb g fe wi,some (.els 1 (sv.map i8)),some (.els 4 (cuts.map Cu.cells)),some (.els 2 [[I 0,I 0]])]) (fun k=>True) (fun k=>0) 0 ?_ ?_ ?_
 ·trivial
 ·exact m8 (j7 (by simp)) (by simp)
 rintro k k1;simp only[zP,Nat.reduceEqDiff,reduceIte];refine gS fun K hK=>?_;simp -dsimp;apply hK;clear hK K;refine b9 fun K2 hK2=>?_;refine d8 rfl (fun hc0=>?_) (fun hc0=>?_)
 ·simp[hg]at hc0
 ·refine i6 ?_;simp only[zT,reduceIte,Nat.reduceEqDiff];refine hK1 _ _ ?_;refine b7 [0,3] (Or.inr (by simp)) ?_;simp only[zP,Nat.reduceEqDiff,reduceIte];refine b9 fun K3 hK3=>?_;refine gS fun K hK=>?_;simp -dsimp;apply hK;clear hK K;refine d8 rfl (fun hc2=>?_) (fun hc2=>?_)
  ·simp at hc2
  ·refine e9 ?_;simp only[zT,reduceIte,Nat.reduceEqDiff];refine hK3 _ _ ?_;refine b7 [0,3] (Or.inr (by simp)) ?_;simp only[zP,Nat.reduceEqDiff,reduceIte];refine gS fun K hK=>?_;simp -dsimp;apply hK;clear hK K;exact k7 ⟨[some 0,some 1,some 2,some 3],rfl,by simp,by simp,by simp,by simp[y8,n5]⟩
end Go.Cur
end
section
namespace Go.Cur
open Go.AM Go.Proofs
def setT (bs:Kvs) (p:List Int):Kvs:=p.foldl (fun b k=>y5 b (ik k) (.bool true)) bs
theorem a6K {bs:Kvs} {p:List Int} {k:Nat} {x:Int} (h:p[k]?=some x):setT bs (p.take (k+1))=y5 (setT bs (p.take k)) (ik x) (.bool true):=by
 unfold setT;rw[List.take_add_one,h,List.foldl_append];rfl
theorem a1B (y:Int):∀(p:List Int) (bs:Kvs),ibt (setT bs p) y=(decide (y∈p)||ibt bs y)
 |[],bs=>by simp[setT]
 |x::p,bs=>by
  have ih:=a1B y p (y5 bs (ik x) (.bool true));unfold setT at ih ⊢;rw[List.foldl_cons,ih,b9g]
  by_cases h:y=x
  ·subst h;simp
  ·simp[h]
theorem a9b.setT:∀(p:List Int) {bs:Kvs},a9b bs→a9b (Cur.setT bs p)
 |[],bs,h=>h
 |x::p,bs,h=>a9b.setT p (h.set x true)
def a2y (g:Gr) (vf:Nat→Fr) (l:List Ld) (sv:List Bool) (i:Nat):Bool:=
 bAt sv i&&(decide (0<(ldA l i).Units)&&decide ((vf (ldA l i).At.toNat).Num<g.Least*(vf (ldA l i).At.toNat).Den))
def b7P (g:Gr) (s:Sta) (vf:Nat→Fr) (l:List Ld) (sv:List Bool) (bs:Kvs) (i:Nat):Kvs:=
 if a2y g vf l sv i=true then setT bs (upN (s6 g s (ldA l i).At.toNat))else bs
def M0 (g:Gr) (s:Sta) (vf:Nat→Fr) (l:List Ld) (sv:List Bool) (n:Nat):Kvs:=(List.range n).foldl (b7P g s vf l sv) []
theorem L5 (g:Gr) (s:Sta) (vf:Nat→Fr) (l:List Ld) (sv:List Bool) (n:Nat):M0 g s vf l sv (n+1)=b7P g s vf l sv (M0 g s vf l sv n) n:=by
 unfold M0;rw[List.range_succ,List.foldl_append];rfl
theorem a1W (g:Gr) (s:Sta) (vf:Nat→Fr) (l:List Ld) (sv:List Bool):∀n,a9b (M0 g s vf l sv n)
 |0=>a9b.nil
 |n+1=>by
  rw[L5];unfold b7P
  split
  ·exact a9b.setT _ (a1W g s vf l sv n)
  ·exact a1W g s vf l sv n
theorem c1l (n:Nat) (l:List Fr):(l.map Fr.cells).map (fun e=>e.map (b6G n))=l.map Fr.cells:=by
 rw[List.map_map];exact List.map_congr_left fun x _=>rfl
theorem c0Z (x:Value) (g:Gr) (fe wi:List Bool) (l:List Ld) (sv:List Bool) (vs fs:List Fr) (cuts:List Cu) (hl:l.length≤1000) (hs:sv.length=l.length) (hc:cuts.length≤1000)
  (hld:∀y∈l,0≤y.At∧y.At<g.Nodes) (hnt:o8 g ⟨fe,wi⟩) (h12:V4 g ⟨fe,wi⟩) (vf:Nat→Fr) (hv:∀p∈l8 g ⟨fe,wi⟩,∃v d,a4y g ⟨fe,wi⟩ (tkK l sv) p v d vf)
  (hvd:∀k,k<g.Nodes.toNat→0<(vf k).Den∧(vf k).Den≤100000000000000) (r:Bool) (sv2:List Bool) (cuts2:List Cu)
  (ht:∀i:Nat,leL l sv (Y2 (M0 g ⟨fe,wi⟩ vf l sv l.length)) l.length=i→r=true∧sv2=sv.set i false∧cuts2=cuts++[(⟨3,i,vf (ldA l i).At.toNat⟩:Cu)])
  (hf:leL l sv (Y2 (M0 g ⟨fe,wi⟩ vf l sv l.length)) l.length<0→r=false∧sv2=sv∧cuts2=cuts):
  g6 Try.prog 79 [.ptr 0 0 0] [hSa (.fptr x 1 0 0) l sv.length vs fs cuts.length,hNa g fe wi] [some (.els 1 (sv.map i8)),some (.els 1 (fe.map i8)),some (.els 4 (cuts.map Cu.cells))]
   (Bo r) [hSa (.fptr x 1 0 0) l sv2.length (vlA g.Nodes.toNat vf) (flA g ⟨fe,wi⟩ vf) cuts2.length,hNa g fe wi] [some (.els 1 (sv2.map i8)),some (.els 1 (fe.map i8)),some (.els 4 (cuts2.map Cu.cells))]:=by
 refine g6.keep (Hk:=[_]) (Hk':=[_]) 0 0 0 (x:=x) (i:=0) (o:=0) ?_ rfl rfl rfl rfl rfl rfl;have hbd:=r7 hnt.gr;have hsol:=a2N g ⟨fe,wi⟩ (tkK l sv) hnt h12 vf hv;have hvN:(vlA g.Nodes.toNat vf).length=g.Nodes.toNat:=by simp[vlA]
 have hfN:(flA g ⟨fe,wi⟩ vf).length=g.Feeds.length:=by simp[flA]
 have htv:List.take g.Nodes.toNat ((vlA g.Nodes.toNat vf).map Fr.cells)=(vlA g.Nodes.toNat vf).map Fr.cells:=List.take_of_length_le (by simp;omega);have htf:List.take g.Feeds.length ((flA g ⟨fe,wi⟩ vf).map Fr.cells)=(flA g ⟨fe,wi⟩ vf).map Fr.cells:=List.take_of_length_le (by simp;omega);have hlb:=O4 l sv (Y2 (M0 g ⟨fe,wi⟩ vf l sv l.length)) l.length;have hle:=a5k (net g ⟨fe,wi⟩) l sv (fL (vlA g.Nodes.toNat vf)) (fL (flA g ⟨fe,wi⟩ vf)) (cL cuts) 98 [[.mpc false [.i .i64] (M0 g ⟨fe,wi⟩ vf l sv l.length)]] (Y2 (M0 g ⟨fe,wi⟩ vf l sv l.length)) hl hs
  (fun y hy=>b7p (M0 g ⟨fe,wi⟩ vf l sv l.length) (a1W _ _ _ _ _ _) y)
 have hgv:=fun k (hk:k<g.Nodes.toNat)=>a4W (vf:=vf) hk;obtain⟨VS,hVS⟩:∃VS,VS=vlA g.Nodes.toNat vf:=⟨_,rfl⟩;obtain⟨FS,hFS⟩:∃FS,FS=flA g ⟨fe,wi⟩ vf:=⟨_,rfl⟩;obtain⟨lm,hlm⟩:∃lm:Nat→Kvs,lm=M0 g ⟨fe,wi⟩ vf l sv:=⟨_,rfl⟩;have hls:=fun n=>L5 g ⟨fe,wi⟩ vf l sv n;have hl0:lm 0=[]:=by rw[hlm];rfl
 rw[←hVS]at hsol hvN htv hle hgv ⊢;rw[←hFS]at hsol hfN htf hle ⊢;rw[←hlm]at hle hlb ht hf hls;clear hVS hFS hlm;generalize leL l sv (Y2 (lm l.length)) l.length=out at ht hf hlb hle;refine g6.of_bodyG [0] Try.func79 rfl (by decide) (by simp[Try.ntmps79]) rfl rfl ?_;intro J hJ;simp only[Try.ntmps79,Try.results79];refine gS fun K hK=>?_;simp -dsimp;apply hK;clear hK K;refine Z8 [3,4] [0] [(0,stg g ⟨fe,wi⟩ l sv (fL vs) (fL fs) (cL cuts))] (⟨.inr (by simp),trivial⟩) (by decide) (fun T' H'=>Go.AM.m6 T' 3= .ptr 5 0 0∧Go.AM.m6 T' 4=Bo true∧H'=[some (.map false [.i .i64] (tkK l sv)),some (.els 2 (VS.map Fr.cells)),some (.els 2 (FS.map Fr.cells)),some (.els 2 [[.row 1 0 g.Nodes.toNat, .row 2 0 g.Feeds.length]]),some (.els 1 [[Bo true]]),some (.els 2 [[.row 1 0 g.Nodes.toNat, .row 2 0 g.Feeds.length]])]) ?_ ?_
 ·intro J1 hJ1;refine p9 l6 rfl (by decide) rfl rfl fun K hK=>?_;simp -dsimp;refine D6 [] [] [some 0] (a5a l sv hl hs) (by decide) rfl (by simp) (by simp) rfl (by simp) (by simp) (by simp) ?_;simp -dsimp;refine D6 [] [] [none,some 0,some 1,some 2,some 3] (hsol) (by decide) rfl (by simp) (by simp) rfl (by simp) (by simp) (by simp) ?_;simp -dsimp;refine hK _ _ _ (by decide+kernel) ?_;clear hK K;exact⟨rfl,rfl,by simp⟩
 ·intro T' H' hR;obtain⟨hR,hR4,rfl⟩:=hR;refine⟨by simp,?_⟩;simp only[List.map_cons,List.map_nil,List.cons_append,List.nil_append,List.length_cons,List.length_nil,Nat.reduceAdd,Nat.zero_add,Option.map_some,b6G,a3A,Go.AM.m6,Nat.reduceEqDiff,reduceIte,hR,hR4,c1l];refine b9 fun K1 hK1=>?_;refine gS fun K hK=>?_;simp -dsimp;apply hK;clear hK K;refine d8 rfl (fun hc0=>?_) (fun hc0=>?_)
  ·simp at hc0
  ·refine e9 ?_;simp only[zT,reduceIte,Nat.reduceEqDiff];refine hK1 _ _ ?_;refine b7 [0,3] (Or.inr (by simp)) ?_;simp only[zP,Nat.reduceEqDiff,reduceIte];refine gS fun K hK=>?_;simp -dsimp;apply hK;clear hK K;refine o9 (m8 (B5 (T':=[(0, .ptr 0 0 0),(3, .ptr 5 0 0)]) (H':=[hSa (.fptr x 1 0 0) l sv.length VS FS cuts.length,hNa g fe wi,some (.els 1 (sv.map i8)),some (.els 1 (fe.map i8)),some (.els 4 (cuts.map Cu.cells)),some (.els 2 [[fL VS,fL FS]])]) [some 0,some 1,some 2,some 3,some 4,some 10] rfl ⟨.inr (by simp), .inr (by simp),trivial⟩ (by simp[htv,htf];omega)) (by simp)) ?_
   ·refine gS fun K hK=>?_;simp -dsimp;apply hK;clear hK K;refine b9 fun K2 hK2=>?_;refine gS fun K hK=>?_;simp -dsimp;apply hK;clear hK K;refine d7 ?_;refine b7 [0,3,5,38,39,40] (Or.inr (by simp)) ?_;simp only[zP,Nat.reduceEqDiff,reduceIte];refine g8 [0,3,5,38,39] (α:=Nat) (fun k=>[(40,I k)]) (fun k=>[hSa (.fptr x 1 0 0) l sv.length VS FS cuts.length,hNa g fe wi,some (.els 1 (sv.map i8)),some (.els 1 (fe.map i8)),some (.els 4 (cuts.map Cu.cells)),some (.els 2 [[fL VS,fL FS]]),some (.map false [.i .i64] (lm k)),some (.els 1 [[.mp 6]])]) (fun k=>k≤l.length) (fun k=>l.length-k) 0 ?_ ?_ ?_
    ·exact Nat.zero_le _
    ·rw[hl0];exact m8 (j7 (by simp)) (by simp)
    rintro k k1;simp only[zP,Nat.reduceEqDiff,reduceIte];refine gS fun K hK=>?_;simp -dsimp;apply hK;clear hK K;refine b9 fun K3 hK3=>?_;refine d8 rfl (fun hc1=>?_) (fun hc1=>?_)
    ·have hkl:k<l.length:=by simpa using hc1
     have wk:=zW k (by omega);have gl:=t6 (l:=l) (k:=k) hkl;have gb:=s7 (l:=sv) (k:=k) (by omega);have hne:¬sv=[]:=by intro e;rw[e]at hs;simp at hs;omega
     have hks:k<sv.length:=by omega
     have hbe:sv[k]=bAt sv k:=Option.some.inj (by rw[←List.getElem?_eq_getElem hks];exact gb);have hya:=hld _ (List.mem_of_getElem? gl);have hlk:=hls k;unfold b7P a2y at hlk;have hcp:=a6X g ⟨fe,wi⟩ l sv (fL VS) (fL FS) (cL cuts) hnt h12 (ldA l k).At hya.1 hya.2;have hpl:=r9 (s6 g ⟨fe,wi⟩ (ldA l k).At.toNat);have hpo:=L8 g ⟨fe,wi⟩ (ldA l k).At.toNat;generalize upN (s6 g ⟨fe,wi⟩ (ldA l k).At.toNat)=pl at hlk hcp hpl;obtain⟨kA,hkA⟩:∃kA:Nat,(ldA l k).At=kA:=⟨(ldA l k).At.toNat,by omega⟩;have hkN:kA<g.Nodes.toNat:=by omega
     have gv:=hgv kA hkN;have hd:=hvd kA hkN;rw[hkA,Int.toNat_natCast]at hlk;rw[hkA]at hcp;have hLd:0≤g.Least*(vf kA).Den∧g.Least*(vf kA).Den≤1000000000000000000:=⟨Int.mul_nonneg (by omega) (by omega),Int.le_trans (Int.mul_le_mul hbd.2.2.2.2.2 hd.2 (by omega) (by omega)) (by omega)⟩;have w1:IntKind.i64.wrap (g.Least*(vf kA).Den)=g.Least*(vf kA).Den:=i7 (by omega) (by omega);obtain⟨LD,hLD⟩:∃LD,g.Least*(vf kA).Den=LD:=⟨_,rfl⟩;rw[hLD]at w1 hlk;refine e9 ?_;simp only[zT,reduceIte,Nat.reduceEqDiff];refine hK3 _ _ ?_;refine b7 [0,3,5,38,39,40] (Or.inr (by simp)) ?_;simp only[zP,Nat.reduceEqDiff,reduceIte];refine b9 fun K4 hK4=>?_;refine d7 ?_;refine gS fun K hK=>?_;simp -dsimp [gl];apply hK;clear hK K;refine s4 l6 rfl (by decide) rfl rfl fun K hK=>?_;simp -dsimp [gb,hne,hkA,hLD,w1,hks,hbe];refine j8 ((vf kA).cells) (fun _=>by simp[gv]) ?_;simp -dsimp [gb,hne,hkA,hLD,w1,hks,hbe];refine j8 ((vf kA).cells) (fun _=>by simp[gv]) ?_;simp -dsimp [gb,hne,hkA,hLD,w1,hks,hbe];refine hK _ _ _ (by decide+kernel) ?_;clear hK K;refine d8 rfl (fun hc2=>?_) (fun hc2=>?_)
     ·refine a6n [6,7] [5] [0,3,38,39,40] [(0,stg g ⟨fe,wi⟩ l sv (fL VS) (fL FS) (cL cuts)),(5, .ptr 1 0 0),(7, .iptr (ldA l k).cells)] [some (.map false [.i .i64] (lm k)),some (.els 1 [[.mp 0]])] (by simp) (by decide) (⟨.inr (by simp), .inr (by simp), .inr (by simp[hkA]),trivial⟩) (by simp) (by decide) (fun T' H'=>Go.AM.m6 T' 5= .ptr 1 0 0∧H'=[some (.map false [.i .i64] (setT (lm k) pl)),some (.els 1 [[.mp 0]])]) ?_ ?_
      ·intro J1 hJ1;refine gR fun K hK=>?_;simp -dsimp [hkA];refine d6 _ (hcp) (by simp) ?_;simp -dsimp [hkA];apply hK;clear hK K;refine⟨rfl,?_⟩;refine d7 ?_;refine b7 [0,3,5,38,39,40,86,87,88] (Or.inr (by simp)) ?_;simp only[zP,Nat.reduceEqDiff,reduceIte];refine g8 [0,3,5,38,39,40,86,87] (α:=Nat) (fun j=>[(88,I j)]) (fun j=>[some (.map false [.i .i64] (setT (lm k) (pl.take j))),some (.els 1 [[.mp 0]])]) (fun j=>j≤pl.length) (fun j=>pl.length-j) 0 ?_ ?_ ?_
       ·exact Nat.zero_le _
       ·exact m8 (j7 (by simp[setT])) (by simp)
       rintro j j1;simp only[zP,Nat.reduceEqDiff,reduceIte];refine gS fun K hK=>?_;simp -dsimp;apply hK;clear hK K;refine b9 fun K5 hK5=>?_;refine d8 rfl (fun hc3=>?_) (fun hc3=>?_)
       ·have hjl:j<pl.length:=by simpa using hc3
        obtain⟨y,hy⟩:∃y,pl[j]?=some y:=⟨_,List.getElem?_eq_getElem hjl⟩;have hst:=a6K (bs:=lm k) hy;have wj:=zW j (by omega);refine e9 ?_;simp only[zT,reduceIte,Nat.reduceEqDiff];refine hK5 _ _ ?_;refine b7 [0,3,5,38,39,40,86,87,88] (Or.inr (by simp)) ?_;simp only[zP,Nat.reduceEqDiff,reduceIte];refine b9 fun K6 hK6=>?_;refine d7 ?_;refine gS fun K hK=>?_;simp -dsimp [hy];apply hK;clear hK K;refine gR fun K hK=>?_;simp -dsimp;apply hK;clear hK K;simp only[zT,reduceIte,Nat.reduceEqDiff];refine hK6 _ _ ?_;refine b7 [0,3,5,38,39,40,86,87,88] (Or.inr (by simp)) ?_;simp only[zP,Nat.reduceEqDiff,reduceIte];refine gR fun K hK=>?_;simp -dsimp [wj];apply hK;clear hK K;simp only[zT,reduceIte,Nat.reduceEqDiff];exact⟨j+1,by omega,by omega,m8 (e8 [some 0,some 1] rfl (by simp) (by simp[hst])) (by simp)⟩
       ·have hje:j=pl.length:=by have hn:¬j<pl.length:=(by simpa using hc3);omega
        have htk:pl.take pl.length=pl:=List.take_of_length_le (by omega);refine i6 ?_;simp only[zT,reduceIte,Nat.reduceEqDiff];exact⟨trivial,rfl,by simp,by rw[hje,htk]⟩
      ·intro T' H' hR;obtain⟨hR,rfl⟩:=hR;refine⟨by simp[a4O],?_⟩;have hg:b1L [6,7] 9=[some 0,some 1,some 2,some 3,some 4,some 5,none,none,some 8]:=rfl;have e1:b1p [6,7] (.ptr 1 0 0)= .ptr 7 0 0:=rfl;have e2:∀a b c,b4L [6,7] (.map a b c)= .map a b c:=fun _ _ _=>rfl;have e3:b4L [6,7] (.els 1 [[.mp 0]])= .els 1 [[.mp 6]]:=rfl;have hr:List.range 9=[0,1,2,3,4,5,6,7,8]:=rfl;simp only[a4O,a8I,List.length_cons,List.length_nil,Nat.reduceAdd,Nat.zero_add,hg,hr,List.map_cons,List.map_nil,List.cons_append,List.nil_append,hR];simp only[zT,reduceIte,Nat.reduceEqDiff];refine hK4 _ _ ?_;refine b7 [0,3,5,38,39,40] (Or.inr (by simp)) ?_;simp only[zP,Nat.reduceEqDiff,reduceIte];refine gR fun K hK=>?_;simp -dsimp [wk];apply hK;clear hK K;simp only[zT,reduceIte,Nat.reduceEqDiff];have hcd:(bAt sv k&&(decide (0<(ldA l k).Units)&&decide ((vf kA).Num<LD)))=true:=by simpa [and_assoc]using hc2
       rw[if_pos hcd]at hlk;exact⟨k+1,by omega,by omega,m8 (e8 [some 0,some 1,some 2,some 3,some 4,some 5,some 6,some 7] rfl (by simp[e1]) (by simp[hlk,e2,e3])) (by simp)⟩
     ·refine e9 ?_;simp only[zT,reduceIte,Nat.reduceEqDiff];refine hK4 _ _ ?_;refine b7 [0,3,5,38,39,40] (Or.inr (by simp)) ?_;simp only[zP,Nat.reduceEqDiff,reduceIte];refine gR fun K hK=>?_;simp -dsimp [wk];apply hK;clear hK K;simp only[zT,reduceIte,Nat.reduceEqDiff];have hcd:¬(bAt sv k&&(decide (0<(ldA l k).Units)&&decide ((vf kA).Num<LD)))=true:=by intro h;simp at h;simp[h.1,h.2.1,h.2.2]at hc2
      rw[if_neg hcd]at hlk;exact⟨k+1,by omega,by omega,m8 (e8 [some 0,some 1,some 2,some 3,some 4,some 5,some 6,some 7] rfl (by simp) (by simp[hlk])) (by simp)⟩
    ·have hke:k=l.length:=by have hn:¬k<l.length:=(by simpa using hc1);omega
     subst hke;refine i6 ?_;simp only[zT,reduceIte,Nat.reduceEqDiff];refine hK2 _ _ ?_;refine b7 [0,3,5] (Or.inr (by simp)) ?_;simp only[zP,Nat.reduceEqDiff,reduceIte];refine gS fun K hK=>?_;simp -dsimp;refine d6 _ (hle) (by simp) ?_;simp -dsimp;apply hK;clear hK K;refine b9 fun K7 hK7=>?_;refine gS fun K hK=>?_;simp -dsimp;apply hK;clear hK K;refine d8 rfl (fun hc4=>?_) (fun hc4=>?_)
     ·obtain⟨i,rfl⟩:∃i:Nat,out=i:=⟨out.toNat,by have:0≤out:=(by simpa using hc4);omega⟩;have gl:=t6 (l:=l) (k:=i) (by omega);have hya:=hld _ (List.mem_of_getElem? gl);obtain⟨e1,e2,e3⟩:=ht i rfl;obtain⟨kA,hkA⟩:∃kA:Nat,(ldA l i).At=kA:=⟨(ldA l i).At.toNat,by omega⟩;have gv:=hgv kA (by omega);rw[hkA,Int.toNat_natCast]at e3;subst e1 e2 e3;refine p9 l6 rfl (by decide) rfl rfl fun K hK=>?_;simp -dsimp [gl,hkA,gv];refine k8 [0,1] [2,3,4] [some 0,some 1,none,none,none,none,none,none,some 2,some 3,some 4] ((b3b x g fe wi l sv VS FS cuts 3 i (vf kA) (by omega) hc).keep (Hk:=[_]) (Hk':=[_]) 0 0 0 (x:=x) (i:=0) (o:=0) rfl rfl rfl rfl rfl rfl) (by decide) rfl (by simp) (by simp) rfl (by simp) ?_;simp -dsimp [gl,hkA,gv];refine hK _ _ _ (by decide+kernel) ?_;clear hK K;simp only[zT,reduceIte,Nat.reduceEqDiff];refine hK7 _ _ ?_;refine b7 [0,10] (Or.inr (by simp)) ?_;simp only[zP,Nat.reduceEqDiff,reduceIte];refine gS fun K hK=>?_;simp -dsimp;apply hK;clear hK K;exact k7 ⟨[some 0,some 1,some 8,some 9,some 10],rfl,by simp,by simp,by simp,by simp[y8,n5]⟩
     ·obtain⟨e1,e2,e3⟩:=hf (by have:¬0≤out:=(by simpa using hc4);omega);subst e1 e2 e3;refine e9 ?_;simp only[zT,reduceIte,Nat.reduceEqDiff];refine hK7 _ _ ?_;refine b7 [0,10] (Or.inr (by simp)) ?_;simp only[zP,Nat.reduceEqDiff,reduceIte];refine gS fun K hK=>?_;simp -dsimp;apply hK;clear hK K;exact k7 ⟨[some 0,some 1,some 2,some 3,some 4],rfl,by simp,by simp,by simp,by simp at hc4;simp[y8,n5];omega⟩
theorem c1g (x:Value) (g:Gr) (fe wi:List Bool) (l:List Ld) (sv:List Bool) (vs fs:List Fr) (cuts:List Cu) (hl:l.length≤1000) (hs:sv.length=l.length) (hc:cuts.length≤1000)
  (hld:∀y∈l,0≤y.At∧y.At<g.Nodes) (hnt:o8 g ⟨[],wi⟩) (h12:V4 g ⟨[],wi⟩) (vf:Nat→Fr) (hv:∀p∈l8 g ⟨[],wi⟩,∃v d,a4y g ⟨[],wi⟩ (tkK l sv) p v d vf)
  (hvd:∀k,k<g.Nodes.toNat→0<(vf k).Den∧(vf k).Den≤100000000000000) (r:Bool) (sv2:List Bool) (cuts2:List Cu)
  (ht:∀i:Nat,leL l sv (Y2 (M0 g ⟨[],wi⟩ vf l sv l.length)) l.length=i→r=true∧sv2=sv.set i false∧cuts2=cuts++[(⟨3,i,vf (ldA l i).At.toNat⟩:Cu)])
  (hf:leL l sv (Y2 (M0 g ⟨[],wi⟩ vf l sv l.length)) l.length<0→r=false∧sv2=sv∧cuts2=cuts):
  g6 Try.prog 79 [.ptr 0 0 0] [hSb (.fptr x 1 0 0) l sv.length vs fs cuts.length,hNb g fe wi] [some (.els 1 (sv.map i8)),some (.els 4 (cuts.map Cu.cells))]
   (Bo r) [hSb (.fptr x 1 0 0) l sv2.length (vlA g.Nodes.toNat vf) (flA g ⟨[],wi⟩ vf) cuts2.length,hNb g fe wi] [some (.els 1 (sv2.map i8)),some (.els 4 (cuts2.map Cu.cells))]:=by
 refine g6.keep (Hk:=[_]) (Hk':=[_]) 0 0 0 (x:=x) (i:=0) (o:=0) ?_ rfl rfl rfl rfl rfl rfl;have hbd:=r7 hnt.gr;have hsol:=a2N g ⟨[],wi⟩ (tkK l sv) hnt h12 vf hv;have hvN:(vlA g.Nodes.toNat vf).length=g.Nodes.toNat:=by simp[vlA]
 have hfN:(flA g ⟨[],wi⟩ vf).length=g.Feeds.length:=by simp[flA]
 have htv:List.take g.Nodes.toNat ((vlA g.Nodes.toNat vf).map Fr.cells)=(vlA g.Nodes.toNat vf).map Fr.cells:=List.take_of_length_le (by simp;omega);have htf:List.take g.Feeds.length ((flA g ⟨[],wi⟩ vf).map Fr.cells)=(flA g ⟨[],wi⟩ vf).map Fr.cells:=List.take_of_length_le (by simp;omega);have hlb:=O4 l sv (Y2 (M0 g ⟨[],wi⟩ vf l sv l.length)) l.length;have hle:=a5k (net g ⟨[],wi⟩) l sv (fL (vlA g.Nodes.toNat vf)) (fL (flA g ⟨[],wi⟩ vf)) (cL cuts) 98 [[.mpc false [.i .i64] (M0 g ⟨[],wi⟩ vf l sv l.length)]] (Y2 (M0 g ⟨[],wi⟩ vf l sv l.length)) hl hs
  (fun y hy=>b7p (M0 g ⟨[],wi⟩ vf l sv l.length) (a1W _ _ _ _ _ _) y)
 have hgv:=fun k (hk:k<g.Nodes.toNat)=>a4W (vf:=vf) hk;obtain⟨VS,hVS⟩:∃VS,VS=vlA g.Nodes.toNat vf:=⟨_,rfl⟩;obtain⟨FS,hFS⟩:∃FS,FS=flA g ⟨[],wi⟩ vf:=⟨_,rfl⟩;obtain⟨lm,hlm⟩:∃lm:Nat→Kvs,lm=M0 g ⟨[],wi⟩ vf l sv:=⟨_,rfl⟩;have hls:=fun n=>L5 g ⟨[],wi⟩ vf l sv n;have hl0:lm 0=[]:=by rw[hlm];rfl
 rw[←hVS]at hsol hvN htv hle hgv ⊢;rw[←hFS]at hsol hfN htf hle ⊢;rw[←hlm]at hle hlb ht hf hls;clear hVS hFS hlm;generalize leL l sv (Y2 (lm l.length)) l.length=out at ht hf hlb hle;refine g6.of_bodyG [0] Try.func79 rfl (by decide) (by simp[Try.ntmps79]) rfl rfl ?_;intro J hJ;simp only[Try.ntmps79,Try.results79];refine gS fun K hK=>?_;simp -dsimp;apply hK;clear hK K;refine Z8 [3,4] [0] [(0,stg g ⟨[],wi⟩ l sv (fL vs) (fL fs) (cL cuts))] (⟨.inr (by simp),trivial⟩) (by decide) (fun T' H'=>Go.AM.m6 T' 3= .ptr 5 0 0∧Go.AM.m6 T' 4=Bo true∧H'=[some (.map false [.i .i64] (tkK l sv)),some (.els 2 (VS.map Fr.cells)),some (.els 2 (FS.map Fr.cells)),some (.els 2 [[.row 1 0 g.Nodes.toNat, .row 2 0 g.Feeds.length]]),some (.els 1 [[Bo true]]),some (.els 2 [[.row 1 0 g.Nodes.toNat, .row 2 0 g.Feeds.length]])]) ?_ ?_
 ·intro J1 hJ1;refine p9 l6 rfl (by decide) rfl rfl fun K hK=>?_;simp -dsimp;refine D6 [] [] [some 0] (a5a l sv hl hs) (by decide) rfl (by simp) (by simp) rfl (by simp) (by simp) (by simp) ?_;simp -dsimp;refine D6 [] [] [none,some 0,some 1,some 2,some 3] (hsol) (by decide) rfl (by simp) (by simp) rfl (by simp) (by simp) (by simp) ?_;simp -dsimp;refine hK _ _ _ (by decide+kernel) ?_;clear hK K;exact⟨rfl,rfl,by simp⟩
 ·intro T' H' hR;obtain⟨hR,hR4,rfl⟩:=hR;refine⟨by simp,?_⟩;simp only[List.map_cons,List.map_nil,List.cons_append,List.nil_append,List.length_cons,List.length_nil,Nat.reduceAdd,Nat.zero_add,Option.map_some,b6G,a3A,Go.AM.m6,Nat.reduceEqDiff,reduceIte,hR,hR4,c1l];refine b9 fun K1 hK1=>?_;refine gS fun K hK=>?_;simp -dsimp;apply hK;clear hK K;refine d8 rfl (fun hc0=>?_) (fun hc0=>?_)
  ·simp at hc0
  ·refine e9 ?_;simp only[zT,reduceIte,Nat.reduceEqDiff];refine hK1 _ _ ?_;refine b7 [0,3] (Or.inr (by simp)) ?_;simp only[zP,Nat.reduceEqDiff,reduceIte];refine gS fun K hK=>?_;simp -dsimp;apply hK;clear hK K;refine o9 (m8 (B5 (T':=[(0, .ptr 0 0 0),(3, .ptr 4 0 0)]) (H':=[hSb (.fptr x 1 0 0) l sv.length VS FS cuts.length,hNb g fe wi,some (.els 1 (sv.map i8)),some (.els 4 (cuts.map Cu.cells)),some (.els 2 [[fL VS,fL FS]])]) [some 0,some 1,some 2,some 3,some 9] rfl ⟨.inr (by simp), .inr (by simp),trivial⟩ (by simp[htv,htf];omega)) (by simp)) ?_
   ·refine gS fun K hK=>?_;simp -dsimp;apply hK;clear hK K;refine b9 fun K2 hK2=>?_;refine gS fun K hK=>?_;simp -dsimp;apply hK;clear hK K;refine d7 ?_;refine b7 [0,3,5,38,39,40] (Or.inr (by simp)) ?_;simp only[zP,Nat.reduceEqDiff,reduceIte];refine g8 [0,3,5,38,39] (α:=Nat) (fun k=>[(40,I k)]) (fun k=>[hSb (.fptr x 1 0 0) l sv.length VS FS cuts.length,hNb g fe wi,some (.els 1 (sv.map i8)),some (.els 4 (cuts.map Cu.cells)),some (.els 2 [[fL VS,fL FS]]),some (.map false [.i .i64] (lm k)),some (.els 1 [[.mp 5]])]) (fun k=>k≤l.length) (fun k=>l.length-k) 0 ?_ ?_ ?_
    ·exact Nat.zero_le _
    ·rw[hl0];exact m8 (j7 (by simp)) (by simp)
    rintro k k1;simp only[zP,Nat.reduceEqDiff,reduceIte];refine gS fun K hK=>?_;simp -dsimp;apply hK;clear hK K;refine b9 fun K3 hK3=>?_;refine d8 rfl (fun hc1=>?_) (fun hc1=>?_)
    ·have hkl:k<l.length:=by simpa using hc1
     have wk:=zW k (by omega);have gl:=t6 (l:=l) (k:=k) hkl;have gb:=s7 (l:=sv) (k:=k) (by omega);have hne:¬sv=[]:=by intro e;rw[e]at hs;simp at hs;omega
     have hks:k<sv.length:=by omega
     have hbe:sv[k]=bAt sv k:=Option.some.inj (by rw[←List.getElem?_eq_getElem hks];exact gb);have hya:=hld _ (List.mem_of_getElem? gl);have hlk:=hls k;unfold b7P a2y at hlk;have hcp:=a6X g ⟨[],wi⟩ l sv (fL VS) (fL FS) (cL cuts) hnt h12 (ldA l k).At hya.1 hya.2;have hpl:=r9 (s6 g ⟨[],wi⟩ (ldA l k).At.toNat);have hpo:=L8 g ⟨[],wi⟩ (ldA l k).At.toNat;generalize upN (s6 g ⟨[],wi⟩ (ldA l k).At.toNat)=pl at hlk hcp hpl;obtain⟨kA,hkA⟩:∃kA:Nat,(ldA l k).At=kA:=⟨(ldA l k).At.toNat,by omega⟩;have hkN:kA<g.Nodes.toNat:=by omega
     have gv:=hgv kA hkN;have hd:=hvd kA hkN;rw[hkA,Int.toNat_natCast]at hlk;rw[hkA]at hcp;have hLd:0≤g.Least*(vf kA).Den∧g.Least*(vf kA).Den≤1000000000000000000:=⟨Int.mul_nonneg (by omega) (by omega),Int.le_trans (Int.mul_le_mul hbd.2.2.2.2.2 hd.2 (by omega) (by omega)) (by omega)⟩;have w1:IntKind.i64.wrap (g.Least*(vf kA).Den)=g.Least*(vf kA).Den:=i7 (by omega) (by omega);obtain⟨LD,hLD⟩:∃LD,g.Least*(vf kA).Den=LD:=⟨_,rfl⟩;rw[hLD]at w1 hlk;refine e9 ?_;simp only[zT,reduceIte,Nat.reduceEqDiff];refine hK3 _ _ ?_;refine b7 [0,3,5,38,39,40] (Or.inr (by simp)) ?_;simp only[zP,Nat.reduceEqDiff,reduceIte];refine b9 fun K4 hK4=>?_;refine d7 ?_;refine gS fun K hK=>?_;simp -dsimp [gl];apply hK;clear hK K;refine s4 l6 rfl (by decide) rfl rfl fun K hK=>?_;simp -dsimp [gb,hne,hkA,hLD,w1,hks,hbe];refine j8 ((vf kA).cells) (fun _=>by simp[gv]) ?_;simp -dsimp [gb,hne,hkA,hLD,w1,hks,hbe];refine j8 ((vf kA).cells) (fun _=>by simp[gv]) ?_;simp -dsimp [gb,hne,hkA,hLD,w1,hks,hbe];refine hK _ _ _ (by decide+kernel) ?_;clear hK K;refine d8 rfl (fun hc2=>?_) (fun hc2=>?_)
     ·refine a6n [5,6] [5] [0,3,38,39,40] [(0,stg g ⟨[],wi⟩ l sv (fL VS) (fL FS) (cL cuts)),(5, .ptr 1 0 0),(7, .iptr (ldA l k).cells)] [some (.map false [.i .i64] (lm k)),some (.els 1 [[.mp 0]])] (by simp) (by decide) (⟨.inr (by simp), .inr (by simp), .inr (by simp[hkA]),trivial⟩) (by simp) (by decide) (fun T' H'=>Go.AM.m6 T' 5= .ptr 1 0 0∧H'=[some (.map false [.i .i64] (setT (lm k) pl)),some (.els 1 [[.mp 0]])]) ?_ ?_
      ·intro J1 hJ1;refine gR fun K hK=>?_;simp -dsimp [hkA];refine d6 _ (hcp) (by simp) ?_;simp -dsimp [hkA];apply hK;clear hK K;refine⟨rfl,?_⟩;refine d7 ?_;refine b7 [0,3,5,38,39,40,86,87,88] (Or.inr (by simp)) ?_;simp only[zP,Nat.reduceEqDiff,reduceIte];refine g8 [0,3,5,38,39,40,86,87] (α:=Nat) (fun j=>[(88,I j)]) (fun j=>[some (.map false [.i .i64] (setT (lm k) (pl.take j))),some (.els 1 [[.mp 0]])]) (fun j=>j≤pl.length) (fun j=>pl.length-j) 0 ?_ ?_ ?_
       ·exact Nat.zero_le _
       ·exact m8 (j7 (by simp[setT])) (by simp)
       rintro j j1;simp only[zP,Nat.reduceEqDiff,reduceIte];refine gS fun K hK=>?_;simp -dsimp;apply hK;clear hK K;refine b9 fun K5 hK5=>?_;refine d8 rfl (fun hc3=>?_) (fun hc3=>?_)
       ·have hjl:j<pl.length:=by simpa using hc3
        obtain⟨y,hy⟩:∃y,pl[j]?=some y:=⟨_,List.getElem?_eq_getElem hjl⟩;have hst:=a6K (bs:=lm k) hy;have wj:=zW j (by omega);refine e9 ?_;simp only[zT,reduceIte,Nat.reduceEqDiff];refine hK5 _ _ ?_;refine b7 [0,3,5,38,39,40,86,87,88] (Or.inr (by simp)) ?_;simp only[zP,Nat.reduceEqDiff,reduceIte];refine b9 fun K6 hK6=>?_;refine d7 ?_;refine gS fun K hK=>?_;simp -dsimp [hy];apply hK;clear hK K;refine gR fun K hK=>?_;simp -dsimp;apply hK;clear hK K;simp only[zT,reduceIte,Nat.reduceEqDiff];refine hK6 _ _ ?_;refine b7 [0,3,5,38,39,40,86,87,88] (Or.inr (by simp)) ?_;simp only[zP,Nat.reduceEqDiff,reduceIte];refine gR fun K hK=>?_;simp -dsimp [wj];apply hK;clear hK K;simp only[zT,reduceIte,Nat.reduceEqDiff];exact⟨j+1,by omega,by omega,m8 (e8 [some 0,some 1] rfl (by simp) (by simp[hst])) (by simp)⟩
       ·have hje:j=pl.length:=by have hn:¬j<pl.length:=(by simpa using hc3);omega
        have htk:pl.take pl.length=pl:=List.take_of_length_le (by omega);refine i6 ?_;simp only[zT,reduceIte,Nat.reduceEqDiff];exact⟨trivial,rfl,by simp,by rw[hje,htk]⟩
      ·intro T' H' hR;obtain⟨hR,rfl⟩:=hR;refine⟨by simp[a4O],?_⟩;have hg:b1L [5,6] 8=[some 0,some 1,some 2,some 3,some 4,none,none,some 7]:=rfl;have e1:b1p [5,6] (.ptr 1 0 0)= .ptr 6 0 0:=rfl;have e2:∀a b c,b4L [5,6] (.map a b c)= .map a b c:=fun _ _ _=>rfl;have e3:b4L [5,6] (.els 1 [[.mp 0]])= .els 1 [[.mp 5]]:=rfl;have hr:List.range 8=[0,1,2,3,4,5,6,7]:=rfl;simp only[a4O,a8I,List.length_cons,List.length_nil,Nat.reduceAdd,Nat.zero_add,hg,hr,List.map_cons,List.map_nil,List.cons_append,List.nil_append,hR];simp only[zT,reduceIte,Nat.reduceEqDiff];refine hK4 _ _ ?_;refine b7 [0,3,5,38,39,40] (Or.inr (by simp)) ?_;simp only[zP,Nat.reduceEqDiff,reduceIte];refine gR fun K hK=>?_;simp -dsimp [wk];apply hK;clear hK K;simp only[zT,reduceIte,Nat.reduceEqDiff];have hcd:(bAt sv k&&(decide (0<(ldA l k).Units)&&decide ((vf kA).Num<LD)))=true:=by simpa [and_assoc]using hc2
       rw[if_pos hcd]at hlk;exact⟨k+1,by omega,by omega,m8 (e8 [some 0,some 1,some 2,some 3,some 4,some 5,some 6] rfl (by simp[e1]) (by simp[hlk,e2,e3])) (by simp)⟩
     ·refine e9 ?_;simp only[zT,reduceIte,Nat.reduceEqDiff];refine hK4 _ _ ?_;refine b7 [0,3,5,38,39,40] (Or.inr (by simp)) ?_;simp only[zP,Nat.reduceEqDiff,reduceIte];refine gR fun K hK=>?_;simp -dsimp [wk];apply hK;clear hK K;simp only[zT,reduceIte,Nat.reduceEqDiff];have hcd:¬(bAt sv k&&(decide (0<(ldA l k).Units)&&decide ((vf kA).Num<LD)))=true:=by intro h;simp at h;simp[h.1,h.2.1,h.2.2]at hc2
      rw[if_neg hcd]at hlk;exact⟨k+1,by omega,by omega,m8 (e8 [some 0,some 1,some 2,some 3,some 4,some 5,some 6] rfl (by simp) (by simp[hlk])) (by simp)⟩
    ·have hke:k=l.length:=by have hn:¬k<l.length:=(by simpa using hc1);omega
     subst hke;refine i6 ?_;simp only[zT,reduceIte,Nat.reduceEqDiff];refine hK2 _ _ ?_;refine b7 [0,3,5] (Or.inr (by simp)) ?_;simp only[zP,Nat.reduceEqDiff,reduceIte];refine gS fun K hK=>?_;simp -dsimp;refine d6 _ (hle) (by simp) ?_;simp -dsimp;apply hK;clear hK K;refine b9 fun K7 hK7=>?_;refine gS fun K hK=>?_;simp -dsimp;apply hK;clear hK K;refine d8 rfl (fun hc4=>?_) (fun hc4=>?_)
     ·obtain⟨i,rfl⟩:∃i:Nat,out=i:=⟨out.toNat,by have:0≤out:=(by simpa using hc4);omega⟩;have gl:=t6 (l:=l) (k:=i) (by omega);have hya:=hld _ (List.mem_of_getElem? gl);obtain⟨e1,e2,e3⟩:=ht i rfl;obtain⟨kA,hkA⟩:∃kA:Nat,(ldA l i).At=kA:=⟨(ldA l i).At.toNat,by omega⟩;have gv:=hgv kA (by omega);rw[hkA,Int.toNat_natCast]at e3;subst e1 e2 e3;refine p9 l6 rfl (by decide) rfl rfl fun K hK=>?_;simp -dsimp [gl,hkA,gv];refine k8 [0,1] [2,3] [some 0,some 1,none,none,none,none,none,some 2,some 3] ((b2O x g fe wi l sv VS FS cuts 3 i (vf kA) (by omega) hc).keep (Hk:=[_]) (Hk':=[_]) 0 0 0 (x:=x) (i:=0) (o:=0) rfl rfl rfl rfl rfl rfl) (by decide) rfl (by simp) (by simp) rfl (by simp) ?_;simp -dsimp [gl,hkA,gv];refine hK _ _ _ (by decide+kernel) ?_;clear hK K;simp only[zT,reduceIte,Nat.reduceEqDiff];refine hK7 _ _ ?_;refine b7 [0,10] (Or.inr (by simp)) ?_;simp only[zP,Nat.reduceEqDiff,reduceIte];refine gS fun K hK=>?_;simp -dsimp;apply hK;clear hK K;exact k7 ⟨[some 0,some 1,some 7,some 8],rfl,by simp,by simp,by simp,by simp[y8,n5]⟩
     ·obtain⟨e1,e2,e3⟩:=hf (by have:¬0≤out:=(by simpa using hc4);omega);subst e1 e2 e3;refine e9 ?_;simp only[zT,reduceIte,Nat.reduceEqDiff];refine hK7 _ _ ?_;refine b7 [0,10] (Or.inr (by simp)) ?_;simp only[zP,Nat.reduceEqDiff,reduceIte];refine gS fun K hK=>?_;simp -dsimp;apply hK;clear hK K;exact k7 ⟨[some 0,some 1,some 2,some 3],rfl,by simp,by simp,by simp,by simp at hc4;simp[y8,n5];omega⟩
end Go.Cur
end
section
namespace Go.Cur
open Go.AM Go.Proofs
structure SS where
 sv:List Bool
 fe:List Bool
 cuts:List Cu
 deriving DecidableEq
section
variable (g:Gr) (wi:List Bool) (l:List Ld)
def vfZ (z:SS):Nat→Fr:=vfS g ⟨z.fe,wi⟩ (tkK l z.sv)
def x9 (z:SS):Option SS:=((List.range l.length).find? (B8 g ⟨z.fe,wi⟩ l z.sv)).map fun(i:Nat)=>⟨z.sv.set i false,z.fe,z.cuts++[(⟨1,i,⟨0,1⟩⟩:Cu)]⟩
def b0U (z:SS):Int:=leL l z.sv (O8 g ⟨z.fe,wi⟩ (tkK l z.sv)) l.length
def H9 (z:SS):Option SS:=if 0≤b0U g wi l z then some ⟨z.sv.set (b0U g wi l z).toNat false,z.fe,z.cuts++[(⟨2,(b0U g wi l z).toNat,⟨(ldA l (b0U g wi l z).toNat).Units,1⟩⟩:Cu)]⟩else none
def b2f (z:SS):Int:=leL l z.sv (Y2 (M0 g ⟨z.fe,wi⟩ (vfZ g wi l z) l z.sv l.length)) l.length
def M2 (z:SS):Option SS:=if 0≤b2f g wi l z then some ⟨z.sv.set (b2f g wi l z).toNat false,z.fe,z.cuts++[(⟨3,(b2f g wi l z).toNat,vfZ g wi l z (ldA l (b2f g wi l z).toNat).At.toNat⟩:Cu)]⟩else none
def U9 (z:SS):Int:=(trL g (flA g ⟨z.fe,wi⟩ (vfZ g wi l z)) g.Feeds.length).1
def B7 (z:SS):Option SS:=if 0≤U9 g wi l z then some ⟨z.sv,z.fe.set (U9 g wi l z).toNat false,z.cuts++[(⟨4,(U9 g wi l z).toNat,frA (flA g ⟨z.fe,wi⟩ (vfZ g wi l z)) (U9 g wi l z).toNat⟩:Cu)]⟩else none
def A3 (z:SS):Option SS:=(x9 g wi l z).orElse fun _=>(H9 g wi l z).orElse fun _=>(M2 g wi l z).orElse fun _=>B7 g wi l z
def F0:Nat→SS→SS
 |0,z=>z
 |n+1,z=>match A3 g wi l z with
  |some z'=>F0 n z'
  |none=>z
end
def b6T:List Bool→Nat
 |[]=>0
 |b::l=>(if b=true then 1 else 0)+b6T l
def a4s (z:SS):Nat:=b6T z.sv+b6T z.fe
theorem a8d:∀{l:List Bool} {i:Nat},bAt l i=true→b6T (l.set i false)+1=b6T l
 |[],i,h=>by simp[bAt]at h
 |b::l,0,h=>by
  have:b=true:=by simpa [bAt]using h
  subst this;simp[b6T];omega
 |b::l,i+1,h=>by
  have:=a8d (l:=l) (i:=i) (by simpa [bAt]using h);simp only[List.set_cons_succ,b6T];omega
theorem a7J:∀l:List Bool,b6T l≤l.length
 |[]=>Nat.le_refl _
 |b::l=>by
  have:=a7J l;simp only[b6T,List.length_cons];split<;>omega
theorem a1O {l:List Ld} {sv:List Bool} {q:Ld→Bool}:∀{n:Nat},leL l sv q n<0→∀i,i<n→bAt sv i=true→q (ldA l i)=false
 |0,_,i,hi,_=>by omega
 | n+1,h,i,hi,hb=>by
  rw[N1]at h;have hbd:=O4 l sv q n;unfold leS at h
  split at h
  ·omega
  ·rename_i hc
   rcases Nat.lt_succ_iff_lt_or_eq.1 hi with h1|rfl
   ·exact a1O h i h1 hb
   ·cases hq:q (ldA l i)with
    |false=>rfl
    |true=>exact absurd ⟨hb,hq,Or.inl h⟩ hc
theorem a1Z {l:List Ld} {sv:List Bool} {q:Ld→Bool}:∀{n:Nat},0≤leL l sv q n→bAt sv (leL l sv q n).toNat=true∧q (ldA l (leL l sv q n).toNat)=true
 |0,h=>by simp[leL]at h
 |n+1,h=>by
  rw[N1]at h ⊢;unfold leS at h ⊢
  split at h
  ·rename_i hc;rw[if_pos hc,Int.toNat_natCast];exact⟨hc.1,hc.2.1⟩
  ·rename_i hc;rw[if_neg hc];exact a1Z h
theorem Y7 {g:Gr} {fs:List Fr}:∀{n:Nat},0≤(trL g fs n).1→(trL g fs n).1<n∧0<(ovr g fs (trL g fs n).1.toNat).Num
 |0,h=>by simp[trL]at h
 |n+1,h=>by
  rw[W9]at h ⊢;unfold trS at h ⊢
  split at h
  ·rename_i hc;rw[if_pos hc];simp only[Int.toNat_natCast];exact⟨by omega,hc.1⟩
  ·rename_i hc;rw[if_neg hc];have:=Y7 h;exact⟨by omega,this.2⟩
structure y2 (g:Gr) (wi:List Bool) (l:List Ld):Prop where
 gr:grB g=true
 sw:wi.length=g.Wires.length
 ld:c2d g l
 ll:l.length≤900
 p5:∀p∈l8 g ⟨[],wi⟩,p.length≤5
structure ZOk (g:Gr) (wi:List Bool) (l:List Ld) (z:SS):Prop where
 sv:z.sv.length=l.length
 fe:z.fe.length=g.Feeds.length
 cu:z.cuts.length+a4s z≤950
section
variable {g:Gr} {wi:List Bool} {l:List Ld} {z:SS}
theorem y2.net (h:y2 g wi l) (hz:ZOk g wi l z):o8 g ⟨z.fe,wi⟩:=⟨h.gr,hz.fe,h.sw⟩
theorem y2.p5' (h:y2 g wi l) (fe:List Bool):∀p∈l8 g ⟨fe,wi⟩,p.length≤5:=h.p5
theorem y2.few (h:y2 g wi l) (fe:List Bool):V4 g ⟨fe,wi⟩:=fun p hp=>by have:=h.p5' fe p hp;omega
theorem y2.siz (h:y2 g wi l) (fe:List Bool) (us:Kvs):∀p∈l8 g ⟨fe,wi⟩,Siz us p:=fun p hp=>Or.inl (h.p5' fe p hp)
theorem a9E {us:Kvs}:∀{p:List Nat},B3 us p<0→∃k∈p,igt us k<0
 |[],h=>by simp[B3,sm]at h
 | k::p,h=>by
  by_cases hk:igt us k<0
  ·exact⟨k,by simp,hk⟩
  ·have:B3 us p<0:=by unfold B3 at h ⊢;rw[sm]at h;omega
   obtain⟨j,hj,h⟩:=a9E this;exact⟨j,by simp[hj],h⟩
theorem okZ (h:y2 g wi l) (hz:ZOk g wi l z) (h1:x9 g wi l z=none) (h2:H9 g wi l z=none):okS g ⟨z.fe,wi⟩ (tkK l z.sv)=true:=by
 have hd:∀i,i<l.length→B8 g ⟨z.fe,wi⟩ l z.sv i=false:=by
  unfold x9 at h1;rw[Option.map_eq_none_iff,List.find?_eq_none]at h1;intro i hi;have:=h1 i (List.mem_range.2 hi);simpa using this
 have hr:b0U g wi l z<0:=by
  unfold H9 at h2
  split at h2
  ·cases h2
  ·omega
 have hr2:=a1O hr;have load:∀p∈l8 g ⟨z.fe,wi⟩,∀k∈p,igt (tkK l z.sv) (k:Nat)≠0→∃i,i<l.length∧bAt z.sv i=true∧(ldA l i).At=(k:Int)∧igt (tkK l z.sv) (k:Nat)=(ldA l i).Units∧p=s6 g ⟨z.fe,wi⟩ (ldA l i).At.toNat:=by
  intro p hp k hk hne
  rcases b7r l z.sv (k:Nat)with e|⟨i,y,hi,hs,hy,e⟩
  ·exact absurd e hne
  ·have hil:=(List.getElem?_eq_some_iff.1 hi).1;have hla:ldA l i=y:=by have:=t6 hil;rw[hi]at this;exact(Option.some.inj this).symm
   refine⟨i,hil,by unfold bAt;rw[hs];rfl,by rw[hla];exact hy,by rw[hla];exact e,?_⟩;rw[hla,hy,Int.toNat_natCast];exact G1 hp hk
 unfold okS;rw[List.all_eq_true];intro p hp;unfold H8
 by_cases hf:n8 g ⟨z.fe,wi⟩ (upN p)=[]
 ·rw[if_pos hf];show T6 (tkK l z.sv) p=true;unfold T6;rw[List.all_eq_true];intro k hk;rw[beq_iff_eq];refine Decidable.byContradiction fun hne=>?_;obtain⟨i,hil,hb,hat,hu,hpe⟩:=load p hp k hk hne;have:=hd i hil;unfold B8 at this;rw[hb,←hpe,hf,←hu]at this;simp[hne]at this
 ·rw[if_neg hf]
  by_cases hs:B3 (tkK l z.sv) p<0
  ·exfalso;obtain⟨k,hk,hneg⟩:=a9E hs;obtain⟨i,hil,hb,hat,hu,hpe⟩:=load p hp k hk (by omega);have:=hr2 i hil hb;unfold O8 at this;rw[←hpe,←hu]at this;simp[hneg,hs]at this
  ·rw[if_neg hs]
   split<;>rfl
theorem vpZ (h:y2 g wi l) (hz:ZOk g wi l z) (h1:x9 g wi l z=none) (h2:H9 g wi l z=none):∀p∈l8 g ⟨z.fe,wi⟩,∃v d,a4y g ⟨z.fe,wi⟩ (tkK l z.sv) p v d (vfZ g wi l z):=by
 have ho:=okZ h hz h1 h2;unfold okS at ho;rw[List.all_eq_true]at ho;exact fun p hp=>⟨_,_,c1X (h.net hz) hp (h.siz _ _ p hp) (a4E _ _) (b0X h.ld _) (ho p hp)⟩
theorem b9b {s:Sta} {us:Kvs} {vf:Nat→Fr} (hnt:o8 g s) (hv:∀p∈l8 g s,∃v d,a4y g s us p v d vf) {k:Nat} (hk:k<g.Nodes.toNat):0<(vf k).Den∧(vf k).Den≤100000000000000∧(vf k).Num.natAbs≤300000000000000000:=by
 obtain⟨p,hp,hkp⟩:=List.mem_flatten.1 (G0 hnt hk);obtain⟨v,d,hV⟩:=hv p hp;obtain⟨j,hj⟩:=List.getElem?_of_mem hkp;have hjl:=(List.getElem?_eq_some_iff.1 hj).1;have hd0:=hV.d0;have hd1:=hV.d1;have hr:=a6g (n:=at0 v (j:Nat)) hd0;have hgv:=B9 (l:=v) (k:=j) (by rw[hV.len];exact hjl);have hnb:=hV.nb _ (List.mem_of_getElem? hgv);rw[hV.fr j k hj];omega
theorem b8o {s:Sta} {us:Kvs} {vf:Nat→Fr} (hnt:o8 g s) (hv:∀p∈l8 g s,∃v d,a4y g s us p v d vf) {i:Nat} (hi:i<g.Feeds.length):
  0≤(ffF g s vf i).Num∧(ffF g s vf i).Num≤4000000000000000000∧1≤(ffF g s vf i).Den∧(ffF g s vf i).Den≤100000000000000∧(0<(ffF g s vf i).Num→bAt s.Feeds i=true):=by
 have hg:g.Feeds[i]?=some (fdI g (i:Int)):=by have:=M7 (g:=g) (i:=(i:Int)) (by omega) (by omega);rwa [Int.toNat_natCast]at this
 have hb:=hnt.feeds _ (List.mem_of_getElem? hg);have hvb:=b9b hnt hv (k:=(fdI g (i:Int)).At.toNat) (by omega);unfold ffF;simp only;generalize vf (fdI g (i:Int)).At.toNat=v at hvb ⊢;have h1:0≤(fdI g (i:Int)).Volts*v.Den∧(fdI g (i:Int)).Volts*v.Den≤100000000000000000:=⟨Int.mul_nonneg (by omega) (by omega),Int.le_trans (Int.mul_le_mul hb.2.2.2.1 hvb.2.1 (by omega) (by omega)) (by omega)⟩
 split
 ·rename_i hc;have hd1:(fdI g (i:Int)).Volts*v.Den-v.Num≤400000000000000000:=by omega
  generalize (fdI g (i:Int)).Volts*v.Den-v.Num=d at*
  have hr:=a6g (n:=(fdI g (i:Int)).Siem*d) hvb.1;have h2:0≤(fdI g (i:Int)).Siem*d∧(fdI g (i:Int)).Siem*d≤4000000000000000000:=by
   have hc2:=hc.2
   rcases(by omega:(fdI g (i:Int)).Siem=1∨(fdI g (i:Int)).Siem=2∨(fdI g (i:Int)).Siem=3∨(fdI g (i:Int)).Siem=4)with h|h|h|h<;>rw[h]<;>omega
  have h3:0≤(red ((fdI g (i:Int)).Siem*d) v.Den).Num:=by
   unfold red;exact Int.ediv_nonneg h2.1 (by omega)
  exact⟨h3,by omega,by omega,by omega,fun _=>hc.1⟩
 ·exact⟨by decide,by decide,by decide,by decide,fun h=>absurd h (by decide)⟩
theorem b7R {s:Sta} {vf:Nat→Fr} {i:Nat} (hi:i<g.Feeds.length):frA (flA g s vf) i=ffF g s vf i:=by
 unfold frA flA;rw[List.getElem?_map,List.getElem?_range hi];rfl
theorem c1S {s:Sta} {us:Kvs} {vf:Nat→Fr} (hnt:o8 g s) (hv:∀p∈l8 g s,∃v d,a4y g s us p v d vf):c1E g (flA g s vf):=by
 have key:∀y∈flA g s vf,∃i,i<g.Feeds.length∧y=ffF g s vf i:=fun y hy=>by
  obtain⟨i,hi,rfl⟩:=List.mem_map.1 hy;exact⟨i,List.mem_range.1 hi,rfl⟩
 refine⟨by simp[flA],fun y hy=>?_,fun y hy=>?_,fun f hf=>?_⟩
 ·obtain⟨i,hi,rfl⟩:=key y hy;have:=b8o hnt hv hi;exact⟨this.1,this.2.1⟩
 ·obtain⟨i,hi,rfl⟩:=key y hy;have:=b8o hnt hv hi;exact⟨this.2.2.1,this.2.2.2.1⟩
 ·have:=hnt.feeds f hf;omega
theorem I9 (h:y2 g wi l) (hz:ZOk g wi l z) {z':SS} (hs:A3 g wi l z=some z'):ZOk g wi l z'∧a4s z'+1=a4s z∧z'.cuts.length=z.cuts.length+1:=by
 have svc:∀{i:Nat} {c:Cu},bAt z.sv i=true→ZOk g wi l ⟨z.sv.set i false,z.fe,z.cuts++[c]⟩∧a4s ⟨z.sv.set i false,z.fe,z.cuts++[c]⟩+1=a4s z∧(z.cuts++[c]).length=z.cuts.length+1:=by
  intro i c hb;have h1:=a8d hb;have h2:=hz.cu;refine⟨⟨by simp[hz.sv],hz.fe,?_⟩,?_,by simp⟩
  ·unfold a4s at h2 ⊢;simp only[List.length_append,List.length_singleton];omega
  ·unfold a4s;simp only;omega
 unfold A3 at hs
 cases h1:x9 g wi l z with
 |some a=>
  rw[h1]at hs;simp only[Option.orElse_some,Option.some.injEq]at hs;subst hs;unfold x9 at h1;rw[Option.map_eq_some_iff]at h1;obtain⟨i,hi,rfl⟩:=h1;have:=List.find?_some hi;refine svc ?_;unfold B8 at this;simp only[Bool.and_eq_true]at this;exact this.1
 | none=>
  rw[h1]at hs
  cases h2:H9 g wi l z with
  |some a=>
   rw[h2]at hs;simp only[Option.orElse_none,Option.orElse_some,Option.some.injEq]at hs;subst hs;unfold H9 at h2
   split at h2
   ·rename_i hi;simp only[Option.some.injEq]at h2;subst h2;exact svc (a1Z hi).1
   ·cases h2
  | none=>
   rw[h2]at hs;have hv:=vpZ h hz h1 h2
   cases h3:M2 g wi l z with
   |some a=>
    rw[h3]at hs;simp only[Option.orElse_none,Option.orElse_some,Option.some.injEq]at hs;subst hs;unfold M2 at h3
    split at h3
    ·rename_i hi;simp only[Option.some.injEq]at h3;subst h3;exact svc (a1Z hi).1
    ·cases h3
   | none=>
    rw[h3]at hs;simp only[Option.orElse_none]at hs;unfold B7 at hs
    split at hs
    ·rename_i hi;simp only[Option.some.injEq]at hs;subst hs;obtain⟨k1,k2⟩:=Y7 hi;change U9 g wi l z<_ at k1;change 0<(ovr g (flA g ⟨z.fe,wi⟩ (vfZ g wi l z)) (U9 g wi l z).toNat).Num at k2;generalize U9 g wi l z=i at hi k1 k2;have hfr:=b7R (g:=g) (s:=⟨z.fe,wi⟩) (vf:=vfZ g wi l z) (i:=i.toNat) (by omega);have hb:=b8o (h.net hz) hv (i:=i.toNat) (by omega);have hl:=(c1S (h.net hz) hv).prod (k:=i.toNat) (by omega);unfold ovr at k2;simp only at k2;rw[hfr]at k2 hl;have hb2:bAt z.fe i.toNat=true:=hb.2.2.2.2 (by omega);have h4:=a8d hb2;have h5:=hz.cu;refine⟨⟨hz.sv,by simp[hz.fe],?_⟩,?_,by simp⟩
     ·unfold a4s at h5 ⊢;simp only[List.length_append,List.length_singleton];omega
     ·unfold a4s;simp only;omega
    ·cases hs
theorem w7 {n:Nat} {z z':SS} (hs:A3 g wi l z=some z'):F0 g wi l (n+1) z=F0 g wi l n z':=by
 simp only[F0,hs]
theorem H7 {n:Nat} {z:SS} (hs:A3 g wi l z=none):F0 g wi l n z=z:=by
 cases n with
 |zero=>rfl
 |succ n=>simp only[F0,hs]
end
end Go.Cur
end
section
namespace Go
section
variable {P:Program} {b:Frame} {a:Act} {k:List Item} {cs:List Frame} {w:World}
theorem D5 {c:Code}:step P (lone (b.atR a (.code (.scope c)::k)) cs w)= .next (lone (b.atR a (.code c:: .inScope c::k)) cs w):=
 step_lone_go (by simp[stepG,stepG.exec,Frame.atR])
theorem a5Q {c:Code}:step P (lone (b.atR a (.inScope c::k)) cs w)= .next (lone (b.atR a k) cs w):=
 step_lone_go (by simp[stepG,stepG.exec,Frame.atR])
theorem V0 {F:Fence} {n:Nat} {Q:Exit→Act→World→Prop} {c:Code} (h:c.wpIn F n P (Exit.noGoto Q) a w):(Code.scope c).wpIn F n P Q a w:=by
 intro b k cs hro hb hr;have h0:(lone (b.atR a (.code (.scope c)::k)) cs w).fenced P F:=fenced_calm hb hr rfl;obtain⟨e,a₁,w₁,hq,harr⟩:=h b (.inScope c::k) cs hro hb hr
 cases e with
 |normal=>exact⟨.normal,a₁,w₁,hq, .head h0 D5 (StepsIn.trans harr (.one (fenced_calm hb hr rfl) a5Q))⟩
 | exit id'=>
  have hx:exitTo id' (.inScope c::k)=exitTo id' k:=by simp[exitTo]
  exact⟨.exit id',a₁,w₁,hq,fun k' hk=> .head h0 D5 (harr.1 k' (by rw[hx];exact hk)),
   fun hr' hk=>let ⟨k₁,h1,h2⟩:=harr.2 hr' (by rw[hx];exact hk);⟨k₁,h1, .head h0 D5 h2⟩⟩
 |goto l=>exact hq.elim
 |ret=>exact⟨_,a₁,w₁,hq, .of_steps (.one h0 D5) harr⟩
 |panic ch=>exact⟨_,a₁,w₁,hq, .of_steps (.one h0 D5) harr⟩
 |outgrown=>exact⟨_,a₁,w₁,hq, .of_steps (.one h0 D5) harr⟩
end
end Go
namespace Go.AM
theorem a6Q {P:Program} {ro:Option Nat} {J:Jt} {nt:Nat} {kp:List Nat} {c:Code} {T:Tm} {H:Hp} {Q:Exit→Tm→Hp→Prop} (h:GWp P ro J nt kp c T H (a3p Q)):GWp P ro J nt kp (.scope c) T H Q:=by
 intro hJ kv a w hs;refine V0 (wpIn_mono (h hJ kv a w hs) ?_);rintro e a' w' ⟨T',H',q,s⟩
 cases e with
 |goto l=>exact q.elim
 |normal=>exact⟨T',H',q,s⟩
 |exit id=>exact⟨T',H',q,s⟩
 |ret=>exact⟨T',H',q,s⟩
 |panic c=>exact⟨T',H',q,s⟩
 |outgrown=>exact⟨T',H',q,s⟩
theorem b7m {P:Program} {ro:Option Nat} {J:Jt} {nt l:Nat} {kp:List Nat} {c:Code} {T:Tm} {H:Hp} {Q:Exit→Tm→Hp→Prop} (h:GWp P ro J nt kp c T H Q):GWp P ro J nt kp (.seq (.label l) c) T H Q:=by
 intro hJ kv a w hs;exact wpIn_seq (wpIn_label (h hJ kv a w hs))
end Go.AM
namespace Go.Cur
open Go.AM Go.Proofs
theorem b9v (x:Value) (g:Gr) (wi:List Bool) (l:List Ld) (z:SS) (vs fs:List Fr) (h:y2 g wi l) (hz:ZOk g wi l z):
  g6 Try.prog 77 [.ptr 0 0 0] [hSa (.fptr x 1 0 0) l z.sv.length vs fs z.cuts.length,hNa g z.fe wi] [some (.els 1 (z.sv.map i8)),some (.els 1 (z.fe.map i8)),some (.els 4 (z.cuts.map Cu.cells))]
   (Bo (x9 g wi l z).isSome) [hSa (.fptr x 1 0 0) l ((x9 g wi l z).getD z).sv.length vs fs ((x9 g wi l z).getD z).cuts.length,hNa g ((x9 g wi l z).getD z).fe wi] [some (.els 1 (((x9 g wi l z).getD z).sv.map i8)),some (.els 1 (((x9 g wi l z).getD z).fe.map i8)),some (.els 4 (((x9 g wi l z).getD z).cuts.map Cu.cells))]:=by
 obtain⟨sv,fe,cuts⟩:=z;have hfe:((x9 g wi l ⟨sv,fe,cuts⟩).getD ⟨sv,fe,cuts⟩).fe=fe:=by
  unfold x9
  cases (List.range l.length).find? (B8 g ⟨fe,wi⟩ l sv)<;>rfl
 rw[hfe];have hcu:=hz.cu;simp only at hcu;exact b9U x g fe wi l sv vs fs cuts (by have:=h.ll;omega) hz.sv (by omega) h.ld.at_ (h.net hz) (h.few _) _ _ _
  (fun i hi hd hj=>by
   have e:(List.range l.length).find? (B8 g ⟨fe,wi⟩ l sv)=some i:=List.find?_range_eq_some.2 ⟨hd,List.mem_range.2 hi,fun j hj'=>by rw[hj j hj'];rfl⟩;unfold x9;simp only[e];exact⟨rfl,rfl,rfl⟩)
  (fun hj=>by
   have e:(List.range l.length).find? (B8 g ⟨fe,wi⟩ l sv)=none:=List.find?_eq_none.2 fun x hx=>by rw[hj x (List.mem_range.1 hx)];simp
   unfold x9;simp only[e];exact⟨rfl,rfl,rfl⟩)
theorem c0J (x:Value) (g:Gr) (wi:List Bool) (l:List Ld) (z:SS) (vs fs:List Fr) (h:y2 g wi l) (hz:ZOk g wi l z):
  g6 Try.prog 78 [.ptr 0 0 0] [hSa (.fptr x 1 0 0) l z.sv.length vs fs z.cuts.length,hNa g z.fe wi] [some (.els 1 (z.sv.map i8)),some (.els 1 (z.fe.map i8)),some (.els 4 (z.cuts.map Cu.cells))]
   (Bo (H9 g wi l z).isSome) [hSa (.fptr x 1 0 0) l ((H9 g wi l z).getD z).sv.length vs fs ((H9 g wi l z).getD z).cuts.length,hNa g ((H9 g wi l z).getD z).fe wi] [some (.els 1 (((H9 g wi l z).getD z).sv.map i8)),some (.els 1 (((H9 g wi l z).getD z).fe.map i8)),some (.els 4 (((H9 g wi l z).getD z).cuts.map Cu.cells))]:=by
 obtain⟨sv,fe,cuts⟩:=z;have hfe:((H9 g wi l ⟨sv,fe,cuts⟩).getD ⟨sv,fe,cuts⟩).fe=fe:=by
  unfold H9
  split<;>rfl
 rw [hfe];have hcu:=hz.cu;simp only at hcu;exact a8a x g fe wi l sv vs fs cuts (by have:=h.ll;omega) hz.sv (by omega) h.ld.at_ (h.net hz) (h.few _) (b0X h.ld _) _ _ _
  (fun i hi=>by
   have e:b0U g wi l ⟨sv,fe,cuts⟩=(i:Int):=hi;have e2:H9 g wi l ⟨sv,fe,cuts⟩=some ⟨sv.set i false,fe,cuts++[(⟨2,i,⟨(ldA l i).Units,1⟩⟩:Cu)]⟩:=by
    unfold H9;rw[e,if_pos (by omega),Int.toNat_natCast]
   rw[e2];exact⟨rfl,rfl,rfl⟩)
  (fun hi=>by
   have e:b0U g wi l ⟨sv,fe,cuts⟩<0:=hi;have e2:H9 g wi l ⟨sv,fe,cuts⟩=none:=by
    unfold H9;rw[if_neg (by omega)]
   rw[e2];exact⟨rfl,rfl,rfl⟩)
theorem c1w (x:Value) (g:Gr) (wi:List Bool) (l:List Ld) (z:SS) (vs fs:List Fr) (h:y2 g wi l) (hz:ZOk g wi l z) (h1:x9 g wi l z=none) (h2:H9 g wi l z=none):
  g6 Try.prog 79 [.ptr 0 0 0] [hSa (.fptr x 1 0 0) l z.sv.length vs fs z.cuts.length,hNa g z.fe wi] [some (.els 1 (z.sv.map i8)),some (.els 1 (z.fe.map i8)),some (.els 4 (z.cuts.map Cu.cells))]
   (Bo (M2 g wi l z).isSome) [hSa (.fptr x 1 0 0) l ((M2 g wi l z).getD z).sv.length (vlA g.Nodes.toNat (vfZ g wi l z)) (flA g ⟨z.fe,wi⟩ (vfZ g wi l z)) ((M2 g wi l z).getD z).cuts.length,hNa g ((M2 g wi l z).getD z).fe wi] [some (.els 1 (((M2 g wi l z).getD z).sv.map i8)),some (.els 1 (((M2 g wi l z).getD z).fe.map i8)),some (.els 4 (((M2 g wi l z).getD z).cuts.map Cu.cells))]:=by
 obtain⟨sv,fe,cuts⟩:=z;have hfe:((M2 g wi l ⟨sv,fe,cuts⟩).getD ⟨sv,fe,cuts⟩).fe=fe:=by
  unfold M2
  split<;>rfl
 rw [hfe];have hcu:=hz.cu;simp only at hcu;have hv:=vpZ h hz h1 h2;exact c0Z x g fe wi l sv vs fs cuts (by have:=h.ll;omega) hz.sv (by omega) h.ld.at_ (h.net hz) (h.few _) (vfZ g wi l ⟨sv,fe,cuts⟩) hv (fun k hk=>by have:=b9b (h.net hz) hv hk;omega) _ _ _
  (fun i hi=>by
   have e:b2f g wi l ⟨sv,fe,cuts⟩=(i:Int):=hi;have e2:M2 g wi l ⟨sv,fe,cuts⟩=some ⟨sv.set i false,fe,cuts++[(⟨3,i,vfZ g wi l ⟨sv,fe,cuts⟩ (ldA l i).At.toNat⟩:Cu)]⟩:=by
    unfold M2;rw[e,if_pos (by omega),Int.toNat_natCast]
   rw[e2];exact⟨rfl,rfl,rfl⟩)
  (fun hi=>by
   have e:b2f g wi l ⟨sv,fe,cuts⟩<0:=hi;have e2:M2 g wi l ⟨sv,fe,cuts⟩=none:=by
    unfold M2;rw[if_neg (by omega)]
   rw[e2];exact⟨rfl,rfl,rfl⟩)
theorem b8A (x:Value) (g:Gr) (wi:List Bool) (l:List Ld) (z:SS) (vs fs:List Fr) (h:y2 g wi l) (hz:ZOk g wi l z) (hb:z.fe=[]):
  g6 Try.prog 77 [.ptr 0 0 0] [hSb (.fptr x 1 0 0) l z.sv.length vs fs z.cuts.length,hNb g z.fe wi] [some (.els 1 (z.sv.map i8)),some (.els 4 (z.cuts.map Cu.cells))]
   (Bo (x9 g wi l z).isSome) [hSb (.fptr x 1 0 0) l ((x9 g wi l z).getD z).sv.length vs fs ((x9 g wi l z).getD z).cuts.length,hNb g ((x9 g wi l z).getD z).fe wi] [some (.els 1 (((x9 g wi l z).getD z).sv.map i8)),some (.els 4 (((x9 g wi l z).getD z).cuts.map Cu.cells))]:=by
 obtain⟨sv,fe,cuts⟩:=z;subst hb;have hfe:((x9 g wi l ⟨sv,[],cuts⟩).getD ⟨sv,[],cuts⟩).fe=[]:=by
  unfold x9
  cases (List.range l.length).find? (B8 g ⟨[],wi⟩ l sv)<;>rfl
 rw[hfe];have hcu:=hz.cu;simp only at hcu;exact b8p x g [] wi l sv vs fs cuts (by have:=h.ll;omega) hz.sv (by omega) h.ld.at_ (h.net hz) (h.few _) _ _ _
  (fun i hi hd hj=>by
   have e:(List.range l.length).find? (B8 g ⟨[],wi⟩ l sv)=some i:=List.find?_range_eq_some.2 ⟨hd,List.mem_range.2 hi,fun j hj'=>by rw[hj j hj'];rfl⟩;unfold x9;simp only[e];exact⟨rfl,rfl,rfl⟩)
  (fun hj=>by
   have e:(List.range l.length).find? (B8 g ⟨[],wi⟩ l sv)=none:=List.find?_eq_none.2 fun x hx=>by rw[hj x (List.mem_range.1 hx)];simp
   unfold x9;simp only[e];exact⟨rfl,rfl,rfl⟩)
theorem c1b (x:Value) (g:Gr) (wi:List Bool) (l:List Ld) (z:SS) (vs fs:List Fr) (h:y2 g wi l) (hz:ZOk g wi l z) (hb:z.fe=[]):
  g6 Try.prog 78 [.ptr 0 0 0] [hSb (.fptr x 1 0 0) l z.sv.length vs fs z.cuts.length,hNb g z.fe wi] [some (.els 1 (z.sv.map i8)),some (.els 4 (z.cuts.map Cu.cells))]
   (Bo (H9 g wi l z).isSome) [hSb (.fptr x 1 0 0) l ((H9 g wi l z).getD z).sv.length vs fs ((H9 g wi l z).getD z).cuts.length,hNb g ((H9 g wi l z).getD z).fe wi] [some (.els 1 (((H9 g wi l z).getD z).sv.map i8)),some (.els 4 (((H9 g wi l z).getD z).cuts.map Cu.cells))]:=by
 obtain⟨sv,fe,cuts⟩:=z;subst hb;have hfe:((H9 g wi l ⟨sv,[],cuts⟩).getD ⟨sv,[],cuts⟩).fe=[]:=by
  unfold H9
  split<;>rfl
 rw [hfe];have hcu:=hz.cu;simp only at hcu;exact a8E x g [] wi l sv vs fs cuts (by have:=h.ll;omega) hz.sv (by omega) h.ld.at_ (h.net hz) (h.few _) (b0X h.ld _) _ _ _
  (fun i hi=>by
   have e:b0U g wi l ⟨sv,[],cuts⟩=(i:Int):=hi;have e2:H9 g wi l ⟨sv,[],cuts⟩=some ⟨sv.set i false,[],cuts++[(⟨2,i,⟨(ldA l i).Units,1⟩⟩:Cu)]⟩:=by
    unfold H9;rw[e,if_pos (by omega),Int.toNat_natCast]
   rw[e2];exact⟨rfl,rfl,rfl⟩)
  (fun hi=>by
   have e:b0U g wi l ⟨sv,[],cuts⟩<0:=hi;have e2:H9 g wi l ⟨sv,[],cuts⟩=none:=by
    unfold H9;rw[if_neg (by omega)]
   rw[e2];exact⟨rfl,rfl,rfl⟩)
theorem c1W (x:Value) (g:Gr) (wi:List Bool) (l:List Ld) (z:SS) (vs fs:List Fr) (h:y2 g wi l) (hz:ZOk g wi l z) (hb:z.fe=[]) (h1:x9 g wi l z=none) (h2:H9 g wi l z=none):
  g6 Try.prog 79 [.ptr 0 0 0] [hSb (.fptr x 1 0 0) l z.sv.length vs fs z.cuts.length,hNb g z.fe wi] [some (.els 1 (z.sv.map i8)),some (.els 4 (z.cuts.map Cu.cells))]
   (Bo (M2 g wi l z).isSome) [hSb (.fptr x 1 0 0) l ((M2 g wi l z).getD z).sv.length (vlA g.Nodes.toNat (vfZ g wi l z)) (flA g ⟨z.fe,wi⟩ (vfZ g wi l z)) ((M2 g wi l z).getD z).cuts.length,hNb g ((M2 g wi l z).getD z).fe wi] [some (.els 1 (((M2 g wi l z).getD z).sv.map i8)),some (.els 4 (((M2 g wi l z).getD z).cuts.map Cu.cells))]:=by
 obtain⟨sv,fe,cuts⟩:=z;subst hb;have hfe:((M2 g wi l ⟨sv,[],cuts⟩).getD ⟨sv,[],cuts⟩).fe=[]:=by
  unfold M2
  split<;>rfl
 rw [hfe];have hcu:=hz.cu;simp only at hcu;have hv:=vpZ h hz h1 h2;exact c1g x g [] wi l sv vs fs cuts (by have:=h.ll;omega) hz.sv (by omega) h.ld.at_ (h.net hz) (h.few _) (vfZ g wi l ⟨sv,[],cuts⟩) hv (fun k hk=>by have:=b9b (h.net hz) hv hk;omega) _ _ _
  (fun i hi=>by
   have e:b2f g wi l ⟨sv,[],cuts⟩=(i:Int):=hi;have e2:M2 g wi l ⟨sv,[],cuts⟩=some ⟨sv.set i false,[],cuts++[(⟨3,i,vfZ g wi l ⟨sv,[],cuts⟩ (ldA l i).At.toNat⟩:Cu)]⟩:=by
    unfold M2;rw[e,if_pos (by omega),Int.toNat_natCast]
   rw[e2];exact⟨rfl,rfl,rfl⟩)
  (fun hi=>by
   have e:b2f g wi l ⟨sv,[],cuts⟩<0:=hi;have e2:M2 g wi l ⟨sv,[],cuts⟩=none:=by
    unfold M2;rw[if_neg (by omega)]
   rw[e2];exact⟨rfl,rfl,rfl⟩)
theorem b8F (x:Value) (g:Gr) (wi:List Bool) (l:List Ld) (z:SS) (h:y2 g wi l) (hz:ZOk g wi l z) (h1:x9 g wi l z=none) (h2:H9 g wi l z=none):
  g6 Try.prog 80 [.ptr 0 0 0] [hSa (.fptr x 1 0 0) l z.sv.length (vlA g.Nodes.toNat (vfZ g wi l z)) (flA g ⟨z.fe,wi⟩ (vfZ g wi l z)) z.cuts.length,hNa g z.fe wi] [some (.els 1 (z.sv.map i8)),some (.els 1 (z.fe.map i8)),some (.els 4 (z.cuts.map Cu.cells))]
   (Bo (B7 g wi l z).isSome) [hSa (.fptr x 1 0 0) l ((B7 g wi l z).getD z).sv.length (vlA g.Nodes.toNat (vfZ g wi l z)) (flA g ⟨z.fe,wi⟩ (vfZ g wi l z)) ((B7 g wi l z).getD z).cuts.length,hNa g ((B7 g wi l z).getD z).fe wi] [some (.els 1 (((B7 g wi l z).getD z).sv.map i8)),some (.els 1 (((B7 g wi l z).getD z).fe.map i8)),some (.els 4 (((B7 g wi l z).getD z).cuts.map Cu.cells))]:=by
 obtain⟨sv,fe,cuts⟩:=z;have hsv:((B7 g wi l ⟨sv,fe,cuts⟩).getD ⟨sv,fe,cuts⟩).sv=sv:=by
  unfold B7
  split<;>rfl
 rw [hsv];have hcu:=hz.cu;simp only at hcu;have hv:=vpZ h hz h1 h2;exact b8P x g fe wi l sv _ _ cuts (by omega) (by have:=(r7 h.gr).2.2.2.1;omega) hz.fe (c1S (h.net hz) hv) _ _ _
  (fun i hi=>by
   have e:U9 g wi l ⟨sv,fe,cuts⟩=(i:Int):=hi;have e2:B7 g wi l ⟨sv,fe,cuts⟩=some ⟨sv,fe.set i false,cuts++[(⟨4,i,frA (flA g ⟨fe,wi⟩ (vfZ g wi l ⟨sv,fe,cuts⟩)) i⟩:Cu)]⟩:=by
    unfold B7;rw[e,if_pos (by omega),Int.toNat_natCast]
   rw[e2];exact⟨rfl,rfl,rfl⟩)
  (fun hi=>by
   have e:U9 g wi l ⟨sv,fe,cuts⟩<0:=hi;have e2:B7 g wi l ⟨sv,fe,cuts⟩=none:=by
    unfold B7;rw[if_neg (by omega)]
   rw[e2];exact⟨rfl,rfl,rfl⟩)
theorem b8H (x:Value) (g:Gr) (wi:List Bool) (l:List Ld) (z:SS) (h:y2 g wi l) (hz:ZOk g wi l z) (hb:z.fe=[]):
  g6 Try.prog 80 [.ptr 0 0 0] [hSb (.fptr x 1 0 0) l z.sv.length (vlA g.Nodes.toNat (vfZ g wi l z)) (flA g ⟨z.fe,wi⟩ (vfZ g wi l z)) z.cuts.length,hNb g z.fe wi] [some (.els 1 (z.sv.map i8)),some (.els 4 (z.cuts.map Cu.cells))]
   (Bo (B7 g wi l z).isSome) [hSb (.fptr x 1 0 0) l ((B7 g wi l z).getD z).sv.length (vlA g.Nodes.toNat (vfZ g wi l z)) (flA g ⟨z.fe,wi⟩ (vfZ g wi l z)) ((B7 g wi l z).getD z).cuts.length,hNb g ((B7 g wi l z).getD z).fe wi] [some (.els 1 (((B7 g wi l z).getD z).sv.map i8)),some (.els 4 (((B7 g wi l z).getD z).cuts.map Cu.cells))]:=by
 have hg:g.Feeds=[]:=by
  have:=hz.fe;rw[hb]at this;exact List.length_eq_zero_iff.1 this.symm
 have e:B7 g wi l z=none:=by
  unfold B7 U9;rw[hg]
  rfl
 rw[e];exact b9h x g z.fe wi l z.sv _ _ z.cuts hg
def svK (n k:Nat):List Bool:=List.replicate k true++List.replicate (n-k) false
theorem a4D {n k:Nat} (h:k<n):(svK n k).set k true=svK n (k+1):=by
 unfold svK;rw[List.set_append_right _ _ (by simp),List.length_replicate,Nat.sub_self,show n-k=(n-(k+1))+1 by omega,List.replicate_succ,List.set_cons_zero,List.replicate_succ',List.append_assoc];rfl
theorem a5g {n k:Nat} (h:k≤n):(svK n k).length=n:=by simp[svK];omega
theorem a4Z (n:Nat):svK n n=List.replicate n true:=by simp[svK]
theorem a1y (n:Nat):svK n 0=List.replicate n false:=by simp[svK]
def z0 (l:List Ld) (fe:List Bool):SS:=⟨List.replicate l.length true,fe,[]⟩
theorem b3r {g:Gr} {wi:List Bool} {l:List Ld} (h:y2 g wi l) {fe:List Bool} (hfe:fe.length=g.Feeds.length):ZOk g wi l (z0 l fe):=by
 refine⟨by simp[z0],hfe,?_⟩;have h1:=a7J (List.replicate l.length true);have h2:=a7J fe;have h3:=(r7 h.gr).2.2.2.1;have h4:=h.ll;rw[List.length_replicate]at h1;unfold a4s z0;simp only[List.length_nil];omega
def t5 (g:Gr) (wi:List Bool) (l:List Ld) (fe:List Bool):SS:=F0 g wi l (a4s (z0 l fe)) (z0 l fe)
abbrev hMa (g:Gr) (fe wi:List Bool):Option m5:=some (.els 6 [[I g.Nodes, .lst 4 (g.Wires.map Wr.cells), .lst 4 (g.Feeds.map Fd.cells),I g.Least, .row 1 0 fe.length,bL wi]])
abbrev hTa (x:AV) (l:List Ld) (z:SS) (vs fs:List Fr):Option m5:=some (.els 6 [[x,lL l, .row 2 0 z.sv.length,fL vs,fL fs, .row 4 0 z.cuts.length]])
theorem a3b (g:Gr) (wi:List Bool) (l:List Ld) (fe:List Bool) (h:y2 g wi l) (hfl:fe.length=g.Feeds.length) (Z:SS) (hZ:t5 g wi l fe=Z):
  g6 Try.prog 55 [.ptr 0 0 0,lL l] [hMa g fe wi] [some (.els 1 (fe.map i8))] (.ptr 3 0 0) [hMa g Z.fe wi]
   [some (.els 1 (Z.fe.map i8)),some (.els 1 (Z.sv.map i8)),hTa (.ptr 0 0 0) l Z (vlA g.Nodes.toNat (vfZ g wi l Z)) (flA g ⟨Z.fe,wi⟩ (vfZ g wi l Z)),some (.els 4 (Z.cuts.map Cu.cells))]:=by
 have hll:=h.ll;have f0:C7 l.length 2:=k9 (by omega) (by omega);have hz0:=b3r h hfl;refine g6.of_bodyG [0] Try.func55 rfl (by decide) (by simp[Try.ntmps55]) rfl rfl ?_;intro J hJ;simp only[Try.ntmps55,Try.results55];refine gS fun K hK=>?_;simp -dsimp;apply hK;clear hK K;refine a6Q ?_;refine gS fun K hK=>?_;simp -dsimp [f0];apply hK;clear hK K;refine b9 fun K1 hK1=>?_;refine gS fun K hK=>?_;simp -dsimp;apply hK;clear hK K;refine d7 ?_;refine b7 [0,5,21,22] (Or.inr (by simp)) ?_;simp only[zP,Nat.reduceEqDiff,reduceIte];refine g8 [0,5,21] (α:=Nat) (fun k=>[(22,I k)]) (fun k=>[hMa g fe wi,some (.els 1 (fe.map i8)),some (.els 1 ((svK l.length k).map i8)),some (.els 6 [[.ptr 0 0 0,lL l, .row 2 0 l.length, .v (.slice none 0 0), .v (.slice none 0 0), .v (.slice none 0 0)]])]) (fun k=>k≤l.length) (fun k=>l.length-k) 0 ?_ ?_ ?_
 ·exact Nat.zero_le _
 ·exact m8 (e8 [some 0,some 1,some 2,some 3] rfl (by simp) (by simp[a1y,i8])) (by simp)
 rintro k k1;simp only[zP,Nat.reduceEqDiff,reduceIte];refine gS fun K hK=>?_;simp -dsimp;apply hK;clear hK K;refine b9 fun K2 hK2=>?_;refine d8 rfl (fun hc0=>?_) (fun hc0=>?_)
 ·have hkl:k<l.length:=by simpa using hc0
  have wk:=zW k (by omega);have hsl:=a5g (n:=l.length) (k:=k) k1;have hst:=a4D hkl;refine e9 ?_;simp only[zT,reduceIte,Nat.reduceEqDiff];refine hK2 _ _ ?_;refine b7 [0,5,21,22] (Or.inr (by simp)) ?_;simp only[zP,Nat.reduceEqDiff,reduceIte];refine b9 fun K3 hK3=>?_;refine d7 ?_;refine gS fun K hK=>?_;simp -dsimp;apply hK;clear hK K;refine gR fun K hK=>?_;simp -dsimp [hkl,hsl];apply hK;clear hK K;simp only[zT,reduceIte,Nat.reduceEqDiff];refine hK3 _ _ ?_;refine b7 [0,5,21,22] (Or.inr (by simp)) ?_;simp only[zP,Nat.reduceEqDiff,reduceIte];refine gR fun K hK=>?_;simp -dsimp [wk];apply hK;clear hK K;simp only[zT,reduceIte,Nat.reduceEqDiff];exact⟨k+1,by omega,by omega,m8 (e8 [some 0,some 1,some 2,some 3] rfl (by simp) (by simp[←hst,List.map_set,i8])) (by simp)⟩
 ·have hke:k=l.length:=by have hn:¬k<l.length:=(by simpa using hc0);omega
  subst hke;refine i6 ?_;simp only[zT,reduceIte,Nat.reduceEqDiff];refine hK1 _ _ ?_;refine b7 [0,5] (Or.inr (by simp)) ?_;simp only[zP,Nat.reduceEqDiff,reduceIte];rw[a4Z];refine o9 (m8 (((M9 3 0 3 2 (sz0:=6) rfl rfl rfl).trans (M9 3 0 4 2 (sz0:=6) rfl rfl rfl)).trans (M9 3 0 5 4 (sz0:=6) rfl rfl rfl)) (by simp)) ?_;refine o9 (m8 (B5 (T':=[(0, .ptr 0 0 0),(5, .ptr 3 0 0)]) (H':=[hMa g (z0 l fe).fe wi,some (.els 1 ((z0 l fe).fe.map i8)),some (.els 1 ((z0 l fe).sv.map i8)),hTa (.ptr 0 0 0) l (z0 l fe) [] [],some (.els 4 ((z0 l fe).cuts.map Cu.cells))]) [some 0,some 1,some 2,some 3,some 6] rfl ⟨.inr (by simp), .inr (by simp),trivial⟩ (by simp[z0])) (by simp)) ?_;refine b1M 3 0 rfl rfl fun x=>?_;simp only[B2,List.set_cons_zero]
  ·refine S9 (by decide) ?_;refine gS fun K hK=>?_;simp -dsimp;apply hK;clear hK K;refine b7m ?_;refine d7 ?_;refine b7 [0,5,7] (Or.inr (by simp)) ?_;simp only[zP,Nat.reduceEqDiff,reduceIte];refine g8 [0,5,7] (α:=SS×List Fr×List Fr) (fun a=>[]) (fun a=>[hMa g a.1.fe wi,some (.els 1 (a.1.fe.map i8)),some (.els 1 (a.1.sv.map i8)),hTa (.fptr x 0 0 0) l a.1 a.2.1 a.2.2,some (.els 4 (a.1.cuts.map Cu.cells)),some (.els 1 [[.bnd 77 [.ptr 3 0 0]],[.bnd 78 [.ptr 3 0 0]],[.bnd 79 [.ptr 3 0 0]],[.bnd 80 [.ptr 3 0 0]]])]) (fun a=>ZOk g wi l a.1∧F0 g wi l (a4s a.1) a.1=Z) (fun a=>a4s a.1) (z0 l fe,[],[]) ?_ ?_ ?_
   ·exact⟨hz0,hZ⟩
   ·exact m8 (j7 (by simp)) (by simp)
   rintro⟨z,vs,fs⟩ ⟨hz,hN⟩;simp only at hz hN ⊢;obtain⟨vK,hvK⟩:∃vK:Nat→List Fr,vK=fun k=>if k≤2 then vs else vlA g.Nodes.toNat (vfZ g wi l z):=⟨_,rfl⟩;obtain⟨fK,hfK⟩:∃fK:Nat→List Fr,fK=fun k=>if k≤2 then fs else flA g ⟨z.fe,wi⟩ (vfZ g wi l z):=⟨_,rfl⟩;have v0:vK 0=vs:=by rw[hvK];rfl
   have v1:vK 1=vs:=by rw[hvK];rfl
   have v2:vK 2=vs:=by rw[hvK];rfl
   have v3:vK 3=vlA g.Nodes.toNat (vfZ g wi l z):=by rw[hvK];rfl
   have v4:vK 4=vlA g.Nodes.toNat (vfZ g wi l z):=by rw[hvK];rfl
   have g0:fK 0=fs:=by rw[hfK];rfl
   have g1:fK 1=fs:=by rw[hfK];rfl
   have g2:fK 2=fs:=by rw[hfK];rfl
   have g3:fK 3=flA g ⟨z.fe,wi⟩ (vfZ g wi l z):=by rw[hfK];rfl
   have g4:fK 4=flA g ⟨z.fe,wi⟩ (vfZ g wi l z):=by rw[hfK];rfl
   simp only[zP,Nat.reduceEqDiff,reduceIte];refine d7 ?_;refine b9 fun K4 hK4=>?_;refine gS fun K hK=>?_;simp -dsimp;apply hK;clear hK K;refine d7 ?_;refine b7 [0,5,7,41,42,43] (Or.inr (by simp)) ?_;simp only[zP,Nat.reduceEqDiff,reduceIte];refine g8 [0,5,7,41,42] (α:=Nat) (fun k=>[(43,I k)]) (fun k=>[hMa g z.fe wi,some (.els 1 (z.fe.map i8)),some (.els 1 (z.sv.map i8)),hTa (.fptr x 0 0 0) l z (vK k) (fK k),some (.els 4 (z.cuts.map Cu.cells)),some (.els 1 [[.bnd 77 [.ptr 3 0 0]],[.bnd 78 [.ptr 3 0 0]],[.bnd 79 [.ptr 3 0 0]],[.bnd 80 [.ptr 3 0 0]]])]) (fun k=>k≤4∧(1≤k→x9 g wi l z=none)∧(2≤k→H9 g wi l z=none)∧(3≤k→M2 g wi l z=none)∧(4≤k→B7 g wi l z=none)) (fun k=>4-k) 0 ?_ ?_ ?_
   ·exact⟨by omega,fun h=>by omega,fun h=>by omega,fun h=>by omega,fun h=>by omega⟩
   ·exact m8 (e8 [some 0,some 1,some 2,some 3,some 4,some 5] rfl (by simp) (by simp[v0,g0])) (by simp)
   rintro k ⟨k1,k2,k3,k4,k5⟩
   rcases(by omega:k=0∨k=1∨k=2∨k=3∨k=4)with rfl|rfl|rfl|rfl|rfl
   ·simp only[zP,Nat.reduceEqDiff,reduceIte];refine gS fun K hK=>?_;simp -dsimp;apply hK;clear hK K;refine b9 fun K5 hK5=>?_;refine d8 rfl (fun hc1=>?_) (fun hc1=>?_)
    ·rw[v0,g0];refine e9 ?_;simp only[zT,reduceIte,Nat.reduceEqDiff];refine hK5 _ _ ?_;refine b7 [0,5,7,41,42,43] (Or.inr (by simp)) ?_;simp only[zP,Nat.reduceEqDiff,reduceIte];refine b9 fun K6 hK6=>?_;refine d7 ?_;refine gS fun K hK=>?_;simp -dsimp;apply hK;clear hK K;refine gS fun K hK=>?_;simp -dsimp;refine k8 [3,0] [2,1,4] [some 1,none,none,some 0,none,none,some 2,some 3,some 4] (b9v x g wi l z vs fs h hz) (by decide) rfl (by simp) (by simp) rfl (by simp) ?_;simp -dsimp;apply hK;clear hK K;refine d8 rfl (fun hc2=>?_) (fun hc2=>?_)
     ·obtain⟨z1,hz1⟩:=Option.isSome_iff_exists.1 hc2;have hst:A3 g wi l z=some z1:=by unfold A3;rw[hz1];rfl
      rw[hz1];simp only[Option.getD_some];refine i6 ?_;simp only[zT,reduceIte,Nat.reduceEqDiff];obtain⟨s1,s2,s3⟩:=I9 h hz hst;exact⟨(z1,vs,fs),⟨s1,by rw[←hN,←s2,w7 hst]⟩,by simp only;omega,m8 (e8 [some 0,some 7,some 6,some 3,some 8,some 5] rfl (by simp) (by simp)) (by simp)⟩
     ·have hn:x9 g wi l z=none:=by simpa using hc2
      rw[hn];simp only[Option.getD_none];refine e9 ?_;simp only[zT,reduceIte,Nat.reduceEqDiff];refine hK6 _ _ ?_;refine b7 [0,5,7,41,42,43] (Or.inr (by simp)) ?_;simp only[zP,Nat.reduceEqDiff,reduceIte];refine gR fun K hK=>?_;simp -dsimp;apply hK;clear hK K;simp only[zT,reduceIte,Nat.reduceEqDiff];have wk:IntKind.i64.wrap 1=1:=by decide
      exact⟨1,⟨by omega,fun _=>hn,fun h=>by omega,fun h=>by omega,fun h=>by omega⟩,by omega,m8 (e8 [some 0,some 7,some 6,some 3,some 8,some 5] rfl (by simp[wk]) (by simp[v1,g1])) (by simp)⟩
    ·simp at hc1
   ·simp only[zP,Nat.reduceEqDiff,reduceIte];refine gS fun K hK=>?_;simp -dsimp;apply hK;clear hK K;refine b9 fun K7 hK7=>?_;refine d8 rfl (fun hc1=>?_) (fun hc1=>?_)
    ·rw[v1,g1];refine e9 ?_;simp only[zT,reduceIte,Nat.reduceEqDiff];refine hK7 _ _ ?_;refine b7 [0,5,7,41,42,43] (Or.inr (by simp)) ?_;simp only[zP,Nat.reduceEqDiff,reduceIte];refine b9 fun K8 hK8=>?_;refine d7 ?_;refine gS fun K hK=>?_;simp -dsimp;apply hK;clear hK K;refine gS fun K hK=>?_;simp -dsimp;refine k8 [3,0] [2,1,4] [some 1,none,none,some 0,none,none,some 2,some 3,some 4] (c0J x g wi l z vs fs h hz) (by decide) rfl (by simp) (by simp) rfl (by simp) ?_;simp -dsimp;apply hK;clear hK K;refine d8 rfl (fun hc2=>?_) (fun hc2=>?_)
     ·obtain⟨z1,hz1⟩:=Option.isSome_iff_exists.1 hc2;have hst:A3 g wi l z=some z1:=by unfold A3;rw[k2 (by omega),hz1];rfl
      rw[hz1];simp only[Option.getD_some];refine i6 ?_;simp only[zT,reduceIte,Nat.reduceEqDiff];obtain⟨s1,s2,s3⟩:=I9 h hz hst;exact⟨(z1,vs,fs),⟨s1,by rw[←hN,←s2,w7 hst]⟩,by simp only;omega,m8 (e8 [some 0,some 7,some 6,some 3,some 8,some 5] rfl (by simp) (by simp)) (by simp)⟩
     ·have hn:H9 g wi l z=none:=by simpa using hc2
      rw[hn];simp only[Option.getD_none];refine e9 ?_;simp only[zT,reduceIte,Nat.reduceEqDiff];refine hK8 _ _ ?_;refine b7 [0,5,7,41,42,43] (Or.inr (by simp)) ?_;simp only[zP,Nat.reduceEqDiff,reduceIte];refine gR fun K hK=>?_;simp -dsimp;apply hK;clear hK K;simp only[zT,reduceIte,Nat.reduceEqDiff];have wk:IntKind.i64.wrap 2=2:=by decide
      exact⟨2,⟨by omega,fun _=>k2 (by omega),fun _=>hn,fun h=>by omega,fun h=>by omega⟩,by omega,m8 (e8 [some 0,some 7,some 6,some 3,some 8,some 5] rfl (by simp[wk]) (by simp[v2,g2])) (by simp)⟩
    ·simp at hc1
   ·simp only[zP,Nat.reduceEqDiff,reduceIte];refine gS fun K hK=>?_;simp -dsimp;apply hK;clear hK K;refine b9 fun K9 hK9=>?_;refine d8 rfl (fun hc1=>?_) (fun hc1=>?_)
    ·rw[v2,g2];refine e9 ?_;simp only[zT,reduceIte,Nat.reduceEqDiff];refine hK9 _ _ ?_;refine b7 [0,5,7,41,42,43] (Or.inr (by simp)) ?_;simp only[zP,Nat.reduceEqDiff,reduceIte];refine b9 fun K10 hK10=>?_;refine d7 ?_;refine gS fun K hK=>?_;simp -dsimp;apply hK;clear hK K;refine gS fun K hK=>?_;simp -dsimp;refine k8 [3,0] [2,1,4] [some 1,none,none,some 0,none,none,some 2,some 3,some 4] (c1w x g wi l z vs fs h hz (k2 (by omega)) (k3 (by omega))) (by decide) rfl (by simp) (by simp) rfl (by simp) ?_;simp -dsimp;apply hK;clear hK K;refine d8 rfl (fun hc2=>?_) (fun hc2=>?_)
     ·obtain⟨z1,hz1⟩:=Option.isSome_iff_exists.1 hc2;have hst:A3 g wi l z=some z1:=by unfold A3;rw[k2 (by omega),k3 (by omega),hz1];rfl
      rw[hz1];simp only[Option.getD_some];refine i6 ?_;simp only[zT,reduceIte,Nat.reduceEqDiff];obtain⟨s1,s2,s3⟩:=I9 h hz hst;exact⟨(z1,vlA g.Nodes.toNat (vfZ g wi l z),flA g ⟨z.fe,wi⟩ (vfZ g wi l z)),⟨s1,by rw[←hN,←s2,w7 hst]⟩,by simp only;omega,m8 (e8 [some 0,some 7,some 6,some 3,some 8,some 5] rfl (by simp) (by simp)) (by simp)⟩
     ·have hn:M2 g wi l z=none:=by simpa using hc2
      rw[hn];simp only[Option.getD_none];refine e9 ?_;simp only[zT,reduceIte,Nat.reduceEqDiff];refine hK10 _ _ ?_;refine b7 [0,5,7,41,42,43] (Or.inr (by simp)) ?_;simp only[zP,Nat.reduceEqDiff,reduceIte];refine gR fun K hK=>?_;simp -dsimp;apply hK;clear hK K;simp only[zT,reduceIte,Nat.reduceEqDiff];have wk:IntKind.i64.wrap 3=3:=by decide
      exact⟨3,⟨by omega,fun _=>k2 (by omega),fun _=>k3 (by omega),fun _=>hn,fun h=>by omega⟩,by omega,m8 (e8 [some 0,some 7,some 6,some 3,some 8,some 5] rfl (by simp[wk]) (by simp[v3,g3])) (by simp)⟩
    ·simp at hc1
   ·simp only[zP,Nat.reduceEqDiff,reduceIte];refine gS fun K hK=>?_;simp -dsimp;apply hK;clear hK K;refine b9 fun K11 hK11=>?_;refine d8 rfl (fun hc1=>?_) (fun hc1=>?_)
    ·rw[v3,g3];refine e9 ?_;simp only[zT,reduceIte,Nat.reduceEqDiff];refine hK11 _ _ ?_;refine b7 [0,5,7,41,42,43] (Or.inr (by simp)) ?_;simp only[zP,Nat.reduceEqDiff,reduceIte];refine b9 fun K12 hK12=>?_;refine d7 ?_;refine gS fun K hK=>?_;simp -dsimp;apply hK;clear hK K;refine gS fun K hK=>?_;simp -dsimp;refine k8 [3,0] [2,1,4] [some 1,none,none,some 0,none,none,some 2,some 3,some 4] (b8F x g wi l z h hz (k2 (by omega)) (k3 (by omega))) (by decide) rfl (by simp) (by simp) rfl (by simp) ?_;simp -dsimp;apply hK;clear hK K;refine d8 rfl (fun hc2=>?_) (fun hc2=>?_)
     ·obtain⟨z1,hz1⟩:=Option.isSome_iff_exists.1 hc2;have hst:A3 g wi l z=some z1:=by unfold A3;rw[k2 (by omega),k3 (by omega),k4 (by omega),hz1];rfl
      rw[hz1];simp only[Option.getD_some];refine i6 ?_;simp only[zT,reduceIte,Nat.reduceEqDiff];obtain⟨s1,s2,s3⟩:=I9 h hz hst;exact⟨(z1,vlA g.Nodes.toNat (vfZ g wi l z),flA g ⟨z.fe,wi⟩ (vfZ g wi l z)),⟨s1,by rw[←hN,←s2,w7 hst]⟩,by simp only;omega,m8 (e8 [some 0,some 7,some 6,some 3,some 8,some 5] rfl (by simp) (by simp)) (by simp)⟩
     ·have hn:B7 g wi l z=none:=by simpa using hc2
      rw[hn];simp only[Option.getD_none];refine e9 ?_;simp only[zT,reduceIte,Nat.reduceEqDiff];refine hK12 _ _ ?_;refine b7 [0,5,7,41,42,43] (Or.inr (by simp)) ?_;simp only[zP,Nat.reduceEqDiff,reduceIte];refine gR fun K hK=>?_;simp -dsimp;apply hK;clear hK K;simp only[zT,reduceIte,Nat.reduceEqDiff];have wk:IntKind.i64.wrap 4=4:=by decide
      exact⟨4,⟨by omega,fun _=>k2 (by omega),fun _=>k3 (by omega),fun _=>k4 (by omega),fun _=>hn⟩,by omega,m8 (e8 [some 0,some 7,some 6,some 3,some 8,some 5] rfl (by simp[wk]) (by simp[v4,g4])) (by simp)⟩
    ·simp at hc1
   ·simp only[zP,Nat.reduceEqDiff,reduceIte];refine gS fun K hK=>?_;simp -dsimp;apply hK;clear hK K;refine b9 fun K13 hK13=>?_;refine d8 rfl (fun hc1=>?_) (fun hc1=>?_)
    ·simp at hc1
    ·rw[v4,g4];have hst:A3 g wi l z=none:=by unfold A3;rw[k2 (by omega),k3 (by omega),k4 (by omega),k5 (by omega)];rfl
     rw[H7 hst]at hN;subst hN;refine i6 ?_;simp only[zT,reduceIte,Nat.reduceEqDiff];refine hK4 _ _ ?_;refine b7 [0,5] (Or.inr (by simp)) ?_;simp only[zP,Nat.reduceEqDiff,reduceIte];refine gS fun K hK=>?_;simp -dsimp;apply hK;clear hK K;refine o9 (m8 (a6k 3 0 rfl rfl) (by simp)) ?_;simp only[B2,List.set_cons_zero];exact k7 ⟨[some 0,some 1,some 2,some 3,some 4],rfl,by simp,by simp,by simp,by simp[y8,n5]⟩
abbrev hMb (g:Gr) (fe wi:List Bool):Option m5:=some (.els 6 [[I g.Nodes, .lst 4 (g.Wires.map Wr.cells), .lst 4 (g.Feeds.map Fd.cells),I g.Least,bL [],bL wi]])
abbrev hTb (x:AV) (l:List Ld) (z:SS) (vs fs:List Fr):Option m5:=some (.els 6 [[x,lL l, .row 1 0 z.sv.length,fL vs,fL fs, .row 3 0 z.cuts.length]])
theorem a3i (g:Gr) (wi:List Bool) (l:List Ld) (fe:List Bool) (h:y2 g wi l) (hfl:fe.length=g.Feeds.length) (hb:fe=[]) (Z:SS) (hZ:t5 g wi l fe=Z):
  g6 Try.prog 55 [.ptr 0 0 0,lL l] [hMb g fe wi] [] (.ptr 2 0 0) [hMb g Z.fe wi]
   [some (.els 1 (Z.sv.map i8)),hTb (.ptr 0 0 0) l Z (vlA g.Nodes.toNat (vfZ g wi l Z)) (flA g ⟨Z.fe,wi⟩ (vfZ g wi l Z)),some (.els 4 (Z.cuts.map Cu.cells))]:=by
 have hll:=h.ll;have f0:C7 l.length 2:=k9 (by omega) (by omega);have hz0:=b3r h hfl;refine g6.of_bodyG [0] Try.func55 rfl (by decide) (by simp[Try.ntmps55]) rfl rfl ?_;intro J hJ;simp only[Try.ntmps55,Try.results55];refine gS fun K hK=>?_;simp -dsimp;apply hK;clear hK K;refine a6Q ?_;refine gS fun K hK=>?_;simp -dsimp [f0];apply hK;clear hK K;refine b9 fun K1 hK1=>?_;refine gS fun K hK=>?_;simp -dsimp;apply hK;clear hK K;refine d7 ?_;refine b7 [0,5,21,22] (Or.inr (by simp)) ?_;simp only[zP,Nat.reduceEqDiff,reduceIte];refine g8 [0,5,21] (α:=Nat) (fun k=>[(22,I k)]) (fun k=>[hMb g fe wi,some (.els 1 ((svK l.length k).map i8)),some (.els 6 [[.ptr 0 0 0,lL l, .row 1 0 l.length, .v (.slice none 0 0), .v (.slice none 0 0), .v (.slice none 0 0)]])]) (fun k=>k≤l.length) (fun k=>l.length-k) 0 ?_ ?_ ?_
 ·exact Nat.zero_le _
 ·exact m8 (e8 [some 0,some 1,some 2] rfl (by simp) (by simp[a1y,i8])) (by simp)
 rintro k k1;simp only[zP,Nat.reduceEqDiff,reduceIte];refine gS fun K hK=>?_;simp -dsimp;apply hK;clear hK K;refine b9 fun K2 hK2=>?_;refine d8 rfl (fun hc0=>?_) (fun hc0=>?_)
 ·have hkl:k<l.length:=by simpa using hc0
  have wk:=zW k (by omega);have hsl:=a5g (n:=l.length) (k:=k) k1;have hst:=a4D hkl;refine e9 ?_;simp only[zT,reduceIte,Nat.reduceEqDiff];refine hK2 _ _ ?_;refine b7 [0,5,21,22] (Or.inr (by simp)) ?_;simp only[zP,Nat.reduceEqDiff,reduceIte];refine b9 fun K3 hK3=>?_;refine d7 ?_;refine gS fun K hK=>?_;simp -dsimp;apply hK;clear hK K;refine gR fun K hK=>?_;simp -dsimp [hkl,hsl];apply hK;clear hK K;simp only[zT,reduceIte,Nat.reduceEqDiff];refine hK3 _ _ ?_;refine b7 [0,5,21,22] (Or.inr (by simp)) ?_;simp only[zP,Nat.reduceEqDiff,reduceIte];refine gR fun K hK=>?_;simp -dsimp [wk];apply hK;clear hK K;simp only[zT,reduceIte,Nat.reduceEqDiff];exact⟨k+1,by omega,by omega,m8 (e8 [some 0,some 1,some 2] rfl (by simp) (by simp[←hst,List.map_set,i8])) (by simp)⟩
 ·have hke:k=l.length:=by have hn:¬k<l.length:=(by simpa using hc0);omega
  subst hke;refine i6 ?_;simp only[zT,reduceIte,Nat.reduceEqDiff];refine hK1 _ _ ?_;refine b7 [0,5] (Or.inr (by simp)) ?_;simp only[zP,Nat.reduceEqDiff,reduceIte];rw[a4Z];refine o9 (m8 (((M9 2 0 3 2 (sz0:=6) rfl rfl rfl).trans (M9 2 0 4 2 (sz0:=6) rfl rfl rfl)).trans (M9 2 0 5 4 (sz0:=6) rfl rfl rfl)) (by simp)) ?_;refine o9 (m8 (B5 (T':=[(0, .ptr 0 0 0),(5, .ptr 2 0 0)]) (H':=[hMb g (z0 l fe).fe wi,some (.els 1 ((z0 l fe).sv.map i8)),hTb (.ptr 0 0 0) l (z0 l fe) [] [],some (.els 4 ((z0 l fe).cuts.map Cu.cells))]) [some 0,some 1,some 2,some 5] rfl ⟨.inr (by simp), .inr (by simp),trivial⟩ (by simp[z0])) (by simp)) ?_;refine b1M 2 0 rfl rfl fun x=>?_;simp only[B2,List.set_cons_zero]
  ·refine S9 (by decide) ?_;refine gS fun K hK=>?_;simp -dsimp;apply hK;clear hK K;refine b7m ?_;refine d7 ?_;refine b7 [0,5,7] (Or.inr (by simp)) ?_;simp only[zP,Nat.reduceEqDiff,reduceIte];refine g8 [0,5,7] (α:=SS×List Fr×List Fr) (fun a=>[]) (fun a=>[hMb g a.1.fe wi,some (.els 1 (a.1.sv.map i8)),hTb (.fptr x 0 0 0) l a.1 a.2.1 a.2.2,some (.els 4 (a.1.cuts.map Cu.cells)),some (.els 1 [[.bnd 77 [.ptr 2 0 0]],[.bnd 78 [.ptr 2 0 0]],[.bnd 79 [.ptr 2 0 0]],[.bnd 80 [.ptr 2 0 0]]])]) (fun a=>ZOk g wi l a.1∧F0 g wi l (a4s a.1) a.1=Z∧a.1.fe=[]) (fun a=>a4s a.1) (z0 l fe,[],[]) ?_ ?_ ?_
   ·exact⟨hz0,hZ,hb⟩
   ·exact m8 (j7 (by simp)) (by simp)
   rintro⟨z,vs,fs⟩ ⟨hz,hN,hb⟩;simp only at hz hN hb ⊢;obtain⟨vK,hvK⟩:∃vK:Nat→List Fr,vK=fun k=>if k≤2 then vs else vlA g.Nodes.toNat (vfZ g wi l z):=⟨_,rfl⟩;obtain⟨fK,hfK⟩:∃fK:Nat→List Fr,fK=fun k=>if k≤2 then fs else flA g ⟨z.fe,wi⟩ (vfZ g wi l z):=⟨_,rfl⟩;have v0:vK 0=vs:=by rw[hvK];rfl
   have v1:vK 1=vs:=by rw[hvK];rfl
   have v2:vK 2=vs:=by rw[hvK];rfl
   have v3:vK 3=vlA g.Nodes.toNat (vfZ g wi l z):=by rw[hvK];rfl
   have v4:vK 4=vlA g.Nodes.toNat (vfZ g wi l z):=by rw[hvK];rfl
   have g0:fK 0=fs:=by rw[hfK];rfl
   have g1:fK 1=fs:=by rw[hfK];rfl
   have g2:fK 2=fs:=by rw[hfK];rfl
   have g3:fK 3=flA g ⟨z.fe,wi⟩ (vfZ g wi l z):=by rw[hfK];rfl
   have g4:fK 4=flA g ⟨z.fe,wi⟩ (vfZ g wi l z):=by rw[hfK];rfl
   simp only[zP,Nat.reduceEqDiff,reduceIte];refine d7 ?_;refine b9 fun K4 hK4=>?_;refine gS fun K hK=>?_;simp -dsimp;apply hK;clear hK K;refine d7 ?_;refine b7 [0,5,7,41,42,43] (Or.inr (by simp)) ?_;simp only[zP,Nat.reduceEqDiff,reduceIte];refine g8 [0,5,7,41,42] (α:=Nat) (fun k=>[(43,I k)]) (fun k=>[hMb g z.fe wi,some (.els 1 (z.sv.map i8)),hTb (.fptr x 0 0 0) l z (vK k) (fK k),some (.els 4 (z.cuts.map Cu.cells)),some (.els 1 [[.bnd 77 [.ptr 2 0 0]],[.bnd 78 [.ptr 2 0 0]],[.bnd 79 [.ptr 2 0 0]],[.bnd 80 [.ptr 2 0 0]]])]) (fun k=>k≤4∧(1≤k→x9 g wi l z=none)∧(2≤k→H9 g wi l z=none)∧(3≤k→M2 g wi l z=none)∧(4≤k→B7 g wi l z=none)) (fun k=>4-k) 0 ?_ ?_ ?_
   ·exact⟨by omega,fun h=>by omega,fun h=>by omega,fun h=>by omega,fun h=>by omega⟩
   ·exact m8 (e8 [some 0,some 1,some 2,some 3,some 4] rfl (by simp) (by simp[v0,g0])) (by simp)
   rintro k ⟨k1,k2,k3,k4,k5⟩
   rcases(by omega:k=0∨k=1∨k=2∨k=3∨k=4)with rfl|rfl|rfl|rfl|rfl
   ·simp only[zP,Nat.reduceEqDiff,reduceIte];refine gS fun K hK=>?_;simp -dsimp;apply hK;clear hK K;refine b9 fun K5 hK5=>?_;refine d8 rfl (fun hc1=>?_) (fun hc1=>?_)
    ·rw[v0,g0];refine e9 ?_;simp only[zT,reduceIte,Nat.reduceEqDiff];refine hK5 _ _ ?_;refine b7 [0,5,7,41,42,43] (Or.inr (by simp)) ?_;simp only[zP,Nat.reduceEqDiff,reduceIte];refine b9 fun K6 hK6=>?_;refine d7 ?_;refine gS fun K hK=>?_;simp -dsimp;apply hK;clear hK K;refine gS fun K hK=>?_;simp -dsimp;refine k8 [2,0] [1,3] [some 1,none,some 0,none,none,some 2,some 3] (b8A x g wi l z vs fs h hz hb) (by decide) rfl (by simp) (by simp) rfl (by simp) ?_;simp -dsimp;apply hK;clear hK K;refine d8 rfl (fun hc2=>?_) (fun hc2=>?_)
     ·obtain⟨z1,hz1⟩:=Option.isSome_iff_exists.1 hc2;have hst:A3 g wi l z=some z1:=by unfold A3;rw[hz1];rfl
      rw[hz1];simp only[Option.getD_some];refine i6 ?_;simp only[zT,reduceIte,Nat.reduceEqDiff];obtain⟨s1,s2,s3⟩:=I9 h hz hst;exact⟨(z1,vs,fs),⟨s1,by rw[←hN,←s2,w7 hst],List.length_eq_zero_iff.1 (by rw[s1.fe,←hz.fe,hb];rfl)⟩,by simp only;omega,m8 (e8 [some 0,some 5,some 2,some 6,some 4] rfl (by simp) (by simp)) (by simp)⟩
     ·have hn:x9 g wi l z=none:=by simpa using hc2
      rw[hn];simp only[Option.getD_none];refine e9 ?_;simp only[zT,reduceIte,Nat.reduceEqDiff];refine hK6 _ _ ?_;refine b7 [0,5,7,41,42,43] (Or.inr (by simp)) ?_;simp only[zP,Nat.reduceEqDiff,reduceIte];refine gR fun K hK=>?_;simp -dsimp;apply hK;clear hK K;simp only[zT,reduceIte,Nat.reduceEqDiff];have wk:IntKind.i64.wrap 1=1:=by decide
      exact⟨1,⟨by omega,fun _=>hn,fun h=>by omega,fun h=>by omega,fun h=>by omega⟩,by omega,m8 (e8 [some 0,some 5,some 2,some 6,some 4] rfl (by simp[wk]) (by simp[v1,g1])) (by simp)⟩
    ·simp at hc1
   ·simp only[zP,Nat.reduceEqDiff,reduceIte];refine gS fun K hK=>?_;simp -dsimp;apply hK;clear hK K;refine b9 fun K7 hK7=>?_;refine d8 rfl (fun hc1=>?_) (fun hc1=>?_)
    ·rw[v1,g1];refine e9 ?_;simp only[zT,reduceIte,Nat.reduceEqDiff];refine hK7 _ _ ?_;refine b7 [0,5,7,41,42,43] (Or.inr (by simp)) ?_;simp only[zP,Nat.reduceEqDiff,reduceIte];refine b9 fun K8 hK8=>?_;refine d7 ?_;refine gS fun K hK=>?_;simp -dsimp;apply hK;clear hK K;refine gS fun K hK=>?_;simp -dsimp;refine k8 [2,0] [1,3] [some 1,none,some 0,none,none,some 2,some 3] (c1b x g wi l z vs fs h hz hb) (by decide) rfl (by simp) (by simp) rfl (by simp) ?_;simp -dsimp;apply hK;clear hK K;refine d8 rfl (fun hc2=>?_) (fun hc2=>?_)
     ·obtain⟨z1,hz1⟩:=Option.isSome_iff_exists.1 hc2;have hst:A3 g wi l z=some z1:=by unfold A3;rw[k2 (by omega),hz1];rfl
      rw[hz1];simp only[Option.getD_some];refine i6 ?_;simp only[zT,reduceIte,Nat.reduceEqDiff];obtain⟨s1,s2,s3⟩:=I9 h hz hst;exact⟨(z1,vs,fs),⟨s1,by rw[←hN,←s2,w7 hst],List.length_eq_zero_iff.1 (by rw[s1.fe,←hz.fe,hb];rfl)⟩,by simp only;omega,m8 (e8 [some 0,some 5,some 2,some 6,some 4] rfl (by simp) (by simp)) (by simp)⟩
     ·have hn:H9 g wi l z=none:=by simpa using hc2
      rw[hn];simp only[Option.getD_none];refine e9 ?_;simp only[zT,reduceIte,Nat.reduceEqDiff];refine hK8 _ _ ?_;refine b7 [0,5,7,41,42,43] (Or.inr (by simp)) ?_;simp only[zP,Nat.reduceEqDiff,reduceIte];refine gR fun K hK=>?_;simp -dsimp;apply hK;clear hK K;simp only[zT,reduceIte,Nat.reduceEqDiff];have wk:IntKind.i64.wrap 2=2:=by decide
      exact⟨2,⟨by omega,fun _=>k2 (by omega),fun _=>hn,fun h=>by omega,fun h=>by omega⟩,by omega,m8 (e8 [some 0,some 5,some 2,some 6,some 4] rfl (by simp[wk]) (by simp[v2,g2])) (by simp)⟩
    ·simp at hc1
   ·simp only[zP,Nat.reduceEqDiff,reduceIte];refine gS fun K hK=>?_;simp -dsimp;apply hK;clear hK K;refine b9 fun K9 hK9=>?_;refine d8 rfl (fun hc1=>?_) (fun hc1=>?_)
    ·rw[v2,g2];refine e9 ?_;simp only[zT,reduceIte,Nat.reduceEqDiff];refine hK9 _ _ ?_;refine b7 [0,5,7,41,42,43] (Or.inr (by simp)) ?_;simp only[zP,Nat.reduceEqDiff,reduceIte];refine b9 fun K10 hK10=>?_;refine d7 ?_;refine gS fun K hK=>?_;simp -dsimp;apply hK;clear hK K;refine gS fun K hK=>?_;simp -dsimp;refine k8 [2,0] [1,3] [some 1,none,some 0,none,none,some 2,some 3] (c1W x g wi l z vs fs h hz hb (k2 (by omega)) (k3 (by omega))) (by decide) rfl (by simp) (by simp) rfl (by simp) ?_;simp -dsimp;apply hK;clear hK K;refine d8 rfl (fun hc2=>?_) (fun hc2=>?_)
     ·obtain⟨z1,hz1⟩:=Option.isSome_iff_exists.1 hc2;have hst:A3 g wi l z=some z1:=by unfold A3;rw[k2 (by omega),k3 (by omega),hz1];rfl
      rw[hz1];simp only[Option.getD_some];refine i6 ?_;simp only[zT,reduceIte,Nat.reduceEqDiff];obtain⟨s1,s2,s3⟩:=I9 h hz hst;exact⟨(z1,vlA g.Nodes.toNat (vfZ g wi l z),flA g ⟨z.fe,wi⟩ (vfZ g wi l z)),⟨s1,by rw[←hN,←s2,w7 hst],List.length_eq_zero_iff.1 (by rw[s1.fe,←hz.fe,hb];rfl)⟩,by simp only;omega,m8 (e8 [some 0,some 5,some 2,some 6,some 4] rfl (by simp) (by simp)) (by simp)⟩
     ·have hn:M2 g wi l z=none:=by simpa using hc2
      rw[hn];simp only[Option.getD_none];refine e9 ?_;simp only[zT,reduceIte,Nat.reduceEqDiff];refine hK10 _ _ ?_;refine b7 [0,5,7,41,42,43] (Or.inr (by simp)) ?_;simp only[zP,Nat.reduceEqDiff,reduceIte];refine gR fun K hK=>?_;simp -dsimp;apply hK;clear hK K;simp only[zT,reduceIte,Nat.reduceEqDiff];have wk:IntKind.i64.wrap 3=3:=by decide
      exact⟨3,⟨by omega,fun _=>k2 (by omega),fun _=>k3 (by omega),fun _=>hn,fun h=>by omega⟩,by omega,m8 (e8 [some 0,some 5,some 2,some 6,some 4] rfl (by simp[wk]) (by simp[v3,g3])) (by simp)⟩
    ·simp at hc1
   ·simp only[zP,Nat.reduceEqDiff,reduceIte];refine gS fun K hK=>?_;simp -dsimp;apply hK;clear hK K;refine b9 fun K11 hK11=>?_;refine d8 rfl (fun hc1=>?_) (fun hc1=>?_)
    ·rw[v3,g3];refine e9 ?_;simp only[zT,reduceIte,Nat.reduceEqDiff];refine hK11 _ _ ?_;refine b7 [0,5,7,41,42,43] (Or.inr (by simp)) ?_;simp only[zP,Nat.reduceEqDiff,reduceIte];refine b9 fun K12 hK12=>?_;refine d7 ?_;refine gS fun K hK=>?_;simp -dsimp;apply hK;clear hK K;refine gS fun K hK=>?_;simp -dsimp;refine k8 [2,0] [1,3] [some 1,none,some 0,none,none,some 2,some 3] (b8H x g wi l z h hz hb) (by decide) rfl (by simp) (by simp) rfl (by simp) ?_;simp -dsimp;apply hK;clear hK K;refine d8 rfl (fun hc2=>?_) (fun hc2=>?_)
     ·obtain⟨z1,hz1⟩:=Option.isSome_iff_exists.1 hc2;have hst:A3 g wi l z=some z1:=by unfold A3;rw[k2 (by omega),k3 (by omega),k4 (by omega),hz1];rfl
      rw[hz1];simp only[Option.getD_some];refine i6 ?_;simp only[zT,reduceIte,Nat.reduceEqDiff];obtain⟨s1,s2,s3⟩:=I9 h hz hst;exact⟨(z1,vlA g.Nodes.toNat (vfZ g wi l z),flA g ⟨z.fe,wi⟩ (vfZ g wi l z)),⟨s1,by rw[←hN,←s2,w7 hst],List.length_eq_zero_iff.1 (by rw[s1.fe,←hz.fe,hb];rfl)⟩,by simp only;omega,m8 (e8 [some 0,some 5,some 2,some 6,some 4] rfl (by simp) (by simp)) (by simp)⟩
     ·have hn:B7 g wi l z=none:=by simpa using hc2
      rw[hn];simp only[Option.getD_none];refine e9 ?_;simp only[zT,reduceIte,Nat.reduceEqDiff];refine hK12 _ _ ?_;refine b7 [0,5,7,41,42,43] (Or.inr (by simp)) ?_;simp only[zP,Nat.reduceEqDiff,reduceIte];refine gR fun K hK=>?_;simp -dsimp;apply hK;clear hK K;simp only[zT,reduceIte,Nat.reduceEqDiff];have wk:IntKind.i64.wrap 4=4:=by decide
      exact⟨4,⟨by omega,fun _=>k2 (by omega),fun _=>k3 (by omega),fun _=>k4 (by omega),fun _=>hn⟩,by omega,m8 (e8 [some 0,some 5,some 2,some 6,some 4] rfl (by simp[wk]) (by simp[v4,g4])) (by simp)⟩
    ·simp at hc1
   ·simp only[zP,Nat.reduceEqDiff,reduceIte];refine gS fun K hK=>?_;simp -dsimp;apply hK;clear hK K;refine b9 fun K13 hK13=>?_;refine d8 rfl (fun hc1=>?_) (fun hc1=>?_)
    ·simp at hc1
    ·rw[v4,g4];have hst:A3 g wi l z=none:=by unfold A3;rw[k2 (by omega),k3 (by omega),k4 (by omega),k5 (by omega)];rfl
     rw[H7 hst]at hN;subst hN;refine i6 ?_;simp only[zT,reduceIte,Nat.reduceEqDiff];refine hK4 _ _ ?_;refine b7 [0,5] (Or.inr (by simp)) ?_;simp only[zP,Nat.reduceEqDiff,reduceIte];refine gS fun K hK=>?_;simp -dsimp;apply hK;clear hK K;refine o9 (m8 (a6k 2 0 rfl rfl) (by simp)) ?_;simp only[B2,List.set_cons_zero];exact k7 ⟨[some 0,some 1,some 2,some 3],rfl,by simp,by simp,by simp,by simp[y8,n5]⟩
end Go.Cur
end
section
namespace Go.Cur
open Go.AM Go.Proofs
def a7p (g:Gr) (wi:List Bool) (l:List Ld) (Z:SS):Stl:=⟨vlA g.Nodes.toNat (vfZ g wi l Z),flA g ⟨Z.fe,wi⟩ (vfZ g wi l Z),⟨Z.fe,wi⟩,Z.sv,Z.cuts⟩
def b3j:AV:= .agg [.v (.slice none 0 0), .v (.slice none 0 0), .v (.slice none 0 0), .v (.slice none 0 0), .v (.slice none 0 0), .v (.slice none 0 0)]
theorem a2Y {g:Gr} {wi:List Bool} {l:List Ld} (h:y2 g wi l):∀{n:Nat} {z:SS},ZOk g wi l z→ZOk g wi l (F0 g wi l n z)
 |0,z,hz=>hz
 |n+1,z,hz=>by
  cases hs:A3 g wi l z with
  |none=>rw[H7 hs];exact hz
  |some z'=>rw[w7 hs];exact a2Y h (I9 h hz hs).1
theorem b0C (g:Gr) (s:Sta) (l:List Ld) (hl:l.length≤1000) (hf:w9 g s l=false):d5 Try.prog 27 [g.av,s.av,lL l] (.tup [b3j,I 2]):=by
 have hb:=a6N g s l hl hf;refine d5.of_bodyG Try.func27 rfl (by decide) (by simp[Try.ntmps27]) ?_;intro J hJ;simp only[Try.ntmps27,Try.results27];refine gS fun K hK=>?_;simp -dsimp;apply hK;clear hK K;refine gS fun K hK=>?_;simp -dsimp;refine d6 _ (hb) (by simp) ?_;simp -dsimp;apply hK;clear hK K;refine b9 fun K1 hK1=>?_;refine d7 ?_;refine gS fun K hK=>?_;simp -dsimp;apply hK;clear hK K;refine d8 rfl (fun hc0=>?_) (fun hc0=>?_)
 ·refine gS fun K hK=>?_;simp -dsimp;apply hK;clear hK K;exact k7 (by simp[b3j,y8,n5])
 ·simp at hc0
theorem b0H (g:Gr) (s:Sta) (l:List Ld) (hl:l.length≤1000) (hf:w9 g s l=true) (h12:V4 g s) (hlo:G2 g s=true):d5 Try.prog 27 [g.av,s.av,lL l] (.tup [b3j,I 3]):=by
 have hb:=a2a g s l hl hf;have hlg:=a0X g s (z9 hf) h12;rw[hlo]at hlg;refine d5.of_bodyG Try.func27 rfl (by decide) (by simp[Try.ntmps27]) ?_;intro J hJ;simp only[Try.ntmps27,Try.results27];refine gS fun K hK=>?_;simp -dsimp;apply hK;clear hK K;refine gS fun K hK=>?_;simp -dsimp;refine d6 _ (hb) (by simp) ?_;simp -dsimp;apply hK;clear hK K;refine b9 fun K1 hK1=>?_;refine d7 ?_;refine gS fun K hK=>?_;simp -dsimp;apply hK;clear hK K;refine d8 rfl (fun hc0=>?_) (fun hc0=>?_)
 ·simp at hc0
 ·refine gS fun K hK=>?_;simp -dsimp;refine d6 _ (hlg) (by simp) ?_;simp -dsimp;apply hK;clear hK K;refine d8 rfl (fun hc1=>?_) (fun hc1=>?_)
  ·refine gS fun K hK=>?_;simp -dsimp;apply hK;clear hK K;exact k7 (by simp[b3j,y8,n5])
  ·simp at hc1
theorem b6E (g:Gr) (s:Sta) (l:List Ld) (hl:l.length≤1000) (hfine:w9 g s l=true) (hne:s.Feeds≠[]):g6 Try.prog 47 [g.av,s.av,lL l] [] [] (.tup [.ptr 0 0 0,Bo true]) [] [hMa g s.Feeds s.Wires,some (.els 1 (s.Feeds.map i8))]:=by
 have hfine0:=hfine;simp only[w9,stB,Bool.and_eq_true,decide_eq_true_eq]at hfine0;have hgo:grB g=true∧s.Feeds.length=g.Feeds.length∧s.Wires.length=g.Wires.length:=⟨hfine0.1.1,hfine0.1.2.1.1,hfine0.1.2.1.2⟩;have hfl1:s.Feeds.length≤1000:=by have:=(r7 hgo.1).2.2.2.1;omega
 refine g6.of_bodyG [] Try.func47 rfl (by decide) (by simp[Try.ntmps47]) rfl rfl ?_;intro J hJ;simp only[Try.ntmps47,Try.results47];refine gS fun K hK=>?_;simp -dsimp;apply hK;clear hK K;refine b9 fun K1 hK1=>?_;refine gS fun K hK=>?_;simp -dsimp [okE];refine d6 _ (a4N g) (by simp) ?_;simp -dsimp [okE];apply hK;clear hK K;refine d8 rfl (fun hc0=>?_) (fun hc0=>?_)
 ·exfalso;simp[hgo.1,hgo.2.1,hgo.2.2]at hc0
 ·have hb:=r7 hgo.1;refine e9 ?_;simp only[zT,reduceIte,Nat.reduceEqDiff];refine hK1 _ _ ?_;refine b7 [2,3,4] (Or.inr (by simp)) ?_;simp only[zP,Nat.reduceEqDiff,reduceIte];refine b9 fun K2 hK2=>?_;refine gS fun K hK=>?_;simp -dsimp;apply hK;clear hK K;refine d7 ?_;refine b7 [2,3,4,35,36,37] (Or.inr (by simp)) ?_;simp only[zP,Nat.reduceEqDiff,reduceIte];refine g8 [2,3,4,35,36] (α:=Nat) (fun k=>[(37,I k)]) (fun k=>[some (.els 4 [g.cells]),some (.els 2 [s.cells])]) (fun k=>k≤g.Wires.length∧a4V g s k=true) (fun k=>g.Wires.length-k) 0 ?_ ?_ ?_
  ·exact⟨Nat.zero_le _,rfl⟩
  ·exact m8 (j7 (by simp)) (by simp)
  rintro k ⟨k1,k2⟩;simp only[zP,Nat.reduceEqDiff,reduceIte];refine gS fun K hK=>?_;simp -dsimp;apply hK;clear hK K;refine b9 fun K3 hK3=>?_;refine d8 rfl (fun hc1=>?_) (fun hc1=>?_)
  ·skip
   try simp at hc1
   obtain⟨w,hw⟩:∃w,g.Wires[k]?=some w:=⟨_,List.getElem?_eq_getElem hc1⟩;have wk:=zW k (by omega);have gb:=s7 (l:=s.Wires) (k:=k) (by omega);refine e9 ?_;simp only[zT,reduceIte,Nat.reduceEqDiff];refine hK3 _ _ ?_;refine b7 [2,3,4,35,36,37] (Or.inr (by simp)) ?_;simp only[zP,Nat.reduceEqDiff,reduceIte];refine b9 fun K4 hK4=>?_;refine d7 ?_;refine gS fun K hK=>?_;simp -dsimp [hw];apply hK;clear hK K;refine gS fun K hK=>?_;simp -dsimp [gb,hgo.2.2];refine j8 (i8 (bAt s.Wires k)) (fun _=>by simp[gb]) ?_;simp -dsimp [gb,hgo.2.2];apply hK;clear hK K;refine d8 rfl (fun hc2=>?_) (fun hc2=>?_)
   ·exfalso;have hfl:(w.Sw||bAt s.Wires k)=false:=by cases hw1:w.Sw<;>cases hb1:bAt s.Wires k<;>simp[hw1,hb1]at hc2 ⊢
    rw[b4H hw hfl]at hfine;cases hfine
   ·refine e9 ?_;simp only[zT,reduceIte,Nat.reduceEqDiff];refine hK4 _ _ ?_;refine b7 [2,3,4,35,36,37] (Or.inr (by simp)) ?_;simp only[zP,Nat.reduceEqDiff,reduceIte];refine gR fun K hK=>?_;simp -dsimp [wk];apply hK;clear hK K;simp only[zT,reduceIte,Nat.reduceEqDiff];refine⟨k+1,⟨by omega,?_⟩,by omega,m8 (e8 [some 0,some 1] rfl (by simp) (by simp)) (by simp)⟩;simp only[a4V,k2,hw,Bool.true_and]
    cases hw1:w.Sw<;>cases hb1:bAt s.Wires k<;>simp[hw1,hb1]at hc2 ⊢
  ·skip
   try simp at hc1
   have hke:k=g.Wires.length:=by omega
   subst hke;refine i6 ?_;simp only[zT,reduceIte,Nat.reduceEqDiff];refine hK2 _ _ ?_;refine b7 [2,3,4] (Or.inr (by simp)) ?_;simp only[zP,Nat.reduceEqDiff,reduceIte];refine gS fun K hK=>?_;simp -dsimp;apply hK;clear hK K;refine b9 fun K5 hK5=>?_;refine gS fun K hK=>?_;simp -dsimp;apply hK;clear hK K;refine d7 ?_;refine b7 [3,4,10,55,56,57] (Or.inr (by simp)) ?_;simp only[zP,Nat.reduceEqDiff,reduceIte];refine g8 [3,4,10,55,56] (α:=Nat) (fun k=>[(57,I k)]) (fun k=>[some (.els 4 [g.cells]),some (.els 2 [s.cells]),some (.map false [.i .i64] (lkv (l.take k)))]) (fun k=>k≤l.length∧a1V g l k=true) (fun k=>l.length-k) 0 ?_ ?_ ?_
   ·exact⟨Nat.zero_le _,rfl⟩
   ·exact m8 (e8 [some 0,some 1,some 2] rfl (by simp) (by simp[lkv])) (by simp)
   rintro i ⟨i1,i2⟩;simp only[zP,Nat.reduceEqDiff,reduceIte];refine gS fun K hK=>?_;simp -dsimp;apply hK;clear hK K;refine b9 fun K6 hK6=>?_;refine d8 rfl (fun hc3=>?_) (fun hc3=>?_)
   ·skip
    try simp at hc3
    obtain⟨f,hf⟩:∃f,l[i]?=some f:=⟨_,List.getElem?_eq_getElem hc3⟩;have wi:=zW i (by omega);have wn:IntKind.i64.wrap (g.Nodes-1)=g.Nodes-1:=i7 (by omega) (by omega);refine e9 ?_;simp only[zT,reduceIte,Nat.reduceEqDiff];refine hK6 _ _ ?_;refine b7 [3,4,10,55,56,57] (Or.inr (by simp)) ?_;simp only[zP,Nat.reduceEqDiff,reduceIte];refine b9 fun K7 hK7=>?_;refine d7 ?_;refine gS fun K hK=>?_;simp -dsimp [hf];apply hK;clear hK K;refine b9 fun K8 hK8=>?_;refine gS fun K hK=>?_;simp -dsimp [wn,s8];refine d6 _ (s5 _ _ _) (by simp) ?_;simp -dsimp [wn,s8];refine f8 _ (fun hm=>s5 f.Units (-40) 40) (by simp) ?_;simp -dsimp [wn,s8];refine f8 _ (fun hm=>s5 f.Rank 0 100) (by simp) ?_;simp -dsimp [wn,s8];refine p6 (_) (fun hm=>rfl) ?_;simp -dsimp [wn,s8];apply hK;clear hK K;refine d8 rfl (fun hc4=>?_) (fun hc4=>?_)
    ·have hfd:ldB g (l.take i) f= !(!inr f.At 0 (g.Nodes-1)|| !inr f.Units (-40) 40|| !inr f.Rank 0 100||((l.take i).any fun x=>decide (x.At=f.At))):=by
      simp only[ldB]
      cases inr f.At 0 (g.Nodes-1)<;>cases inr f.Units (-40) 40<;>cases inr f.Rank 0 100<;>cases ((l.take i).any fun x=>decide (x.At=f.At))<;>rfl
     exfalso;rw[b2u hf (by rw[hfd,hc4];rfl)]at hfine;cases hfine
    ·have hfd:ldB g (l.take i) f= !(!inr f.At 0 (g.Nodes-1)|| !inr f.Units (-40) 40|| !inr f.Rank 0 100||((l.take i).any fun x=>decide (x.At=f.At))):=by
      simp only[ldB]
      cases inr f.At 0 (g.Nodes-1)<;>cases inr f.Units (-40) 40<;>cases inr f.Rank 0 100<;>cases ((l.take i).any fun x=>decide (x.At=f.At))<;>rfl
     have hany:((l.take i).any fun x=>decide (x.At=f.At))=false:=by
      cases h:((l.take i).any fun x=>decide (x.At=f.At))with
      |false=>rfl
      |true=>rw[h]at hc4;simp at hc4
     refine e9 ?_;simp only[zT,reduceIte,Nat.reduceEqDiff];refine hK8 _ _ ?_;refine b7 [3,4,10,12,55,56,57] (Or.inr (by simp)) ?_;simp only[zP,Nat.reduceEqDiff,reduceIte];refine gR fun K hK=>?_;simp -dsimp [Z2 _ _ hany];apply hK;clear hK K;simp only[zT,reduceIte,Nat.reduceEqDiff];refine hK7 _ _ ?_;refine b7 [3,4,10,55,56,57] (Or.inr (by simp)) ?_;simp only[zP,Nat.reduceEqDiff,reduceIte];refine gR fun K hK=>?_;simp -dsimp [wi];apply hK;clear hK K;simp only[zT,reduceIte,Nat.reduceEqDiff];refine⟨i+1,⟨by omega,?_⟩,by omega,m8 (e8 [some 0,some 1,some 2] rfl (by simp) (by simp[List.take_add_one,hf])) (by simp)⟩;simp only[a1V,i2,hf,hfd,hc4];rfl
   ·skip
    try simp at hc3
    refine i6 ?_;simp only[zT,reduceIte,Nat.reduceEqDiff];refine hK5 _ _ ?_;refine b7 [3,4] (Or.inr (by simp)) ?_;simp only[zP,Nat.reduceEqDiff,reduceIte];refine s4 l6 rfl (by decide) rfl rfl fun K hK=>?_;simp -dsimp;refine L6 (c1Q s.Feeds hne hfl1) ?_;simp -dsimp;refine d6 _ (v7 s.Wires (by omega)) (by simp) ?_;simp -dsimp;refine hK _ _ _ (by decide+kernel) ?_;clear hK K;exact k7 ⟨[some 4,some 3],rfl,by simp,by simp[hne],by simp,by simp[y8,n5]⟩
theorem a2k (g:Gr) (s:Sta) (l:List Ld) (hf:w9 g s l=true) (hlo:G2 g s=false) (h:y2 g s.Wires l) (hne:s.Feeds≠[]) (Z:SS) (hZ:t5 g s.Wires l s.Feeds=Z):
  d5 Try.prog 27 [g.av,s.av,lL l] (.tup [.agg (a7p g s.Wires l Z).cells,I 0]):=by
 have hll:=h.ll;have hnt:=z9 hf;have hb:=b6E g s l (by omega) hf hne;have hlg:=a0X g s hnt (h.few _);rw[hlo]at hlg;have hst:=a3b g s.Wires l s.Feeds h hnt.sf Z hZ;refine d5.of_bodyG Try.func27 rfl (by decide) (by simp[Try.ntmps27]) ?_;intro J hJ;simp only[Try.ntmps27,Try.results27];refine gS fun K hK=>?_;simp -dsimp;apply hK;clear hK K;refine gS fun K hK=>?_;simp -dsimp;refine k8 [] [] [none,none,none,some 0,some 1] (hb) (by decide) rfl (by simp) (by simp) rfl (by simp) ?_;simp -dsimp;apply hK;clear hK K;refine b9 fun K1 hK1=>?_;refine d7 ?_;refine gS fun K hK=>?_;simp -dsimp;apply hK;clear hK K;refine d8 rfl (fun hc0=>?_) (fun hc0=>?_)
 ·simp at hc0
 ·refine gS fun K hK=>?_;simp -dsimp;refine d6 _ (hlg) (by simp) ?_;simp -dsimp;apply hK;clear hK K;refine d8 rfl (fun hc1=>?_) (fun hc1=>?_)
  ·simp at hc1
  ·refine e9 ?_;simp only[zT,reduceIte,Nat.reduceEqDiff];refine hK1 _ _ ?_;refine b7 [2,6,8] (Or.inr (by simp)) ?_;simp only[zP,Nat.reduceEqDiff,reduceIte];refine gS fun K hK=>?_;simp -dsimp;refine k8 [3] [4] [none,none,none,some 0,none,some 1,some 2,some 3,some 4] (hst) (by decide) rfl (by simp) (by simp) rfl (by simp) ?_;simp -dsimp;apply hK;clear hK K;refine s4 l6 rfl (by decide) rfl rfl fun K hK=>?_;simp -dsimp;refine hK _ _ _ (by decide+kernel) ?_;clear hK K;exact k7 (by simp[a7p,y8,n5])
theorem b6i (g:Gr) (s:Sta) (l:List Ld) (hl:l.length≤1000) (hfine:w9 g s l=true) (hne:s.Feeds=[]):g6 Try.prog 47 [g.av,s.av,lL l] [] [] (.tup [.ptr 0 0 0,Bo true]) [] [hMb g s.Feeds s.Wires]:=by
 have hfine0:=hfine;simp only[w9,stB,Bool.and_eq_true,decide_eq_true_eq]at hfine0;have hgo:grB g=true∧s.Feeds.length=g.Feeds.length∧s.Wires.length=g.Wires.length:=⟨hfine0.1.1,hfine0.1.2.1.1,hfine0.1.2.1.2⟩;have hfl1:s.Feeds.length≤1000:=by have:=(r7 hgo.1).2.2.2.1;omega
 refine g6.of_bodyG [] Try.func47 rfl (by decide) (by simp[Try.ntmps47]) rfl rfl ?_;intro J hJ;simp only[Try.ntmps47,Try.results47];refine gS fun K hK=>?_;simp -dsimp;apply hK;clear hK K;refine b9 fun K1 hK1=>?_;refine gS fun K hK=>?_;simp -dsimp [okE];refine d6 _ (a4N g) (by simp) ?_;simp -dsimp [okE];apply hK;clear hK K;refine d8 rfl (fun hc0=>?_) (fun hc0=>?_)
 ·exfalso;simp[hgo.1,hgo.2.1,hgo.2.2]at hc0
 ·have hb:=r7 hgo.1;refine e9 ?_;simp only[zT,reduceIte,Nat.reduceEqDiff];refine hK1 _ _ ?_;refine b7 [2,3,4] (Or.inr (by simp)) ?_;simp only[zP,Nat.reduceEqDiff,reduceIte];refine b9 fun K2 hK2=>?_;refine gS fun K hK=>?_;simp -dsimp;apply hK;clear hK K;refine d7 ?_;refine b7 [2,3,4,35,36,37] (Or.inr (by simp)) ?_;simp only[zP,Nat.reduceEqDiff,reduceIte];refine g8 [2,3,4,35,36] (α:=Nat) (fun k=>[(37,I k)]) (fun k=>[some (.els 4 [g.cells]),some (.els 2 [s.cells])]) (fun k=>k≤g.Wires.length∧a4V g s k=true) (fun k=>g.Wires.length-k) 0 ?_ ?_ ?_
  ·exact⟨Nat.zero_le _,rfl⟩
  ·exact m8 (j7 (by simp)) (by simp)
  rintro k ⟨k1,k2⟩;simp only[zP,Nat.reduceEqDiff,reduceIte];refine gS fun K hK=>?_;simp -dsimp;apply hK;clear hK K;refine b9 fun K3 hK3=>?_;refine d8 rfl (fun hc1=>?_) (fun hc1=>?_)
  ·skip
   try simp at hc1
   obtain⟨w,hw⟩:∃w,g.Wires[k]?=some w:=⟨_,List.getElem?_eq_getElem hc1⟩;have wk:=zW k (by omega);have gb:=s7 (l:=s.Wires) (k:=k) (by omega);refine e9 ?_;simp only[zT,reduceIte,Nat.reduceEqDiff];refine hK3 _ _ ?_;refine b7 [2,3,4,35,36,37] (Or.inr (by simp)) ?_;simp only[zP,Nat.reduceEqDiff,reduceIte];refine b9 fun K4 hK4=>?_;refine d7 ?_;refine gS fun K hK=>?_;simp -dsimp [hw];apply hK;clear hK K;refine gS fun K hK=>?_;simp -dsimp [gb,hgo.2.2];refine j8 (i8 (bAt s.Wires k)) (fun _=>by simp[gb]) ?_;simp -dsimp [gb,hgo.2.2];apply hK;clear hK K;refine d8 rfl (fun hc2=>?_) (fun hc2=>?_)
   ·exfalso;have hfl:(w.Sw||bAt s.Wires k)=false:=by cases hw1:w.Sw<;>cases hb1:bAt s.Wires k<;>simp[hw1,hb1]at hc2 ⊢
    rw[b4H hw hfl]at hfine;cases hfine
   ·refine e9 ?_;simp only[zT,reduceIte,Nat.reduceEqDiff];refine hK4 _ _ ?_;refine b7 [2,3,4,35,36,37] (Or.inr (by simp)) ?_;simp only[zP,Nat.reduceEqDiff,reduceIte];refine gR fun K hK=>?_;simp -dsimp [wk];apply hK;clear hK K;simp only[zT,reduceIte,Nat.reduceEqDiff];refine⟨k+1,⟨by omega,?_⟩,by omega,m8 (e8 [some 0,some 1] rfl (by simp) (by simp)) (by simp)⟩;simp only[a4V,k2,hw,Bool.true_and]
    cases hw1:w.Sw<;>cases hb1:bAt s.Wires k<;>simp[hw1,hb1]at hc2 ⊢
  ·skip
   try simp at hc1
   have hke:k=g.Wires.length:=by omega
   subst hke;refine i6 ?_;simp only[zT,reduceIte,Nat.reduceEqDiff];refine hK2 _ _ ?_;refine b7 [2,3,4] (Or.inr (by simp)) ?_;simp only[zP,Nat.reduceEqDiff,reduceIte];refine gS fun K hK=>?_;simp -dsimp;apply hK;clear hK K;refine b9 fun K5 hK5=>?_;refine gS fun K hK=>?_;simp -dsimp;apply hK;clear hK K;refine d7 ?_;refine b7 [3,4,10,55,56,57] (Or.inr (by simp)) ?_;simp only[zP,Nat.reduceEqDiff,reduceIte];refine g8 [3,4,10,55,56] (α:=Nat) (fun k=>[(57,I k)]) (fun k=>[some (.els 4 [g.cells]),some (.els 2 [s.cells]),some (.map false [.i .i64] (lkv (l.take k)))]) (fun k=>k≤l.length∧a1V g l k=true) (fun k=>l.length-k) 0 ?_ ?_ ?_
   ·exact⟨Nat.zero_le _,rfl⟩
   ·exact m8 (e8 [some 0,some 1,some 2] rfl (by simp) (by simp[lkv])) (by simp)
   rintro i ⟨i1,i2⟩;simp only[zP,Nat.reduceEqDiff,reduceIte];refine gS fun K hK=>?_;simp -dsimp;apply hK;clear hK K;refine b9 fun K6 hK6=>?_;refine d8 rfl (fun hc3=>?_) (fun hc3=>?_)
   ·skip
    try simp at hc3
    obtain⟨f,hf⟩:∃f,l[i]?=some f:=⟨_,List.getElem?_eq_getElem hc3⟩;have wi:=zW i (by omega);have wn:IntKind.i64.wrap (g.Nodes-1)=g.Nodes-1:=i7 (by omega) (by omega);refine e9 ?_;simp only[zT,reduceIte,Nat.reduceEqDiff];refine hK6 _ _ ?_;refine b7 [3,4,10,55,56,57] (Or.inr (by simp)) ?_;simp only[zP,Nat.reduceEqDiff,reduceIte];refine b9 fun K7 hK7=>?_;refine d7 ?_;refine gS fun K hK=>?_;simp -dsimp [hf];apply hK;clear hK K;refine b9 fun K8 hK8=>?_;refine gS fun K hK=>?_;simp -dsimp [wn,s8];refine d6 _ (s5 _ _ _) (by simp) ?_;simp -dsimp [wn,s8];refine f8 _ (fun hm=>s5 f.Units (-40) 40) (by simp) ?_;simp -dsimp [wn,s8];refine f8 _ (fun hm=>s5 f.Rank 0 100) (by simp) ?_;simp -dsimp [wn,s8];refine p6 (_) (fun hm=>rfl) ?_;simp -dsimp [wn,s8];apply hK;clear hK K;refine d8 rfl (fun hc4=>?_) (fun hc4=>?_)
    ·have hfd:ldB g (l.take i) f= !(!inr f.At 0 (g.Nodes-1)|| !inr f.Units (-40) 40|| !inr f.Rank 0 100||((l.take i).any fun x=>decide (x.At=f.At))):=by
      simp only[ldB]
      cases inr f.At 0 (g.Nodes-1)<;>cases inr f.Units (-40) 40<;>cases inr f.Rank 0 100<;>cases ((l.take i).any fun x=>decide (x.At=f.At))<;>rfl
     exfalso;rw[b2u hf (by rw[hfd,hc4];rfl)]at hfine;cases hfine
    ·have hfd:ldB g (l.take i) f= !(!inr f.At 0 (g.Nodes-1)|| !inr f.Units (-40) 40|| !inr f.Rank 0 100||((l.take i).any fun x=>decide (x.At=f.At))):=by
      simp only[ldB]
      cases inr f.At 0 (g.Nodes-1)<;>cases inr f.Units (-40) 40<;>cases inr f.Rank 0 100<;>cases ((l.take i).any fun x=>decide (x.At=f.At))<;>rfl
     have hany:((l.take i).any fun x=>decide (x.At=f.At))=false:=by
      cases h:((l.take i).any fun x=>decide (x.At=f.At))with
      |false=>rfl
      |true=>rw[h]at hc4;simp at hc4
     refine e9 ?_;simp only[zT,reduceIte,Nat.reduceEqDiff];refine hK8 _ _ ?_;refine b7 [3,4,10,12,55,56,57] (Or.inr (by simp)) ?_;simp only[zP,Nat.reduceEqDiff,reduceIte];refine gR fun K hK=>?_;simp -dsimp [Z2 _ _ hany];apply hK;clear hK K;simp only[zT,reduceIte,Nat.reduceEqDiff];refine hK7 _ _ ?_;refine b7 [3,4,10,55,56,57] (Or.inr (by simp)) ?_;simp only[zP,Nat.reduceEqDiff,reduceIte];refine gR fun K hK=>?_;simp -dsimp [wi];apply hK;clear hK K;simp only[zT,reduceIte,Nat.reduceEqDiff];refine⟨i+1,⟨by omega,?_⟩,by omega,m8 (e8 [some 0,some 1,some 2] rfl (by simp) (by simp[List.take_add_one,hf])) (by simp)⟩;simp only[a1V,i2,hf,hfd,hc4];rfl
   ·skip
    try simp at hc3
    refine i6 ?_;simp only[zT,reduceIte,Nat.reduceEqDiff];refine hK5 _ _ ?_;refine b7 [3,4] (Or.inr (by simp)) ?_;simp only[zP,Nat.reduceEqDiff,reduceIte];refine s4 l6 rfl (by decide) rfl rfl fun K hK=>?_;simp -dsimp;refine d6 _ (v7 s.Feeds (by omega)) (by simp) ?_;simp -dsimp;refine d6 _ (v7 s.Wires (by omega)) (by simp) ?_;simp -dsimp;refine hK _ _ _ (by decide+kernel) ?_;clear hK K;exact k7 ⟨[some 3],rfl,by simp,by simp[hne],by simp,by simp[y8,n5]⟩
theorem a7H (g:Gr) (s:Sta) (l:List Ld) (hf:w9 g s l=true) (hlo:G2 g s=false) (h:y2 g s.Wires l) (hne:s.Feeds=[]) (Z:SS) (hZ:t5 g s.Wires l s.Feeds=Z):
  d5 Try.prog 27 [g.av,s.av,lL l] (.tup [.agg (a7p g s.Wires l Z).cells,I 0]):=by
 have hll:=h.ll;have hnt:=z9 hf;have hb:=b6i g s l (by omega) hf hne;have hlg:=a0X g s hnt (h.few _);rw[hlo]at hlg;change d5 _ _ [.iptr [I g.Nodes, .lst 4 (g.Wires.map Wr.cells), .lst 4 (g.Feeds.map Fd.cells),I g.Least,bL s.Feeds,bL s.Wires]] _ at hlg;rw[hne]at hlg;have hst:=a3i g s.Wires l s.Feeds h hnt.sf hne Z hZ;have hzf:Z.fe=[]:=by
  have:=(a2Y h (n:=a4s (z0 l s.Feeds)) (b3r h (fe:=s.Feeds) hnt.sf)).fe;have e:(F0 g s.Wires l (a4s (z0 l s.Feeds)) (z0 l s.Feeds))=Z:=hZ;rw[e,←hnt.sf,hne]at this;exact List.length_eq_zero_iff.1 this
 refine d5.of_bodyG Try.func27 rfl (by decide) (by simp[Try.ntmps27]) ?_;intro J hJ;simp only[Try.ntmps27,Try.results27];refine gS fun K hK=>?_;simp -dsimp;apply hK;clear hK K;refine gS fun K hK=>?_;simp -dsimp;refine k8 [] [] [none,none,none,some 0] (hb) (by decide) rfl (by simp) (by simp) rfl (by simp) ?_;simp -dsimp;apply hK;clear hK K;refine b9 fun K1 hK1=>?_;refine d7 ?_;refine gS fun K hK=>?_;simp -dsimp;apply hK;clear hK K;refine d8 rfl (fun hc0=>?_) (fun hc0=>?_)
 ·simp at hc0
 ·refine gS fun K hK=>?_;simp -dsimp;refine d6 _ (hlg) (by simp) ?_;simp -dsimp;apply hK;clear hK K;refine d8 rfl (fun hc1=>?_) (fun hc1=>?_)
  ·simp at hc1
  ·refine e9 ?_;simp only[zT,reduceIte,Nat.reduceEqDiff];refine hK1 _ _ ?_;refine b7 [2,6,8] (Or.inr (by simp)) ?_;simp only[zP,Nat.reduceEqDiff,reduceIte];refine gS fun K hK=>?_;simp -dsimp;refine k8 [3] [] [none,none,none,some 0,some 1,some 2,some 3] (hst) (by decide) rfl (by simp) (by simp) rfl (by simp) ?_;simp -dsimp;apply hK;clear hK K;refine s4 l6 rfl (by decide) rfl rfl fun K hK=>?_;simp -dsimp;refine hK _ _ _ (by decide+kernel) ?_;clear hK K;exact k7 (by simp[a7p,hzf,y8,n5])
end Go.Cur
end
