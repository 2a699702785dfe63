import Derived.Test.YtibddmpaklcleaaM5
set_option maxRecDepth 100000
set_option maxHeartbeats 8000000
set_option linter.unusedVariables false
set_option linter.unusedSimpArgs false
section
namespace Go.Cur
open Go.AM Go.Proofs
def q9 (wi:List Bool) (ws:List Int):List Bool:=ws.foldl (fun b w=>b.set w.toNat true) wi
theorem a0x {wi:List Bool} {ws:List Int} {k:Nat} {w:Int} (h:ws[k]?=some w):q9 wi (ws.take (k+1))=(q9 wi (ws.take k)).set w.toNat true:=by
 unfold q9;rw[List.take_add_one,h,List.foldl_append];rfl
theorem E3:∀(ws:List Int) (wi:List Bool),(q9 wi ws).length=wi.length
 |[],wi=>rfl
 |w::ws,wi=>by
  have:=E3 ws (wi.set w.toNat true);unfold q9 at this ⊢;rw[List.foldl_cons,this,List.length_set]
def rlB (g:Gr) (s:Sta) (ws:List Int) (l:List Ld):Bool:=decide ((t5 g (q9 s.Wires ws) l s.Feeds).cuts.length=0)
theorem a5R (c:List Cu):((c.length:Int)==0)=decide (c=[]):=by
 cases c with
 |nil=>rfl
 |cons a t=>
  have:¬((a::t).length:Int)=0:=by simp only[List.length_cons];omega
  rw[beq_eq_false_iff_ne.2 this];simp
theorem a1T {g:Gr} {wi:List Bool} {l:List Ld} (h:y2 g wi l) (fe:List Bool):G2 g ⟨fe,wi⟩=false:=by
 unfold G2;rw[List.any_eq_false];intro p hp;have:=h.p5' fe p hp;simp;omega
theorem a7N (g:Gr) (s:Sta) (ws:List Int) (l:List Ld) (hnt:o8 g s) (hw:∀w∈ws,0≤w∧w<s.Wires.length) (h:y2 g (q9 s.Wires ws) l) (hwl:ws.length≤1000) (hne:s.Feeds≠[]) (hwn:s.Wires≠[]):
  d5 Try.prog 60 [net g s,iL ws,lL l] (Bo (rlB g s ws l)):=by
 have hol:=E3 ws s.Wires;have hnt2:o8 g ⟨s.Feeds,q9 s.Wires ws⟩:=⟨hnt.gr,hnt.sf,by rw[hol];exact hnt.sw⟩;have hlg:=a0X g ⟨s.Feeds,q9 s.Wires ws⟩ hnt2 (h.few _);rw[a1T h]at hlg;have hbd:=r7 hnt.gr;have hsf:=hnt.sf;have hsw:=hnt.sw;have hst:=a3b g (q9 s.Wires ws) l s.Feeds h hsf _ rfl;have hrl:rlB g s ws l=decide ((t5 g (q9 s.Wires ws) l s.Feeds).cuts.length=0):=rfl;generalize t5 g (q9 s.Wires ws) l s.Feeds=Z at hst hrl;rw[hrl];have htw:List.take s.Wires.length ((q9 s.Wires ws).map i8)=(q9 s.Wires ws).map i8:=List.take_of_length_le (by simp;omega);refine d5.of_bodyG Try.func60 rfl (by decide) (by simp[Try.ntmps60]) ?_;intro J hJ;simp only[Try.ntmps60,Try.results60];refine gS fun K hK=>?_;simp -dsimp;apply hK;clear hK K;refine s4 l6 rfl (by decide) rfl rfl fun K hK=>?_;simp -dsimp;refine L6 (c1Q s.Feeds hne (by omega)) ?_;simp -dsimp;refine L6 (c1Q s.Wires hwn (by omega)) ?_;simp -dsimp;refine hK _ _ _ (by decide+kernel) ?_;clear hK K;refine b9 fun K1 hK1=>?_;refine gS fun K hK=>?_;simp -dsimp;apply hK;clear hK K;refine d7 ?_;refine b7 [2,7,29,30,31] (Or.inr (by simp)) ?_;simp only[zP,Nat.reduceEqDiff,reduceIte];refine g8 [2,7,29,30] (α:=Nat) (fun k=>[(31,I k)]) (fun k=>[some (.els 1 (s.Feeds.map i8)),some (.els 1 ((q9 s.Wires (ws.take k)).map i8)),some (.els 6 [[I g.Nodes, .lst 4 (g.Wires.map Wr.cells), .lst 4 (g.Feeds.map Fd.cells),I g.Least, .row 0 0 s.Feeds.length, .row 1 0 s.Wires.length]])]) (fun k=>k≤ws.length) (fun k=>ws.length-k) 0 ?_ ?_ ?_
 ·exact Nat.zero_le _
 ·exact m8 (e8 [some 0,some 1,some 2] rfl (by simp) (by simp[q9])) (by simp)
 rintro k k1;simp only[zP,Nat.reduceEqDiff,reduceIte];refine gS fun K hK=>?_;simp -dsimp;apply hK;clear hK K;refine b9 fun K2 hK2=>?_;refine d8 rfl (fun hc0=>?_) (fun hc0=>?_)
 ·have hkl:k<ws.length:=by simpa using hc0
  have wk:=zW k (by omega);obtain⟨w,hwk⟩:∃w,ws[k]?=some w:=⟨_,List.getElem?_eq_getElem hkl⟩;obtain⟨hw0,hw1⟩:=hw w (List.mem_of_getElem? hwk);have hos:=a0x (wi:=s.Wires) hwk;have hok:=E3 (ws.take k) s.Wires;obtain⟨wn,rfl⟩:∃wn:Nat,w=wn:=⟨w.toNat,by omega⟩;rw[Int.toNat_natCast]at hos;refine e9 ?_;simp only[zT,reduceIte,Nat.reduceEqDiff];refine hK2 _ _ ?_;refine b7 [2,7,29,30,31] (Or.inr (by simp)) ?_;simp only[zP,Nat.reduceEqDiff,reduceIte];refine b9 fun K3 hK3=>?_;refine d7 ?_;refine gS fun K hK=>?_;simp -dsimp [hwk];apply hK;clear hK K;refine gR fun K hK=>?_;simp -dsimp [hok,(by omega:wn<s.Wires.length)];apply hK;clear hK K;simp only[zT,reduceIte,Nat.reduceEqDiff];refine hK3 _ _ ?_;refine b7 [2,7,29,30,31] (Or.inr (by simp)) ?_;simp only[zP,Nat.reduceEqDiff,reduceIte];refine gR fun K hK=>?_;simp -dsimp [wk];apply hK;clear hK K;simp only[zT,reduceIte,Nat.reduceEqDiff];exact⟨k+1,by omega,by omega,m8 (e8 [some 0,some 1,some 2] rfl (by simp) (by simp[hos,List.map_set])) (by simp)⟩
 ·have hke:k=ws.length:=by have hn:¬k<ws.length:=(by simpa using hc0);omega
  subst hke;rw[List.take_of_length_le (Nat.le_refl _)];refine i6 ?_;simp only[zT,reduceIte,Nat.reduceEqDiff];refine hK1 _ _ ?_;refine b7 [2,7] (Or.inr (by simp)) ?_;simp only[zP,Nat.reduceEqDiff,reduceIte];refine o9 (m8 (B5 (T':=[(2,lL l),(7, .ptr 0 0 0)]) (H':=[hMa g s.Feeds (q9 s.Wires ws),some (.els 1 (s.Feeds.map i8))]) [some 2,some 0] rfl ⟨.inr (by simp), .inr (by simp),trivial⟩ (by simp[htw,hol])) (by simp)) ?_
  ·refine gS fun K hK=>?_;simp -dsimp;refine d6 _ (hlg) (by simp) ?_;simp -dsimp;refine k8 [0] [1] [some 0,none,some 1,some 2,some 3,some 4] (hst) (by decide) rfl (by simp) (by simp) rfl (by simp) ?_;simp -dsimp;apply hK;clear hK K;exact k7 (by simp[a5R,y8,n5])
theorem a6u (g:Gr) (s:Sta) (l:List Ld) (hnt:o8 g s) (h:y2 g s.Wires l) (hne:s.Feeds≠[]) (hwe:s.Wires=[]):
  d5 Try.prog 60 [net g s,iL [],lL l] (Bo (rlB g s [] l)):=by
 have hlg:=a0X g ⟨s.Feeds,s.Wires⟩ hnt (h.few _);rw[a1T h]at hlg;have hbd:=r7 hnt.gr;have hsf:=hnt.sf;have hsw:=hnt.sw;have hst:=a3b g s.Wires l s.Feeds h hsf _ rfl;have hrl:rlB g s [] l=decide ((t5 g s.Wires l s.Feeds).cuts.length=0):=rfl;generalize t5 g s.Wires l s.Feeds=Z at hst hrl;rw[hrl];refine d5.of_bodyG Try.func60 rfl (by decide) (by simp[Try.ntmps60]) ?_;intro J hJ;simp only[Try.ntmps60,Try.results60];refine gS fun K hK=>?_;simp -dsimp;apply hK;clear hK K;refine s4 l6 rfl (by decide) rfl rfl fun K hK=>?_;simp -dsimp;refine L6 (c1Q s.Feeds hne (by omega)) ?_;simp -dsimp;refine d6 _ (v7 s.Wires (by omega)) (by simp) ?_;simp -dsimp;refine hK _ _ _ (by decide+kernel) ?_;clear hK K;refine b9 fun K1 hK1=>?_;refine gS fun K hK=>?_;simp -dsimp;apply hK;clear hK K;refine d7 ?_;refine b7 [2,7,29,30,31] (Or.inr (by simp)) ?_;simp only[zP,Nat.reduceEqDiff,reduceIte];refine g8 [2,7,29,30] (α:=Nat) (fun k=>[(31,I 0)]) (fun k=>[some (.els 1 (s.Feeds.map i8)),some (.els 6 [[I g.Nodes, .lst 4 (g.Wires.map Wr.cells), .lst 4 (g.Feeds.map Fd.cells),I g.Least, .row 0 0 s.Feeds.length,bL s.Wires]])]) (fun k=>True) (fun k=>0) 0 ?_ ?_ ?_
 ·trivial
 ·exact m8 (e8 [some 0,some 1] rfl (by simp) (by simp)) (by simp)
 rintro k k1;simp only[zP,Nat.reduceEqDiff,reduceIte];refine gS fun K hK=>?_;simp -dsimp;apply hK;clear hK K;refine b9 fun K2 hK2=>?_;refine d8 rfl (fun hc0=>?_) (fun hc0=>?_)
 ·simp at hc0
 ·refine i6 ?_;simp only[zT,reduceIte,Nat.reduceEqDiff];refine hK1 _ _ ?_;refine b7 [2,7] (Or.inr (by simp)) ?_;simp only[zP,Nat.reduceEqDiff,reduceIte];refine o9 (m8 (e8 (T':=[(2,lL l),(7, .ptr 0 0 0)]) (H':=[hMa g s.Feeds s.Wires,some (.els 1 (s.Feeds.map i8))]) [some 1,some 0] rfl (by simp) (by simp)) (by simp)) ?_
  ·refine gS fun K hK=>?_;simp -dsimp;refine d6 _ (hlg) (by simp) ?_;simp -dsimp;refine k8 [0] [1] [some 0,none,some 1,some 2,some 3,some 4] (hst) (by decide) rfl (by simp) (by simp) rfl (by simp) ?_;simp -dsimp;apply hK;clear hK K;exact k7 (by simp[a5R,y8,n5])
theorem a7C (g:Gr) (s:Sta) (ws:List Int) (l:List Ld) (hnt:o8 g s) (hw:∀w∈ws,0≤w∧w<s.Wires.length) (h:y2 g (q9 s.Wires ws) l) (hwl:ws.length≤1000) (hne:s.Feeds=[]) (hwn:s.Wires≠[]):
  d5 Try.prog 60 [net g s,iL ws,lL l] (Bo (rlB g s ws l)):=by
 have hol:=E3 ws s.Wires;have hnt2:o8 g ⟨s.Feeds,q9 s.Wires ws⟩:=⟨hnt.gr,hnt.sf,by rw[hol];exact hnt.sw⟩;have hlg:=a0X g ⟨s.Feeds,q9 s.Wires ws⟩ hnt2 (h.few _);rw[a1T h]at hlg;have hbd:=r7 hnt.gr;have hsf:=hnt.sf;have hsw:=hnt.sw;change d5 _ _ [.iptr [I g.Nodes, .lst 4 (g.Wires.map Wr.cells), .lst 4 (g.Feeds.map Fd.cells),I g.Least,bL s.Feeds,bL (q9 s.Wires ws)]] _ at hlg;rw[hne]at hlg;have hst:=a3i g (q9 s.Wires ws) l s.Feeds h hsf hne _ rfl;have hrl:rlB g s ws l=decide ((t5 g (q9 s.Wires ws) l s.Feeds).cuts.length=0):=rfl;generalize t5 g (q9 s.Wires ws) l s.Feeds=Z at hst hrl;rw[hrl];have htw:List.take s.Wires.length ((q9 s.Wires ws).map i8)=(q9 s.Wires ws).map i8:=List.take_of_length_le (by simp;omega);refine d5.of_bodyG Try.func60 rfl (by decide) (by simp[Try.ntmps60]) ?_;intro J hJ;simp only[Try.ntmps60,Try.results60];refine gS fun K hK=>?_;simp -dsimp;apply hK;clear hK K;refine s4 l6 rfl (by decide) rfl rfl fun K hK=>?_;simp -dsimp;refine d6 _ (v7 s.Feeds (by omega)) (by simp) ?_;simp -dsimp;refine L6 (c1Q s.Wires hwn (by omega)) ?_;simp -dsimp;refine hK _ _ _ (by decide+kernel) ?_;clear hK K;refine b9 fun K1 hK1=>?_;refine gS fun K hK=>?_;simp -dsimp;apply hK;clear hK K;refine d7 ?_;refine b7 [2,7,29,30,31] (Or.inr (by simp)) ?_;simp only[zP,Nat.reduceEqDiff,reduceIte];refine g8 [2,7,29,30] (α:=Nat) (fun k=>[(31,I k)]) (fun k=>[some (.els 1 ((q9 s.Wires (ws.take k)).map i8)),some (.els 6 [[I g.Nodes, .lst 4 (g.Wires.map Wr.cells), .lst 4 (g.Feeds.map Fd.cells),I g.Least,bL s.Feeds, .row 0 0 s.Wires.length]])]) (fun k=>k≤ws.length) (fun k=>ws.length-k) 0 ?_ ?_ ?_
 ·exact Nat.zero_le _
 ·exact m8 (e8 [some 0,some 1] rfl (by simp) (by simp[q9])) (by simp)
 rintro k k1;simp only[zP,Nat.reduceEqDiff,reduceIte];refine gS fun K hK=>?_;simp -dsimp;apply hK;clear hK K;refine b9 fun K2 hK2=>?_;refine d8 rfl (fun hc0=>?_) (fun hc0=>?_)
 ·have hkl:k<ws.length:=by simpa using hc0
  have wk:=zW k (by omega);obtain⟨w,hwk⟩:∃w,ws[k]?=some w:=⟨_,List.getElem?_eq_getElem hkl⟩;obtain⟨hw0,hw1⟩:=hw w (List.mem_of_getElem? hwk);have hos:=a0x (wi:=s.Wires) hwk;have hok:=E3 (ws.take k) s.Wires;obtain⟨wn,rfl⟩:∃wn:Nat,w=wn:=⟨w.toNat,by omega⟩;rw[Int.toNat_natCast]at hos;refine e9 ?_;simp only[zT,reduceIte,Nat.reduceEqDiff];refine hK2 _ _ ?_;refine b7 [2,7,29,30,31] (Or.inr (by simp)) ?_;simp only[zP,Nat.reduceEqDiff,reduceIte];refine b9 fun K3 hK3=>?_;refine d7 ?_;refine gS fun K hK=>?_;simp -dsimp [hwk];apply hK;clear hK K;refine gR fun K hK=>?_;simp -dsimp [hok,(by omega:wn<s.Wires.length)];apply hK;clear hK K;simp only[zT,reduceIte,Nat.reduceEqDiff];refine hK3 _ _ ?_;refine b7 [2,7,29,30,31] (Or.inr (by simp)) ?_;simp only[zP,Nat.reduceEqDiff,reduceIte];refine gR fun K hK=>?_;simp -dsimp [wk];apply hK;clear hK K;simp only[zT,reduceIte,Nat.reduceEqDiff];exact⟨k+1,by omega,by omega,m8 (e8 [some 0,some 1] rfl (by simp) (by simp[hos,List.map_set])) (by simp)⟩
 ·have hke:k=ws.length:=by have hn:¬k<ws.length:=(by simpa using hc0);omega
  subst hke;rw[List.take_of_length_le (Nat.le_refl _)];refine i6 ?_;simp only[zT,reduceIte,Nat.reduceEqDiff];refine hK1 _ _ ?_;refine b7 [2,7] (Or.inr (by simp)) ?_;simp only[zP,Nat.reduceEqDiff,reduceIte];refine o9 (m8 (B5 (T':=[(2,lL l),(7, .ptr 0 0 0)]) (H':=[hMb g s.Feeds (q9 s.Wires ws)]) [some 1] rfl ⟨.inr (by simp), .inr (by simp),trivial⟩ (by simp[htw,hol,hne])) (by simp)) ?_
  ·refine gS fun K hK=>?_;simp -dsimp;refine d6 _ (hlg) (by simp) ?_;simp -dsimp;refine k8 [0] [] [some 0,some 1,some 2,some 3] (hst) (by decide) rfl (by simp) (by simp) rfl (by simp) ?_;simp -dsimp;apply hK;clear hK K;exact k7 (by simp[a5R,y8,n5])
theorem a7s (g:Gr) (s:Sta) (l:List Ld) (hnt:o8 g s) (h:y2 g s.Wires l) (hne:s.Feeds=[]) (hwe:s.Wires=[]):
  d5 Try.prog 60 [net g s,iL [],lL l] (Bo (rlB g s [] l)):=by
 have hlg:=a0X g ⟨s.Feeds,s.Wires⟩ hnt (h.few _);rw[a1T h]at hlg;have hbd:=r7 hnt.gr;have hsf:=hnt.sf;have hsw:=hnt.sw;change d5 _ _ [.iptr [I g.Nodes, .lst 4 (g.Wires.map Wr.cells), .lst 4 (g.Feeds.map Fd.cells),I g.Least,bL s.Feeds,bL s.Wires]] _ at hlg;rw[hne]at hlg;have hst:=a3i g s.Wires l s.Feeds h hsf hne _ rfl;have hrl:rlB g s [] l=decide ((t5 g s.Wires l s.Feeds).cuts.length=0):=rfl;generalize t5 g s.Wires l s.Feeds=Z at hst hrl;rw[hrl];refine d5.of_bodyG Try.func60 rfl (by decide) (by simp[Try.ntmps60]) ?_;intro J hJ;simp only[Try.ntmps60,Try.results60];refine gS fun K hK=>?_;simp -dsimp;apply hK;clear hK K;refine s4 l6 rfl (by decide) rfl rfl fun K hK=>?_;simp -dsimp;refine d6 _ (v7 s.Feeds (by omega)) (by simp) ?_;simp -dsimp;refine d6 _ (v7 s.Wires (by omega)) (by simp) ?_;simp -dsimp;refine hK _ _ _ (by decide+kernel) ?_;clear hK K;refine b9 fun K1 hK1=>?_;refine gS fun K hK=>?_;simp -dsimp;apply hK;clear hK K;refine d7 ?_;refine b7 [2,7,29,30,31] (Or.inr (by simp)) ?_;simp only[zP,Nat.reduceEqDiff,reduceIte];refine g8 [2,7,29,30] (α:=Nat) (fun k=>[(31,I 0)]) (fun k=>[some (.els 6 [[I g.Nodes, .lst 4 (g.Wires.map Wr.cells), .lst 4 (g.Feeds.map Fd.cells),I g.Least,bL s.Feeds,bL s.Wires]])]) (fun k=>True) (fun k=>0) 0 ?_ ?_ ?_
 ·trivial
 ·exact m8 (e8 [some 0] rfl (by simp) (by simp)) (by simp)
 rintro k k1;simp only[zP,Nat.reduceEqDiff,reduceIte];refine gS fun K hK=>?_;simp -dsimp;apply hK;clear hK K;refine b9 fun K2 hK2=>?_;refine d8 rfl (fun hc0=>?_) (fun hc0=>?_)
 ·simp at hc0
 ·refine i6 ?_;simp only[zT,reduceIte,Nat.reduceEqDiff];refine hK1 _ _ ?_;refine b7 [2,7] (Or.inr (by simp)) ?_;simp only[zP,Nat.reduceEqDiff,reduceIte];refine o9 (m8 (e8 (T':=[(2,lL l),(7, .ptr 0 0 0)]) (H':=[hMb g s.Feeds s.Wires]) [some 0] rfl (by simp) (by simp[hne])) (by simp)) ?_
  ·refine gS fun K hK=>?_;simp -dsimp;refine d6 _ (hlg) (by simp) ?_;simp -dsimp;refine k8 [0] [] [some 0,some 1,some 2,some 3] (hst) (by decide) rfl (by simp) (by simp) rfl (by simp) ?_;simp -dsimp;apply hK;clear hK K;exact k7 (by simp[a5R,y8,n5])
end Go.Cur
end
section
namespace Go.Cur
open Go.AM Go.Proofs
theorem b7j (g:Gr) (s:Sta) (ws:List Int) (l:List Ld) (hnt:o8 g s) (hw:∀w∈ws,0≤w∧w<s.Wires.length) (h:y2 g (q9 s.Wires ws) l) (hwl:ws.length≤1000):
  d5 Try.prog 60 [net g s,iL ws,lL l] (Bo (rlB g s ws l)):=by
 by_cases hwn:s.Wires=[]
 ·have hws:ws=[]:=by
   cases ws with
   |nil=>rfl
   |cons w ws=>
    have:=hw w (by simp);rw[hwn]at this;simp at this;omega
  subst hws
  by_cases hf:s.Feeds=[]
  ·exact a7s g s l hnt h hf hwn
  ·exact a6u g s l hnt h hf hwn
 ·by_cases hf:s.Feeds=[]
  ·exact a7C g s ws l hnt hw h hwl hf hwn
  ·exact a7N g s ws l hnt hw h hwl hf hwn
def fA:Option (List Int)→AV
 |none=> .v (.slice none 0 0)
 |some c=>iL c
@[simp] theorem c3x (g:List (Option Nat)) (k:Nat) (o:Option (List Int)):n0 g k (fA o)=fA o:=by
 cases o<;>cases k<;>rfl
@[simp] theorem c2v (k:Nat) (o:Option (List Int)):AV.noRef k (fA o)=true:=by
 cases o<;>cases k<;>rfl
theorem c0p (c:List Int):fA (some c)=iL c:=rfl
theorem b3d:fA none= .v (.slice none 0 0):=rfl
def chA (c:List Int):Option (List Int):=if c=[]then none else some c
def chF (rl:List Int→Bool):Nat→List Int→List Int→Option (List Int)→Bool×Option (List Int)
 |0,c,_,_=>(rl c,chA c)
 |d+1,c,r,f=>(List.range r.length).foldl (fun q i=>if q.1=true then q else chF rl d (c++[at0 r (i:Nat)]) (r.drop (i+1)) q.2) (false,f)
def chS (rl:List Int→Bool) (d:Nat) (c r:List Int) (q:Bool×Option (List Int)) (i:Nat):Bool×Option (List Int):=if q.1=true then q else chF rl d (c++[at0 r (i:Nat)]) (r.drop (i+1)) q.2
theorem a4Q (rl:List Int→Bool) (d:Nat) (c r:List Int) (f:Option (List Int)):chF rl (d+1) c r f=(List.range r.length).foldl (chS rl d c r) (false,f):=rfl
theorem a5c (rl:List Int→Bool) (d:Nat) (c r:List Int) (q:Bool×Option (List Int)) (hq:q.1=true):∀l:List Nat,l.foldl (chS rl d c r) q=q
 |[]=>rfl
 |i::l=>by
  rw[List.foldl_cons,show chS rl d c r q i=q from if_pos hq];exact a5c rl d c r q hq l
theorem Y9 {α:Type} (f:α→Nat→α) (x:α) {i n:Nat} (h:i≤n):(List.range n).foldl f x=((List.range (n-i)).map (fun j=>i+j)).foldl f ((List.range i).foldl f x):=by
 rw[←List.foldl_append]
 congr 1
 rw[show n=i+(n-i)by omega,List.range_add];simp
abbrev chR (g:Gr) (s:Sta) (l:List Ld) (f:Option (List Int)):Hp:=[some (.els 1 [[fA f]]),some (.els 1 [[net g s]]),some (.els 1 [[lL l]]),some (.els 1 [[.clo 59 [.ptr 0 0 0, .ptr 1 0 0, .ptr 2 0 0, .ptr 3 0 0]]])]
theorem c3j (t:List Int) (hne:t≠[]) (hn:t.length≤1000):g6 Try.prog 61 [iL t] [] [] (.row 0 0 t.length) [] [some (.els 1 (t.map i9))]:=by
 have f1:C7 t.length 9:=k9 (by omega) (by omega);refine g6.of_bodyG [] Try.func61 rfl (by decide) (by simp[Try.ntmps61]) rfl rfl ?_;intro J hJ;simp only[Try.ntmps61,Try.results61];refine gS fun K hK=>?_;simp -dsimp;apply hK;clear hK K;refine b9 fun K1 hK1=>?_;refine gS fun K hK=>?_;simp -dsimp [hne];apply hK;clear hK K;refine d8 rfl (fun hc0=>?_) (fun hc0=>?_)
 ·simp at hc0
 ·refine e9 ?_;simp only[zT,reduceIte,Nat.reduceEqDiff];refine hK1 _ _ ?_;refine b7 [0] (Or.inr (by simp)) ?_;simp only[zP,Nat.reduceEqDiff,reduceIte];refine gS fun K hK=>?_;simp -dsimp [hne,f1];apply hK;clear hK K;exact k7 ⟨[some 0],rfl,by simp,by simp,by simp,by simp[y8,n5]⟩
theorem b4x (g:Gr) (s:Sta) (l:List Ld) (rl:List Int→Bool) (c r:List Int) (f:Option (List Int)) (hc:c≠[]) (hrl:d5 Try.prog 60 [net g s,iL c,lL l] (Bo (rl c))):
  g6 Try.prog 59 [.row 4 0 c.length,iL r,I 0, .ptr 0 0 0, .ptr 1 0 0, .ptr 2 0 0, .ptr 3 0 0] (chR g s l f) [some (.els 1 (c.map i9))] (Bo (rl c)) (chR g s l (some c)) []:=by
 have htc:List.take c.length (c.map i9)=c.map i9:=List.take_of_length_le (by simp);refine g6.of_bodyG [3,4,5,6] Try.func59 rfl (by decide) (by simp[Try.ntmps59]) rfl rfl ?_;intro J hJ;simp only[Try.ntmps59,Try.results59];refine gS fun K hK=>?_;simp -dsimp;apply hK;clear hK K;refine b9 fun K1 hK1=>?_;refine gS fun K hK=>?_;simp -dsimp;apply hK;clear hK K;refine d8 rfl (fun hc0=>?_) (fun hc0=>?_)
 ·refine gS fun K hK=>?_;simp -dsimp;apply hK;clear hK K;refine gS fun K hK=>?_;simp -dsimp [htc];refine d6 _ (hrl) (by simp) ?_;simp -dsimp [htc];apply hK;clear hK K;refine o9 (m8 (B5 (T':=[(3, .ptr 0 0 0),(4, .ptr 1 0 0),(5, .ptr 2 0 0),(6, .ptr 3 0 0),(10,Bo (rl c))]) (H':=chR g s l (some c)) [some 0,some 1,some 2,some 3] rfl ⟨.inr (by simp), .inr (by simp), .inr (by simp), .inr (by simp), .inr (by simp),trivial⟩ (by simp[htc,c0p])) (by simp)) ?_;exact k7 ⟨[some 0,some 1,some 2,some 3],rfl,by simp,by simp,by simp,by simp[y8,n5]⟩
 ·simp at hc0
theorem b0S (g:Gr) (s:Sta) (l:List Ld) (rl:List Int→Bool) (r:List Int) (f:Option (List Int)) (hrl:d5 Try.prog 60 [net g s, .v (.slice none 0 0),lL l] (Bo (rl []))):
  g6 Try.prog 59 [.v (.slice none 0 0),iL r,I 0, .ptr 0 0 0, .ptr 1 0 0, .ptr 2 0 0, .ptr 3 0 0] (chR g s l f) [] (Bo (rl [])) (chR g s l none) []:=by
 refine g6.of_bodyG [3,4,5,6] Try.func59 rfl (by decide) (by simp[Try.ntmps59]) rfl rfl ?_;intro J hJ;simp only[Try.ntmps59,Try.results59];refine gS fun K hK=>?_;simp -dsimp;apply hK;clear hK K;refine b9 fun K1 hK1=>?_;refine gS fun K hK=>?_;simp -dsimp;apply hK;clear hK K;refine d8 rfl (fun hc0=>?_) (fun hc0=>?_)
 ·refine gS fun K hK=>?_;simp -dsimp;apply hK;clear hK K;refine gS fun K hK=>?_;simp -dsimp;refine d6 _ (hrl) (by simp) ?_;simp -dsimp;apply hK;clear hK K;exact k7 ⟨[some 0,some 1,some 2,some 3],rfl,by simp,by simp[b3d],by simp,by simp[y8,n5]⟩
 ·simp at hc0
theorem b3i (g:Gr) (s:Sta) (l:List Ld) (rl:List Int→Bool) (d:Nat) (c r:List Int) (f:Option (List Int)) (hd:d≤100) (hc:c≠[]) (hcl:c.length≤900) (hr:r.length≤1000)
  (hb:∀(i:Nat) (f:Option (List Int)),i<r.length→g6 Try.prog 59 [.row 4 0 (c++[at0 r i]).length,iL (r.drop (i+1)),I d, .ptr 0 0 0, .ptr 1 0 0, .ptr 2 0 0, .ptr 3 0 0] (chR g s l f) [some (.els 1 ((c++[at0 r i]).map i9))] (Bo (chF rl d (c++[at0 r i]) (r.drop (i+1)) f).1) (chR g s l (chF rl d (c++[at0 r i]) (r.drop (i+1)) f).2) []):
  g6 Try.prog 59 [.row 4 0 c.length,iL r,I (d+1:Nat), .ptr 0 0 0, .ptr 1 0 0, .ptr 2 0 0, .ptr 3 0 0] (chR g s l f) [some (.els 1 (c.map i9))] (Bo (chF rl (d+1) c r f).1) (chR g s l (chF rl (d+1) c r f).2) []:=by
 have htc:List.take c.length (c.map i9)=c.map i9:=List.take_of_length_le (by simp);have f1:C7 (c.length+1) 9:=k9 (by omega) (by omega);rw[a4Q];refine g6.of_bodyG [3,4,5,6] Try.func59 rfl (by decide) (by simp[Try.ntmps59]) rfl rfl ?_;intro J hJ;simp only[Try.ntmps59,Try.results59];refine gS fun K hK=>?_;simp -dsimp;apply hK;clear hK K;refine b9 fun K1 hK1=>?_;refine gS fun K hK=>?_;simp -dsimp;apply hK;clear hK K;refine d8 rfl (fun hc0=>?_) (fun hc0=>?_)
 ·exfalso;simp at hc0;omega
 ·refine e9 ?_;simp only[zT,reduceIte,Nat.reduceEqDiff];refine hK1 _ _ ?_;refine b7 [0,1,2,3,4,5,6] (Or.inr (by simp)) ?_;simp only[zP,Nat.reduceEqDiff,reduceIte];refine b9 fun K2 hK2=>?_;refine gS fun K hK=>?_;simp -dsimp;apply hK;clear hK K;refine d7 ?_;refine b7 [0,1,2,3,4,5,6,20,21,22] (Or.inr (by simp)) ?_;simp only[zP,Nat.reduceEqDiff,reduceIte];refine g8 [0,1,2,3,4,5,6,20,21] (α:=Nat×Option (List Int)) (fun x=>[(22,I x.1)]) (fun x=>chR g s l x.2++[some (.els 1 (c.map i9))]) (fun x=>x.1≤r.length∧(List.range x.1).foldl (chS rl d c r) (false,f)=(false,x.2)) (fun x=>r.length-x.1) (0,f) ?_ ?_ ?_
  ·exact⟨Nat.zero_le _,rfl⟩
  ·exact m8 (e8 [some 0,some 1,some 2,some 3,some 4] rfl (by simp) (by simp)) (by simp)
  rintro⟨i,fi⟩ ⟨k1,k2⟩;simp only at k1 k2 ⊢;simp only[zP,Nat.reduceEqDiff,reduceIte];refine gS fun K hK=>?_;simp -dsimp;apply hK;clear hK K;refine b9 fun K3 hK3=>?_;refine d8 rfl (fun hc1=>?_) (fun hc1=>?_)
  ·have hil:i<r.length:=by simpa using hc1
   have wi:=zW i (by omega);have wd:IntKind.i64.wrap (d:Int)=(d:Int):=i7 (by omega) (by omega);have gr:=B9 hil;have hcall:=hb i fi hil;have hst:(List.range (i+1)).foldl (chS rl d c r) (false,f)=chF rl d (c++[at0 r i]) (r.drop (i+1)) fi:=by rw[List.range_succ,List.foldl_append,k2];rfl
   generalize chF rl d (c++[at0 r i]) (r.drop (i+1)) fi=q at hcall hst;refine e9 ?_;simp only[zT,reduceIte,Nat.reduceEqDiff];refine hK3 _ _ ?_;refine b7 [0,1,2,3,4,5,6,20,21,22] (Or.inr (by simp)) ?_;simp only[zP,Nat.reduceEqDiff,reduceIte];refine b9 fun K4 hK4=>?_;refine d7 ?_;refine gS fun K hK=>?_;simp -dsimp [gr];apply hK;clear hK K;refine s4 l6 rfl (by decide) rfl rfl fun K hK=>?_;simp -dsimp [htc,wi,wd,f1,(by omega:(0:Int)≤(i:Int)+1),(by omega:i+1≤r.length)];refine D6 [] [] [none,none,none,none,none,some 0] (c3j c hc (by omega)) (by decide) rfl (by simp) (by simp) rfl (by simp) (by simp) (by simp) ?_;simp -dsimp [htc,wi,wd,f1,(by omega:(0:Int)≤(i:Int)+1),(by omega:i+1≤r.length)];refine k8 [0,1,2,3] [6] [some 0,some 1,some 2,some 3,none,none,none] (hcall) (by decide) rfl (by simp) (by simp) rfl (by simp) ?_;simp -dsimp [htc,wi,wd,f1,(by omega:(0:Int)≤(i:Int)+1),(by omega:i+1≤r.length)];refine hK _ _ _ (by decide+kernel) ?_;clear hK K;refine d8 rfl (fun hc2=>?_) (fun hc2=>?_)
   ·refine gS fun K hK=>?_;simp -dsimp;apply hK;clear hK K;have hfin:(List.range r.length).foldl (chS rl d c r) (false,f)=q:=by rw[Y9 _ _ (show i+1≤r.length by omega),hst];exact a5c _ _ _ _ _ hc2 _
    rw[hfin];exact k7 ⟨[some 0,some 1,some 2,some 3],rfl,by simp,by simp,by simp,by simp[y8,n5,hc2]⟩
   ·refine e9 ?_;simp only[zT,reduceIte,Nat.reduceEqDiff];refine hK4 _ _ ?_;refine b7 [0,1,2,3,4,5,6,20,21,22] (Or.inr (by simp)) ?_;simp only[zP,Nat.reduceEqDiff,reduceIte];refine gR fun K hK=>?_;simp -dsimp [wi];apply hK;clear hK K;simp only[zT,reduceIte,Nat.reduceEqDiff];exact⟨(i+1,q.2),⟨by simp only;omega,by rw[hst];exact Prod.ext hc2 rfl⟩,by simp only;omega,m8 (e8 [some 0,some 1,some 2,some 3,some 4] rfl (by simp) (by simp)) (by simp)⟩
  ·have hie:i=r.length:=by have hn:¬i<r.length:=(by simpa using hc1);omega
   subst hie;refine i6 ?_;simp only[zT,reduceIte,Nat.reduceEqDiff];refine hK2 _ _ ?_;refine b7 [3,4,5,6] (Or.inr (by simp)) ?_;simp only[zP,Nat.reduceEqDiff,reduceIte];refine gS fun K hK=>?_;simp -dsimp;apply hK;clear hK K;rw[k2];exact k7 ⟨[some 0,some 1,some 2,some 3],rfl,by simp,by simp,by simp,by simp[y8,n5]⟩
theorem a8q:d5 Try.prog 61 [.v (.slice none 0 0)] (.v (.slice none 0 0)):=by
 refine d5.of_body Try.func61 rfl (by decide) (by simp[Try.ntmps61]) ?_;simp only[Try.ntmps61,Try.results61];refine aS fun K hK=>?_;simp -dsimp;apply hK;clear hK K;refine d4 fun K1 hK1=>?_;refine aS fun K hK=>?_;simp -dsimp;apply hK;clear hK K;refine d9 rfl (fun hc0=>?_) (fun hc0=>?_)
 ·refine aS fun K hK=>?_;simp -dsimp;apply hK;clear hK K;exact g7 (by simp)
 ·simp at hc0
theorem b0G (g:Gr) (s:Sta) (l:List Ld) (rl:List Int→Bool) (d:Nat) (r:List Int) (f:Option (List Int)) (hd:d≤100) (hr:r.length≤1000)
  (hb:∀(i:Nat) (f:Option (List Int)),i<r.length→g6 Try.prog 59 [.row 4 0 [at0 r i].length,iL (r.drop (i+1)),I d, .ptr 0 0 0, .ptr 1 0 0, .ptr 2 0 0, .ptr 3 0 0] (chR g s l f) [some (.els 1 ([at0 r i].map i9))] (Bo (chF rl d [at0 r i] (r.drop (i+1)) f).1) (chR g s l (chF rl d [at0 r i] (r.drop (i+1)) f).2) []):
  g6 Try.prog 59 [.v (.slice none 0 0),iL r,I (d+1:Nat), .ptr 0 0 0, .ptr 1 0 0, .ptr 2 0 0, .ptr 3 0 0] (chR g s l f) [] (Bo (chF rl (d+1) [] r f).1) (chR g s l (chF rl (d+1) [] r f).2) []:=by
 have f1:C7 1 9:=k9 (by omega) (by omega);rw[a4Q];refine g6.of_bodyG [3,4,5,6] Try.func59 rfl (by decide) (by simp[Try.ntmps59]) rfl rfl ?_;intro J hJ;simp only[Try.ntmps59,Try.results59];refine gS fun K hK=>?_;simp -dsimp;apply hK;clear hK K;refine b9 fun K1 hK1=>?_;refine gS fun K hK=>?_;simp -dsimp;apply hK;clear hK K;refine d8 rfl (fun hc0=>?_) (fun hc0=>?_)
 ·exfalso;simp at hc0;omega
 ·refine e9 ?_;simp only[zT,reduceIte,Nat.reduceEqDiff];refine hK1 _ _ ?_;refine b7 [0,1,2,3,4,5,6] (Or.inr (by simp)) ?_;simp only[zP,Nat.reduceEqDiff,reduceIte];refine b9 fun K2 hK2=>?_;refine gS fun K hK=>?_;simp -dsimp;apply hK;clear hK K;refine d7 ?_;refine b7 [0,1,2,3,4,5,6,20,21,22] (Or.inr (by simp)) ?_;simp only[zP,Nat.reduceEqDiff,reduceIte];refine g8 [0,1,2,3,4,5,6,20,21] (α:=Nat×Option (List Int)) (fun x=>[(22,I x.1)]) (fun x=>chR g s l x.2) (fun x=>x.1≤r.length∧(List.range x.1).foldl (chS rl d [] r) (false,f)=(false,x.2)) (fun x=>r.length-x.1) (0,f) ?_ ?_ ?_
  ·exact⟨Nat.zero_le _,rfl⟩
  ·exact m8 (e8 [some 0,some 1,some 2,some 3] rfl (by simp) (by simp)) (by simp)
  rintro⟨i,fi⟩ ⟨k1,k2⟩;simp only at k1 k2 ⊢;simp only[zP,Nat.reduceEqDiff,reduceIte];refine gS fun K hK=>?_;simp -dsimp;apply hK;clear hK K;refine b9 fun K3 hK3=>?_;refine d8 rfl (fun hc1=>?_) (fun hc1=>?_)
  ·have hil:i<r.length:=by simpa using hc1
   have wi:=zW i (by omega);have wd:IntKind.i64.wrap (d:Int)=(d:Int):=i7 (by omega) (by omega);have gr:=B9 hil;have hcall:=hb i fi hil;have hst:(List.range (i+1)).foldl (chS rl d [] r) (false,f)=chF rl d [at0 r i] (r.drop (i+1)) fi:=by rw[List.range_succ,List.foldl_append,k2];rfl
   generalize chF rl d [at0 r i] (r.drop (i+1)) fi=q at hcall hst;refine e9 ?_;simp only[zT,reduceIte,Nat.reduceEqDiff];refine hK3 _ _ ?_;refine b7 [0,1,2,3,4,5,6,20,21,22] (Or.inr (by simp)) ?_;simp only[zP,Nat.reduceEqDiff,reduceIte];refine b9 fun K4 hK4=>?_;refine d7 ?_;refine gS fun K hK=>?_;simp -dsimp [gr];apply hK;clear hK K;refine s4 l6 rfl (by decide) rfl rfl fun K hK=>?_;simp -dsimp [wi,wd,(by omega:(0:Int)≤(i:Int)+1),(by omega:i+1≤r.length),f1];refine d6 _ (a8q) (by simp) ?_;simp -dsimp [wi,wd,(by omega:(0:Int)≤(i:Int)+1),(by omega:i+1≤r.length),f1];refine k8 [0,1,2,3] [4] [some 0,some 1,some 2,some 3,none] (hcall) (by decide) rfl (by simp) (by simp) rfl (by simp) ?_;simp -dsimp [wi,wd,(by omega:(0:Int)≤(i:Int)+1),(by omega:i+1≤r.length),f1];refine hK _ _ _ (by decide+kernel) ?_;clear hK K;refine d8 rfl (fun hc2=>?_) (fun hc2=>?_)
   ·refine gS fun K hK=>?_;simp -dsimp;apply hK;clear hK K;have hfin:(List.range r.length).foldl (chS rl d [] r) (false,f)=q:=by rw[Y9 _ _ (show i+1≤r.length by omega),hst];exact a5c _ _ _ _ _ hc2 _
    rw[hfin];exact k7 ⟨[some 0,some 1,some 2,some 3],rfl,by simp,by simp,by simp,by simp[y8,n5,hc2]⟩
   ·refine e9 ?_;simp only[zT,reduceIte,Nat.reduceEqDiff];refine hK4 _ _ ?_;refine b7 [0,1,2,3,4,5,6,20,21,22] (Or.inr (by simp)) ?_;simp only[zP,Nat.reduceEqDiff,reduceIte];refine gR fun K hK=>?_;simp -dsimp [wi];apply hK;clear hK K;simp only[zT,reduceIte,Nat.reduceEqDiff];exact⟨(i+1,q.2),⟨by simp only;omega,by rw[hst];exact Prod.ext hc2 rfl⟩,by simp only;omega,m8 (e8 [some 0,some 1,some 2,some 3] rfl (by simp) (by simp)) (by simp)⟩
  ·have hie:i=r.length:=by have hn:¬i<r.length:=(by simpa using hc1);omega
   subst hie;refine i6 ?_;simp only[zT,reduceIte,Nat.reduceEqDiff];refine hK2 _ _ ?_;refine b7 [3,4,5,6] (Or.inr (by simp)) ?_;simp only[zP,Nat.reduceEqDiff,reduceIte];refine gS fun K hK=>?_;simp -dsimp;apply hK;clear hK K;rw[k2];exact k7 ⟨[some 0,some 1,some 2,some 3],rfl,by simp,by simp,by simp,by simp[y8,n5]⟩
theorem c3A (g:Gr) (s:Sta) (l:List Ld) (rl:List Int→Bool) (off:List Int) (hol:off.length≤6) (hrl:∀c:List Int,(∀x∈c,x∈off)→c.length≤900→d5 Try.prog 60 [net g s,iL c,lL l] (Bo (rl c))):
  ∀(d:Nat) (c r:List Int) (f:Option (List Int)),c≠[]→(∀x∈c,x∈off)→(∀x∈r,x∈off)→r.length≤6→c.length+d≤100→
   g6 Try.prog 59 [.row 4 0 c.length,iL r,I d, .ptr 0 0 0, .ptr 1 0 0, .ptr 2 0 0, .ptr 3 0 0] (chR g s l f) [some (.els 1 (c.map i9))] (Bo (chF rl d c r f).1) (chR g s l (chF rl d c r f).2) []
 |0,c,r,f,hc,hco,hro,hr,hcd=>by
  have e:chA c=some c:=if_neg hc;show g6 _ _ _ _ _ (Bo (rl c)) (chR g s l (chA c)) [];rw[e];exact b4x g s l rl c r f hc (hrl c hco (by omega))
 |d+1,c,r,f,hc,hco,hro,hr,hcd=>by
  refine b3i g s l rl d c r f (by omega) hc (by omega) (by omega) fun i f' hi=>?_;refine c3A g s l rl off hol hrl d (c++[at0 r i]) (r.drop (i+1)) f' (by simp) (fun x hx=>?_) (fun x hx=>hro x (List.mem_of_mem_drop hx)) (by simp;omega) (by simp;omega)
  rcases List.mem_append.1 hx with h|h
  ·exact hco x h
  ·rw[List.mem_singleton.1 h];exact hro _ (List.mem_of_getElem? (B9 hi))
theorem c3c (g:Gr) (s:Sta) (l:List Ld) (rl:List Int→Bool) (off:List Int) (hol:off.length≤6) (hrl:∀c:List Int,(∀x∈c,x∈off)→c.length≤900→d5 Try.prog 60 [net g s,iL c,lL l] (Bo (rl c))) (d:Nat) (f:Option (List Int)) (hd:d≤6):
  g6 Try.prog 59 [.v (.slice none 0 0),iL off,I d, .ptr 0 0 0, .ptr 1 0 0, .ptr 2 0 0, .ptr 3 0 0] (chR g s l f) [] (Bo (chF rl d [] off f).1) (chR g s l (chF rl d [] off f).2) []:=by
 cases d with
 | zero=>
  refine b0S g s l rl off f ?_;refine d5.argR (hrl [] (by simp) (by simp)) rfl fun i c c' h1 h2 w S y h=>?_
  match i,h1,h2 with
  |0,h1,h2=>
   simp only[List.getElem?_cons_zero,Option.some.injEq]at h1 h2;rw[←h2,h1];exact h
  |1,h1,h2=>
   simp only[List.getElem?_cons_succ,List.getElem?_cons_zero,Option.some.injEq]at h1 h2;rw[←h2];rw[←h1]at h;exact a5u h
  |2,h1,h2=>
   simp only[List.getElem?_cons_succ,List.getElem?_cons_zero,Option.some.injEq]at h1 h2;rw[←h2,h1];exact h
  |i+3,h1,h2=>simp at h1
 |succ d=>
  refine b0G g s l rl d off f (by omega) (by omega) fun i f' hi=>?_;refine c3A g s l rl off hol hrl d [at0 off i] (off.drop (i+1)) f' (by simp) (fun x hx=>?_) (fun x hx=>List.mem_of_mem_drop hx) (by simp;omega) (by simp;omega);rw[List.mem_singleton.1 hx];exact List.mem_of_getElem? (B9 hi)
def c0D (wi:List Bool) (s:List Int) (i:Nat):List Int:=if bAt wi i=true then s else s++[(i:Int)]
def a1C (wi:List Bool) (n:Nat):List Int:=(List.range n).foldl (c0D wi) []
theorem W5 (wi:List Bool) (n:Nat):a1C wi (n+1)=c0D wi (a1C wi n) n:=by
 unfold a1C;rw[List.range_succ,List.foldl_append];rfl
theorem a1D (wi:List Bool):∀n,(a1C wi n).length≤n
 |0=>by simp[a1C]
 |n+1=>by
  have:=a1D wi n;rw[W5];unfold c0D
  split
  ·omega
  ·simp;omega
theorem R2 (wi:List Bool) {x:Int}:∀{n:Nat},x∈a1C wi n→0≤x∧x<n
 |0,h=>by simp[a1C]at h
 | n+1,h=>by
  rw[W5]at h;unfold c0D at h
  split at h
  ·have:=R2 wi h;omega
  ·rcases List.mem_append.1 h with h|h
   ·have:=R2 wi h;omega
   ·rw[List.mem_singleton.1 h];omega
def b6C (rl:List Int→Bool) (off:List Int) (q:Bool×Option (List Int)) (k:Nat):Bool×Option (List Int):=if q.1=true then q else chF rl k [] off q.2
def b4B (rl:List Int→Bool) (off:List Int):Bool×Option (List Int):=(List.range (off.length+1)).foldl (b6C rl off) (false,none)
theorem a3l (rl:List Int→Bool) (off:List Int) (q:Bool×Option (List Int)) (hq:q.1=true):∀l:List Nat,l.foldl (b6C rl off) q=q
 |[]=>rfl
 |i::l=>by
  rw[List.foldl_cons,show b6C rl off q i=q from if_pos hq];exact a3l rl off q hq l
theorem b1i (g:Gr) (s:Sta) (l:List Ld) (hl:l.length≤1000) (hf:w9 g s l=false):d5 Try.prog 35 [g.av,s.av,lL l] (.tup [.v (.slice none 0 0),I 2]):=by
 have hb:=a6N g s l hl hf;refine d5.of_bodyG Try.func35 rfl (by decide) (by simp[Try.ntmps35]) ?_;intro J hJ;simp only[Try.ntmps35,Try.results35];refine gS fun K hK=>?_;simp -dsimp;apply hK;clear hK K;refine gS fun K hK=>?_;simp -dsimp;refine d6 _ (hb) (by simp) ?_;simp -dsimp;apply hK;clear hK K;refine b9 fun K1 hK1=>?_;refine gS fun K hK=>?_;simp -dsimp;apply hK;clear hK K;refine d8 rfl (fun hc0=>?_) (fun hc0=>?_)
 ·refine gS fun K hK=>?_;simp -dsimp;apply hK;clear hK K;exact k7 (by simp[y8,n5])
 ·simp at hc0
theorem R3 (g:Gr) (s:Sta) (l:List Ld) (hl:l.length≤1000) (hf:w9 g s l=true) (off:List Int) (hoff:off=a1C s.Wires s.Wires.length) (rl:List Int→Bool)
  (hrl:off.length≤6→∀c:List Int,(∀x∈c,x∈off)→c.length≤900→d5 Try.prog 60 [net g s,iL c,lL l] (Bo (rl c))) (res:AV)
  (h6:6<off.length→res= .tup [.v (.slice none 0 0),I 2]) (ht:off.length≤6→(b4B rl off).1=true→res= .tup [fA (b4B rl off).2,I 0]) (hn:off.length≤6→(b4B rl off).1=false→res= .tup [.v (.slice none 0 0),I 4]):
  d5 Try.prog 35 [g.av,s.av,lL l] res:=by
 have hb:=a2a g s l hl hf;have hnt:=z9 hf;have hbd:=r7 hnt.gr;have hsw:=hnt.sw;have hlo:off.length≤s.Wires.length:=by rw[hoff];exact a1D _ _
 refine d5.of_bodyG Try.func35 rfl (by decide) (by simp[Try.ntmps35]) ?_;intro J hJ;simp only[Try.ntmps35,Try.results35];refine gS fun K hK=>?_;simp -dsimp;apply hK;clear hK K;refine gS fun K hK=>?_;simp -dsimp;refine d6 _ (hb) (by simp) ?_;simp -dsimp;apply hK;clear hK K;refine b9 fun K1 hK1=>?_;refine gS fun K hK=>?_;simp -dsimp;apply hK;clear hK K;refine d8 rfl (fun hc0=>?_) (fun hc0=>?_)
 ·simp at hc0
 ·refine e9 ?_;simp only[zT,reduceIte,Nat.reduceEqDiff];refine hK1 _ _ ?_;refine b7 [4,5,8] (Or.inr (by simp)) ?_;simp only[zP,Nat.reduceEqDiff,reduceIte];refine gS fun K hK=>?_;simp -dsimp;apply hK;clear hK K;refine b9 fun K2 hK2=>?_;refine gS fun K hK=>?_;simp -dsimp;apply hK;clear hK K;refine d7 ?_;refine b7 [5,8,10,26,27,28] (Or.inr (by simp)) ?_;simp only[zP,Nat.reduceEqDiff,reduceIte];refine g8 [5,8,26,27] (α:=Nat) (fun k=>[(10, .row 4 0 (a1C s.Wires k).length),(28,I k)]) (fun k=>[some (.els 4 [g.cells]),some (.els 2 [s.cells]),some (.els 1 [[lL l]]),some (.els 1 [[net g s]]),some (.els 1 ((a1C s.Wires k).map i9))]) (fun k=>k≤s.Wires.length) (fun k=>s.Wires.length-k) 0 ?_ ?_ ?_
  ·exact Nat.zero_le _
  ·exact m8 ((z8 10 1 (by simp)).trans (e8 [some 0,some 1,some 2,some 3,some 4] rfl (by simp[a1C]) (by simp[a1C]))) (by simp)
  rintro k k1;simp only[zP,Nat.reduceEqDiff,reduceIte];refine gS fun K hK=>?_;simp -dsimp;apply hK;clear hK K;refine b9 fun K3 hK3=>?_;refine d8 rfl (fun hc1=>?_) (fun hc1=>?_)
  ·have hkl:k<s.Wires.length:=by simpa using hc1
   have wk:=zW k (by omega);have gb:=s7 (l:=s.Wires) (k:=k) hkl;have hos:=W5 s.Wires k;unfold c0D at hos;have hol:=a1D s.Wires k;have f1:C7 ((a1C s.Wires k).length+1) 9:=k9 (by omega) (by omega);refine e9 ?_;simp only[zT,reduceIte,Nat.reduceEqDiff];refine hK3 _ _ ?_;refine b7 [5,8,10,26,27,28] (Or.inr (by simp)) ?_;simp only[zP,Nat.reduceEqDiff,reduceIte];refine b9 fun K4 hK4=>?_;refine d7 ?_;refine gS fun K hK=>?_;simp -dsimp [gb];apply hK;clear hK K;refine gS fun K hK=>?_;simp -dsimp;apply hK;clear hK K;refine d8 rfl (fun hc2=>?_) (fun hc2=>?_)
   ·have hbf:bAt s.Wires k=false:=by simpa using hc2
    refine gR fun K hK=>?_;simp -dsimp [f1];apply hK;clear hK K;simp only[zT,reduceIte,Nat.reduceEqDiff];refine hK4 _ _ ?_;refine b7 [5,8,10,26,27,28] (Or.inr (by simp)) ?_;simp only[zP,Nat.reduceEqDiff,reduceIte];refine gR fun K hK=>?_;simp -dsimp [wk];apply hK;clear hK K;simp only[zT,reduceIte,Nat.reduceEqDiff];rw[if_neg (by simp[hbf])]at hos;exact⟨k+1,by omega,by omega,m8 (e8 [some 0,some 1,some 2,some 3,some 5] rfl (by simp[hos]) (by simp[hos])) (by simp)⟩
   ·have hbt:bAt s.Wires k=true:=by simpa using hc2
    refine e9 ?_;simp only[zT,reduceIte,Nat.reduceEqDiff];refine hK4 _ _ ?_;refine b7 [5,8,10,26,27,28] (Or.inr (by simp)) ?_;simp only[zP,Nat.reduceEqDiff,reduceIte];refine gR fun K hK=>?_;simp -dsimp [wk];apply hK;clear hK K;simp only[zT,reduceIte,Nat.reduceEqDiff];rw[if_pos hbt]at hos;exact⟨k+1,by omega,by omega,m8 (e8 [some 0,some 1,some 2,some 3,some 4] rfl (by simp[hos]) (by simp[hos])) (by simp)⟩
  ·have hke:k=s.Wires.length:=by have hn:¬k<s.Wires.length:=(by simpa using hc1);omega
   subst hke;rw[←hoff];have hto:List.take off.length (off.map i9)=off.map i9:=List.take_of_length_le (by simp);refine i6 ?_;simp only[zT,reduceIte,Nat.reduceEqDiff];refine hK2 _ _ ?_;refine b7 [5,8,10] (Or.inr (by simp)) ?_;simp only[zP,Nat.reduceEqDiff,reduceIte];refine b9 fun K5 hK5=>?_;refine o9 (m8 (B5 (T':=[(5, .ptr 0 0 0),(8, .ptr 1 0 0),(10,iL off)]) (H':=[some (.els 1 [[lL l]]),some (.els 1 [[net g s]])]) [some 2,some 3] rfl ⟨.inr (by simp), .inr (by simp), .inr (by simp[hto]),trivial⟩ (by simp)) (by simp)) ?_
   ·refine gS fun K hK=>?_;simp -dsimp;apply hK;clear hK K;refine d8 rfl (fun hc3=>?_) (fun hc3=>?_)
    ·refine gS fun K hK=>?_;simp -dsimp;apply hK;clear hK K;have h6':6<off.length:=by have:=(by simpa using hc3:(6:Int)<off.length);omega
     exact k7 (by simp[h6 h6',y8,n5])
    ·have hl6:off.length≤6:=by have:=(by simpa using hc3:(off.length:Int)≤6);omega
     have hch:=c3c g s l rl off hl6 (hrl hl6);have wo:IntKind.i64.wrap ((off.length:Int)+1)=(off.length:Int)+1:=i7 (by omega) (by omega);refine e9 ?_;simp only[zT,reduceIte,Nat.reduceEqDiff];refine hK5 _ _ ?_;refine b7 [5,8,10] (Or.inr (by simp)) ?_;simp only[zP,Nat.reduceEqDiff,reduceIte];refine gS fun K hK=>?_;simp -dsimp;apply hK;clear hK K;refine gS fun K hK=>?_;simp -dsimp;apply hK;clear hK K;refine gS fun K hK=>?_;simp -dsimp;apply hK;clear hK K;refine b9 fun K6 hK6=>?_;refine gS fun K hK=>?_;simp -dsimp [wo];apply hK;clear hK K;refine d7 ?_;refine b7 [10,13,14,46,47] (Or.inr (by simp)) ?_;simp only[zP,Nat.reduceEqDiff,reduceIte];refine g8 [10,13,14,46] (α:=Nat×Option (List Int)) (fun x=>[(47,I x.1)]) (fun x=>[some (.els 1 [[lL l]]),some (.els 1 [[net g s]]),some (.els 1 [[fA x.2]]),some (.els 1 [[.clo 59 [.ptr 2 0 0, .ptr 1 0 0, .ptr 0 0 0, .ptr 3 0 0]]])]) (fun x=>x.1≤off.length+1∧(List.range x.1).foldl (b6C rl off) (false,none)=(false,x.2)) (fun x=>off.length+1-x.1) (0,none) ?_ ?_ ?_
     ·exact⟨Nat.zero_le _,rfl⟩
     ·exact m8 (e8 [some 0,some 1,some 2,some 3] rfl (by simp) (by simp[b3d])) (by simp)
     rintro⟨k,f⟩ ⟨k1,k2⟩;simp only at k1 k2 ⊢;simp only[zP,Nat.reduceEqDiff,reduceIte];refine gS fun K hK=>?_;simp -dsimp;apply hK;clear hK K;refine b9 fun K7 hK7=>?_;refine d8 rfl (fun hc4=>?_) (fun hc4=>?_)
     ·have hko:k≤off.length:=by have:=(by simpa using hc4:(k:Int)<off.length+1);omega
      have wk:=zW k (by omega);have hcall:=hch k f (by omega);have hst:(List.range (k+1)).foldl (b6C rl off) (false,none)=chF rl k [] off f:=by rw[List.range_succ,List.foldl_append,k2];rfl
      generalize chF rl k [] off f=q at hcall hst;refine e9 ?_;simp only[zT,reduceIte,Nat.reduceEqDiff];refine hK7 _ _ ?_;refine b7 [10,13,14,46,47] (Or.inr (by simp)) ?_;simp only[zP,Nat.reduceEqDiff,reduceIte];refine b9 fun K8 hK8=>?_;refine d7 ?_;refine gS fun K hK=>?_;simp -dsimp;apply hK;clear hK K;refine gS fun K hK=>?_;simp -dsimp;refine k8 [2,1,0,3] [] [some 2,some 1,some 0,some 3] (hcall) (by decide) rfl (by simp) (by simp) rfl (by simp) ?_;simp -dsimp;apply hK;clear hK K;refine d8 rfl (fun hc5=>?_) (fun hc5=>?_)
      ·obtain⟨o,ho⟩:∃o,q.2=o:=⟨_,rfl⟩;rw[ho]
       rcases o with _|cc
       ·refine gS fun K hK=>?_;simp -dsimp [fA];apply hK;clear hK K;have hfin:b4B rl off=q:=by unfold b4B;rw[Y9 _ _ (show k+1≤off.length+1 by omega),hst];exact a3l _ _ _ hc5 _
        have hr:=ht hl6 (by rw[hfin];exact hc5);rw[hfin]at hr;exact k7 (by simp[hr,ho,fA,y8,n5])
       ·refine gS fun K hK=>?_;simp -dsimp [fA];apply hK;clear hK K;have hfin:b4B rl off=q:=by unfold b4B;rw[Y9 _ _ (show k+1≤off.length+1 by omega),hst];exact a3l _ _ _ hc5 _
        have hr:=ht hl6 (by rw[hfin];exact hc5);rw[hfin]at hr;exact k7 (by simp[hr,ho,fA,y8,n5])
      ·refine e9 ?_;simp only[zT,reduceIte,Nat.reduceEqDiff];refine hK8 _ _ ?_;refine b7 [10,13,14,46,47] (Or.inr (by simp)) ?_;simp only[zP,Nat.reduceEqDiff,reduceIte];refine gR fun K hK=>?_;simp -dsimp [wk];apply hK;clear hK K;simp only[zT,reduceIte,Nat.reduceEqDiff];exact⟨(k+1,q.2),⟨by simp only;omega,by rw[hst];exact Prod.ext hc5 rfl⟩,by simp only;omega,m8 (e8 [some 0,some 1,some 2,some 3] rfl (by simp) (by simp)) (by simp)⟩
     ·have hko:k=off.length+1:=by have:=(by simpa using hc4:(off.length:Int)+1≤k);omega
      subst hko;refine i6 ?_;simp only[zT,reduceIte,Nat.reduceEqDiff];refine hK6 _ _ ?_;refine b7 [] (Or.inr (by simp)) ?_;simp only[zP,Nat.reduceEqDiff,reduceIte];refine gS fun K hK=>?_;simp -dsimp;apply hK;clear hK K;have hr:=hn hl6 (by unfold b4B;rw[k2]);exact k7 (by simp[hr,y8,n5])
end Go.Cur
end
section
namespace Go.Cur
open Go.AM Go.Proofs
theorem b5Z:a2R Try.prog 4=some .b:=by kernel_rfl
theorem b2H:(Try.prog).underlying 4=some .bool:=by kernel_rfl
theorem b3a (t:TypeId) (x y:Operand) (a b:Bool) (w:World) (ht:(Try.prog).underlying t=some .bool):(eqGuard .neq t x y (.bool a) (.bool b)).run Try.prog w= .ok () w:=by
 simp[eqGuard,run_underlying ht]
theorem b5B (t:TypeId) (a b:Bool) (w:World) (hk:a2R Try.prog t=some .b):(binOp .neq t (.bool a) (.bool b)).run Try.prog w= .ok (.bool (a !=b)) w:=by
 have h:=C2 (P:=Try.prog) (w:=w) hk (Op.maxDepth-1) (a:= .b a) (b:= .b b) rfl rfl;rw[show Op.maxDepth-1+1=Op.maxDepth from rfl]at h;simp only[KC.val]at h;simp[binOp,Op.equal,h]
 cases a<;>cases b<;>rfl
theorem a1E (a b:List Bool) (hb:b.length≤100000):d5 Try.prog 30 [bL a,bL b] (Bo (decide (a=b))):=by
 refine d5.of_body Try.func30 rfl (by decide) (by simp[Try.ntmps30]) ?_;simp only[Try.ntmps30,Try.results30];refine aS fun K hK=>?_;simp -dsimp;apply hK;clear hK K;refine d4 fun K1 hK1=>?_;refine aS fun K hK=>?_;simp -dsimp;apply hK;clear hK K;refine d9 rfl (fun hc0=>?_) (fun hc0=>?_)
 ·refine aS fun K hK=>?_;simp -dsimp;apply hK;clear hK K;have hne:a≠b:=by rintro rfl;simp at hc0
  exact g7 (by simp[hne])
 ·have hle:a.length=b.length:=by have:=(by simpa using hc0:(a.length:Int)=b.length);omega
  refine f6 ?_;simp only[zT,reduceIte,Nat.reduceEqDiff];refine hK1 _ _ ?_;refine b8 [0,1] ?_;simp only[zP,Nat.reduceEqDiff,reduceIte];refine d4 fun K2 hK2=>?_;refine aS fun K hK=>?_;simp -dsimp;apply hK;clear hK K;refine e7 ?_;refine b8 [0,1,5] ?_;simp only[zP,Nat.reduceEqDiff,reduceIte];refine g9 [0,1] (α:=Nat) (fun k=>[(5,I k)]) (fun k=>[]) (fun k=>k≤a.length∧a.take k=b.take k) (fun k=>a.length-k) 0 ?_ ?_ ?_
  ·exact⟨Nat.zero_le _,rfl⟩
  ·exact j7 (by simp)
  rintro k ⟨k1,k2⟩;simp only[zP,Nat.reduceEqDiff,reduceIte];refine d4 fun K3 hK3=>?_;refine aS fun K hK=>?_;simp -dsimp;apply hK;clear hK K;refine d9 rfl (fun hc1=>?_) (fun hc1=>?_)
  ·have hka:k<a.length:=by simpa using hc1
   have wk:=zW k (by omega);obtain⟨x,hx⟩:∃x,a[k]?=some x:=⟨_,List.getElem?_eq_getElem hka⟩;obtain⟨y,hy⟩:∃y,b[k]?=some y:=⟨_,List.getElem?_eq_getElem (by omega)⟩;refine f6 ?_;simp only[zT,reduceIte,Nat.reduceEqDiff];refine hK3 _ _ ?_;refine b8 [0,1,5] ?_;simp only[zP,Nat.reduceEqDiff,reduceIte];refine d4 fun K4 hK4=>?_;refine e7 ?_;refine v5 l6 rfl fun K hK=>?_;simp -dsimp [hx,hy];refine⟨fun w=>b3a _ _ _ _ _ w b2H, .bool (x !=y),fun w=>b5B _ _ _ w b5Z,?_⟩;refine hK _ _ _ (by decide+kernel) ?_;clear hK K;refine d9 rfl (fun hc2=>?_) (fun hc2=>?_)
   ·refine aS fun K hK=>?_;simp -dsimp;apply hK;clear hK K;have hne:a≠b:=by
     rintro rfl;rw[hx]at hy;have:=Option.some.inj hy;subst this;simp at hc2
    exact g7 (by simp[hne])
   ·refine f6 ?_;simp only[zT,reduceIte,Nat.reduceEqDiff];refine hK4 _ _ ?_;refine b8 [0,1,5] ?_;simp only[zP,Nat.reduceEqDiff,reduceIte];refine aR fun K hK=>?_;simp -dsimp [wk];apply hK;clear hK K;simp only[zT,reduceIte,Nat.reduceEqDiff];have hxy:x=y:=by simpa using hc2
    exact⟨k+1,⟨by omega,by rw[List.take_add_one,List.take_add_one,hx,hy,k2,hxy]⟩,by omega,e8 [] rfl (by simp) (by simp)⟩
  ·have hka:¬k<a.length:=by simpa using hc1
   have e:a=b:=by have h1:=k2;rw[List.take_of_length_le (by omega),List.take_of_length_le (by omega)]at h1;exact h1
   refine j9 ?_;simp only[zT,reduceIte,Nat.reduceEqDiff];refine hK2 _ _ ?_;refine b8 [] ?_;simp only[zP,Nat.reduceEqDiff,reduceIte];refine aS fun K hK=>?_;simp -dsimp;apply hK;clear hK K;exact g7 (by simp[e])
theorem c1h (n:Nat) (hn:n≤1000):d5 Try.prog 20 [I n] (bL (List.replicate n true)):=by
 have f0:C7 n 2:=k9 (by omega) (by omega);refine d5.of_body Try.func20 rfl (by decide) (by simp[Try.ntmps20]) ?_;simp only[Try.ntmps20,Try.results20];refine aS fun K hK=>?_;simp -dsimp;apply hK;clear hK K;refine aS fun K hK=>?_;simp -dsimp [f0];apply hK;clear hK K;refine d4 fun K1 hK1=>?_;refine aS fun K hK=>?_;simp -dsimp;apply hK;clear hK K;refine e7 ?_;refine b8 [0,3,4] ?_;simp only[zP,Nat.reduceEqDiff,reduceIte];refine g9 [0,3] (α:=Nat) (fun k=>[(4,I k)]) (fun k=>[some (.els 1 ((svK n k).map i8))]) (fun k=>k≤n) (fun k=>n-k) 0 ?_ ?_ ?_
 ·exact Nat.zero_le _
 ·exact e8 [some 0] rfl (by simp) (by simp[a1y,i8])
 rintro k k1;simp only[zP,Nat.reduceEqDiff,reduceIte];refine d4 fun K2 hK2=>?_;refine aS fun K hK=>?_;simp -dsimp;apply hK;clear hK K;refine d9 rfl (fun hc0=>?_) (fun hc0=>?_)
 ·have hkl:k<n:=by simpa using hc0
  have wk:=zW k (by omega);have hsl:=a5g (n:=n) (k:=k) k1;have hst:=a4D hkl;refine f6 ?_;simp only[zT,reduceIte,Nat.reduceEqDiff];refine hK2 _ _ ?_;refine b8 [0,3,4] ?_;simp only[zP,Nat.reduceEqDiff,reduceIte];refine d4 fun K3 hK3=>?_;refine e7 ?_;refine aR fun K hK=>?_;simp -dsimp [hkl,hsl];apply hK;clear hK K;simp only[zT,reduceIte,Nat.reduceEqDiff];refine hK3 _ _ ?_;refine b8 [0,3,4] ?_;simp only[zP,Nat.reduceEqDiff,reduceIte];refine aR fun K hK=>?_;simp -dsimp [wk];apply hK;clear hK K;simp only[zT,reduceIte,Nat.reduceEqDiff];exact⟨k+1,by omega,by omega,e8 [some 0] rfl (by simp) (by simp[←hst,List.map_set,i8])⟩
 ·have hke:k=n:=by have hn:¬k<n:=(by simpa using hc0);omega
  subst hke;have htk:List.take k ((List.replicate k true).map i8)=(List.replicate k true).map i8:=List.take_of_length_le (by simp);refine j9 ?_;simp only[zT,reduceIte,Nat.reduceEqDiff];refine hK1 _ _ ?_;refine b8 [3] ?_;simp only[zP,Nat.reduceEqDiff,reduceIte];refine aS fun K hK=>?_;simp -dsimp;apply hK;clear hK K;exact g7 (by rw[a4Z];simp[htk])
theorem R4 (l:List Int) (x:Int) (hn:l.length≤100000):d5 Try.prog 53 [iL l,I x] (I (K0 l fun y=>decide (x=y))):=by
 refine d5.of_body Try.func53 rfl (by decide) (by simp[Try.ntmps53]) ?_;simp only[Try.ntmps53,Try.results53];refine aS fun K hK=>?_;simp -dsimp;apply hK;clear hK K;refine d4 fun K1 hK1=>?_;refine aS fun K hK=>?_;simp -dsimp;apply hK;clear hK K;refine e7 ?_;refine b8 [0,1,5] ?_;simp only[zP,Nat.reduceEqDiff,reduceIte];refine g9 [0,1] (α:=Nat) (fun k=>[(5,I k)]) (fun k=>[]) (fun k=>k≤l.length∧((l.take k).any fun y=>decide (x=y))=false) (fun k=>l.length-k) 0 ?_ ?_ ?_
 ·exact⟨Nat.zero_le _,rfl⟩
 ·exact j7 (by simp)
 rintro k ⟨k1,k2⟩;simp only[zP,Nat.reduceEqDiff,reduceIte];refine d4 fun K2 hK2=>?_;refine aS fun K hK=>?_;simp -dsimp;apply hK;clear hK K;refine d9 rfl (fun hc0=>?_) (fun hc0=>?_)
 ·have hkl:k<l.length:=by simpa using hc0
  have wk:=zW k (by omega);obtain⟨y,hy⟩:∃y,l[k]?=some y:=⟨_,List.getElem?_eq_getElem hkl⟩;refine f6 ?_;simp only[zT,reduceIte,Nat.reduceEqDiff];refine hK2 _ _ ?_;refine b8 [0,1,5] ?_;simp only[zP,Nat.reduceEqDiff,reduceIte];refine d4 fun K3 hK3=>?_;refine e7 ?_;refine aS fun K hK=>?_;simp -dsimp [hy];apply hK;clear hK K;refine d9 rfl (fun hc1=>?_) (fun hc1=>?_)
  ·refine aS fun K hK=>?_;simp -dsimp;apply hK;clear hK K;have hxy:x=y:=by have:y=x:=(by simpa using hc1);exact this.symm
   exact g7 (by simp[a0y hy (by simp[hxy]) k2])
  ·refine f6 ?_;simp only[zT,reduceIte,Nat.reduceEqDiff];refine hK3 _ _ ?_;refine b8 [0,1,5] ?_;simp only[zP,Nat.reduceEqDiff,reduceIte];refine aR fun K hK=>?_;simp -dsimp [wk];apply hK;clear hK K;simp only[zT,reduceIte,Nat.reduceEqDiff];have hxy:¬x=y:=by intro h;simp[h]at hc1
   exact⟨k+1,⟨by omega,by rw[List.take_add_one,hy,List.any_append,k2];simp[hxy]⟩,by omega,e8 [] rfl (by simp) (by simp)⟩
 ·have hkl:¬k<l.length:=by simpa using hc0
  rw[List.take_of_length_le (by omega)]at k2;refine j9 ?_;simp only[zT,reduceIte,Nat.reduceEqDiff];refine hK1 _ _ ?_;refine b8 [] ?_;simp only[zP,Nat.reduceEqDiff,reduceIte];refine aS fun K hK=>?_;simp -dsimp;apply hK;clear hK K;exact g7 (by simp[O3 k2])
theorem b5U (l:List Int) (x:Int):decide (0≤K0 l fun y=>decide (x=y))=decide (x∈l):=by rw[a6a,b7w]
theorem R5 (g:Gr) (s:Sta) (part:List Int) (hs:s.Feeds.length=g.Feeds.length) (hp:part.length≤1000) (hn:g.Feeds.length≤1000):d5 Try.prog 25 [g.av,s.av,iL part] (iL (n8 g s part)):=by
 unfold n8;refine d5.of_body Try.func25 rfl (by decide) (by simp[Try.ntmps25]) ?_;simp only[Try.ntmps25,Try.results25];refine aS fun K hK=>?_;simp -dsimp;apply hK;clear hK K;refine aS fun K hK=>?_;simp -dsimp;apply hK;clear hK K;refine d4 fun K1 hK1=>?_;refine aS fun K hK=>?_;simp -dsimp;apply hK;clear hK K;refine e7 ?_;refine b8 [2,3,4,7,8] ?_;simp only[zP,Nat.reduceEqDiff,reduceIte];refine g9 [2,3,4] (α:=Nat) (fun k=>[(7, .row 2 0 ((upI k).filter (a1K g s part)).length),(8,I k)]) (fun k=>[some (.els 4 [g.cells]),some (.els 2 [s.cells]),some (.els 1 (((upI k).filter (a1K g s part)).map i9))]) (fun k=>k≤g.Feeds.length) (fun k=>g.Feeds.length-k) 0 ?_ ?_ ?_
 ·exact Nat.zero_le _
 ·exact(z8 7 1 (by simp)).trans (j7 (by simp[upI]))
 rintro k k1;simp only[zP,Nat.reduceEqDiff,reduceIte];refine d4 fun K2 hK2=>?_;refine aS fun K hK=>?_;simp -dsimp;apply hK;clear hK K;refine d9 rfl (fun hc0=>?_) (fun hc0=>?_)
 ·have hkl:k<g.Feeds.length:=by simpa using hc0
  have wk:=zW k (by omega);have hfl:((upI k).filter (a1K g s part)).length≤k:=by have:=List.length_filter_le (a1K g s part) (upI k);rw[J3]at this;omega
  have hfs:(upI (k+1)).filter (a1K g s part)=(upI k).filter (a1K g s part)++if a1K g s part k then [(k:Int)]else []:=by rw[a4C,List.filter_append];cases hq:a1K g s part k<;>simp[hq]
  have f1:C7 (((upI k).filter (a1K g s part)).length+1) 9:=k9 (by omega) (by omega);have gb:=s7 (l:=s.Feeds) (k:=k) (by omega);have gf:g.Feeds[k]?=some (fdI g k):=by have:=M7 (g:=g) (i:=(k:Int)) (by omega) (by omega);rwa [Int.toNat_natCast]at this
  have hon:a1K g s part k=(bAt s.Feeds k&&decide (0≤K0 part fun y=>decide ((fdI g k).At=y))):=by rw[b5U];unfold a1K;rw[Int.toNat_natCast]
  have hix:=R4 part (fdI g k).At (by omega);generalize (upI k).filter (a1K g s part)=L at hfs hfl f1 ⊢;generalize (K0 part fun y=>decide ((fdI g k).At=y))=ix at hon hix;refine f6 ?_;simp only[zT,reduceIte,Nat.reduceEqDiff];refine hK2 _ _ ?_;refine b8 [2,3,4,7,8] ?_;simp only[zP,Nat.reduceEqDiff,reduceIte];refine d4 fun K3 hK3=>?_;refine e7 ?_;refine aS fun K hK=>?_;simp -dsimp [gb,gf,hs];refine j8 (fdI g k).cells (fun _=>by simp[gf]) ?_;simp -dsimp [gb,gf,hs];refine f8 _ (fun hm=>hix) (by simp) ?_;simp -dsimp [gb,gf,hs];apply hK;clear hK K;refine d9 rfl (fun hc1=>?_) (fun hc1=>?_)
  ·refine aR fun K hK=>?_;simp -dsimp [f1];apply hK;clear hK K;simp only[zT,reduceIte,Nat.reduceEqDiff];refine hK3 _ _ ?_;refine b8 [2,3,4,7,8] ?_;simp only[zP,Nat.reduceEqDiff,reduceIte];refine aR fun K hK=>?_;simp -dsimp [wk];apply hK;clear hK K;simp only[zT,reduceIte,Nat.reduceEqDiff];have hb:a1K g s part k=true:=by rw[hon];simpa using hc1
   exact⟨k+1,by omega,by omega,e8 [some 0,some 1,some 3] rfl (by simp[hfs,hb]) (by simp[hfs,hb])⟩
  ·refine f6 ?_;simp only[zT,reduceIte,Nat.reduceEqDiff];refine hK3 _ _ ?_;refine b8 [2,3,4,7,8] ?_;simp only[zP,Nat.reduceEqDiff,reduceIte];refine aR fun K hK=>?_;simp -dsimp [wk];apply hK;clear hK K;simp only[zT,reduceIte,Nat.reduceEqDiff];have hb:a1K g s part k=false:=by rw[hon];simpa using hc1
   exact⟨k+1,by omega,by omega,e8 [some 0,some 1,some 2] rfl (by simp[hfs,hb]) (by simp[hfs,hb])⟩
 ·have hke:k=g.Feeds.length:=by have hn:¬k<g.Feeds.length:=(by simpa using hc0);omega
  subst hke;refine j9 ?_;simp only[zT,reduceIte,Nat.reduceEqDiff];refine hK1 _ _ ?_;refine b8 [7] ?_;simp only[zP,Nat.reduceEqDiff,reduceIte];refine aS fun K hK=>?_;simp -dsimp;apply hK;clear hK K;exact g7 (by simp)
def a1S (n:Nat) (l:List Ld) (sv:List Bool):List Int:=(List.range n).map fun(k:Nat)=>cur l sv k
theorem a1I {n:Nat} {l:List Ld} {sv:List Bool} {k:Nat} (h:k<n):(a1S n l sv)[k]?=some (cur l sv k):=by
 unfold a1S;rw[List.getElem?_map,List.getElem?_range h];rfl
theorem b0p {l:List Ld} {sv:List Bool} {k:Nat} {f:Ld} {b:Bool} (hl:l[k]?=some f) (hs:sv[k]?=some b) (x:Int):cur (l.take (k+1)) (sv.take (k+1)) x=b1o x (cur (l.take k) (sv.take k) x) (f,b):=by
 have hk:=(List.getElem?_eq_some_iff.1 hl).1;have hk2:=(List.getElem?_eq_some_iff.1 hs).1;unfold cur;rw[List.take_add_one,List.take_add_one,hl,hs,List.zip_append (by simp;omega)];simp
theorem b5I {n:Nat} {l:List Ld} {sv:List Bool} {k a:Nat} {f:Ld} (hl:l[k]?=some f) (hs:sv[k]?=some true) (ha:f.At=a):(a1S n (l.take k) (sv.take k)).set a f.Units=a1S n (l.take (k+1)) (sv.take (k+1)):=by
 refine List.ext_getElem? fun i=>?_
 by_cases hi:i<n
 ·rw[a1I hi,b0p hl hs];unfold b1o
  by_cases h:i=a
  ·subst h;rw[List.getElem?_set_self (by simp[a1S];omega),if_pos ⟨rfl,ha⟩]
  ·rw[List.getElem?_set_ne (fun e=>h e.symm),a1I hi,if_neg (fun e=>h (by have:=e.2;simp only at this;omega))]
 ·rw[List.getElem?_eq_none (by simp[a1S];omega),List.getElem?_eq_none (by simp[a1S];omega)]
theorem c1i (n:Nat) (f:Nat→Int) (h:∀k,f k=0):List.replicate n [AV.v (Value.int .i64 0)]=((List.range n).map f).map i9:=by
 refine List.ext_getElem? fun i=>?_
 by_cases hi:i<n
 ·rw[List.getElem?_replicate,if_pos hi,List.getElem?_map,List.getElem?_map,List.getElem?_range hi];simp[h]
 ·rw[List.getElem?_eq_none (by simp;omega),List.getElem?_eq_none (by simp;omega)]
theorem a3q (g:Gr) (l:List Ld) (sv:List Bool) (n:Nat) (hg:g.Nodes=n) (hn:n≤1000) (hl:l.length≤1000) (hs:sv.length=l.length) (hat:∀y∈l,0≤y.At∧y.At<n):d5 Try.prog 22 [g.av,lL l,bL sv] (iL (a1S n l sv)):=by
 have f0:C7 n 9:=k9 (by omega) (by omega);have hz:List.replicate n [AV.v (Value.int .i64 0)]=(a1S n [] []).map i9:=c1i n _ fun k=>rfl;refine d5.of_body Try.func22 rfl (by decide) (by simp[Try.ntmps22]) ?_;simp only[Try.ntmps22,Try.results22];refine aS fun K hK=>?_;simp -dsimp;apply hK;clear hK K;refine aS fun K hK=>?_;simp -dsimp [hg,f0];apply hK;clear hK K;refine d4 fun K1 hK1=>?_;refine aS fun K hK=>?_;simp -dsimp;apply hK;clear hK K;refine e7 ?_;refine b8 [1,2,7,8] ?_;simp only[zP,Nat.reduceEqDiff,reduceIte];refine g9 [1,2,7] (α:=Nat) (fun k=>[(8,I k)]) (fun k=>[some (.els 4 [g.cells]),some (.els 1 ((a1S n (l.take k) (sv.take k)).map i9))]) (fun k=>k≤l.length) (fun k=>l.length-k) 0 ?_ ?_ ?_
 ·exact Nat.zero_le _
 ·exact e8 [some 0,some 1] rfl (by simp) (by simp[hg,hz])
 rintro k k1;simp only[zP,Nat.reduceEqDiff,reduceIte];refine d4 fun K2 hK2=>?_;refine aS fun K hK=>?_;simp -dsimp;apply hK;clear hK K;refine d9 rfl (fun hc0=>?_) (fun hc0=>?_)
 ·have hkl:k<l.length:=by simpa using hc0
  have wk:=zW k (by omega);have gl:=t6 hkl;have gb:=s7 (l:=sv) (k:=k) (by omega);have hne:¬sv=[]:=by intro e;rw[e]at hs;simp at hs;omega
  have hya:=hat _ (List.mem_of_getElem? gl);obtain⟨a,ha⟩:∃a:Nat,(ldA l k).At=a:=⟨(ldA l k).At.toNat,by omega⟩;have han:a<n:=by omega
  have hcl:(a1S n (l.take k) (sv.take k)).length=n:=by simp[a1S]
  have hks:k<sv.length:=by omega
  have hbe:sv[k]=bAt sv k:=Option.some.inj (by rw[←List.getElem?_eq_getElem hks];exact gb);refine f6 ?_;simp only[zT,reduceIte,Nat.reduceEqDiff];refine hK2 _ _ ?_;refine b8 [1,2,7,8] ?_;simp only[zP,Nat.reduceEqDiff,reduceIte];refine d4 fun K3 hK3=>?_;refine e7 ?_;refine aS fun K hK=>?_;simp -dsimp [gb,hks,hbe];apply hK;clear hK K;refine d9 rfl (fun hc1=>?_) (fun hc1=>?_)
  ·have hb:sv[k]?=some true:=by rw[gb,hc1]
   have hst:=b5I (n:=n) gl hb ha;refine E1 l6 rfl fun K hK=>?_;simp -dsimp [gl,ha,hcl,han];refine hK _ _ _ (by decide+kernel) ?_;clear hK K;simp only[zT,reduceIte,Nat.reduceEqDiff];refine hK3 _ _ ?_;refine b8 [1,2,7,8] ?_;simp only[zP,Nat.reduceEqDiff,reduceIte];refine aR fun K hK=>?_;simp -dsimp [wk];apply hK;clear hK K;simp only[zT,reduceIte,Nat.reduceEqDiff];exact⟨k+1,by omega,by omega,e8 [some 0,some 1] rfl (by simp) (by simp[←hst,List.map_set,i9])⟩
  ·refine f6 ?_;simp only[zT,reduceIte,Nat.reduceEqDiff];refine hK3 _ _ ?_;refine b8 [1,2,7,8] ?_;simp only[zP,Nat.reduceEqDiff,reduceIte];refine aR fun K hK=>?_;simp -dsimp [wk];apply hK;clear hK K;simp only[zT,reduceIte,Nat.reduceEqDiff];have hb:sv[k]?=some false:=by rw[gb,hc1]
   have hst:a1S n (l.take k) (sv.take k)=a1S n (l.take (k+1)) (sv.take (k+1)):=by unfold a1S;refine List.map_congr_left fun i _=>?_;rw[b0p gl hb];simp[b1o]
   exact⟨k+1,by omega,by omega,e8 [some 0,some 1] rfl (by simp) (by simp[←hst])⟩
 ·have hke:k=l.length:=by have hn:¬k<l.length:=(by simpa using hc0);omega
  subst hke;have htl:List.take n ((a1S n l sv).map i9)=(a1S n l sv).map i9:=List.take_of_length_le (by rw[List.length_map];simp[a1S]);rw[List.take_of_length_le (Nat.le_refl _),List.take_of_length_le (by omega)];have hcl2:(a1S n l sv).length=n:=by simp[a1S]
  refine j9 ?_;simp only[zT,reduceIte,Nat.reduceEqDiff];refine hK1 _ _ ?_;refine b8 [7] ?_;simp only[zP,Nat.reduceEqDiff,reduceIte];refine aS fun K hK=>?_;simp -dsimp;apply hK;clear hK K;exact g7 (by simp[htl,hcl2])
def a1e (ps:List (List Nat)):Bool:=ps.all fun p=>decide (p.length≤10)
theorem a5d (ps:List (List Nat)) (hn:ps.length≤100000):d5 Try.prog 34 [.lst 1 (ps.map pAV)] (Bo (a1e ps)):=by
 unfold a1e;refine d5.of_body Try.func34 rfl (by decide) (by simp[Try.ntmps34]) ?_;simp only[Try.ntmps34,Try.results34];refine aS fun K hK=>?_;simp -dsimp;apply hK;clear hK K;refine d4 fun K1 hK1=>?_;refine aS fun K hK=>?_;simp -dsimp;apply hK;clear hK K;refine e7 ?_;refine b8 [0,3] ?_;simp only[zP,Nat.reduceEqDiff,reduceIte];refine g9 [0] (α:=Nat) (fun k=>[(3,I k)]) (fun k=>[]) (fun k=>k≤ps.length∧((ps.take k).all fun p=>decide (p.length≤10))=true) (fun k=>ps.length-k) 0 ?_ ?_ ?_
 ·exact⟨Nat.zero_le _,rfl⟩
 ·exact j7 (by simp)
 rintro k ⟨k1,k2⟩;simp only[zP,Nat.reduceEqDiff,reduceIte];refine d4 fun K2 hK2=>?_;refine aS fun K hK=>?_;simp -dsimp;apply hK;clear hK K;refine d9 rfl (fun hc0=>?_) (fun hc0=>?_)
 ·have hkl:k<ps.length:=by simpa using hc0
  have wk:=zW k (by omega);obtain⟨p,hp⟩:∃p,ps[k]?=some p:=⟨_,List.getElem?_eq_getElem hkl⟩;have hul:=r9 p;refine f6 ?_;simp only[zT,reduceIte,Nat.reduceEqDiff];refine hK2 _ _ ?_;refine b8 [0,3] ?_;simp only[zP,Nat.reduceEqDiff,reduceIte];refine d4 fun K3 hK3=>?_;refine e7 ?_;refine aS fun K hK=>?_;simp -dsimp [hp,pAV];apply hK;clear hK K;refine d9 rfl (fun hc1=>?_) (fun hc1=>?_)
  ·refine aS fun K hK=>?_;simp -dsimp;apply hK;clear hK K;have hf:(ps.all fun p=>decide (p.length≤10))=false:=by
    rw[List.all_eq_false];exact⟨p,List.mem_of_getElem? hp,by have:=(by simpa using hc1:(10:Int)<(upN p).length);simp;omega⟩
   exact g7 (by simp[hf])
  ·refine f6 ?_;simp only[zT,reduceIte,Nat.reduceEqDiff];refine hK3 _ _ ?_;refine b8 [0,3] ?_;simp only[zP,Nat.reduceEqDiff,reduceIte];refine aR fun K hK=>?_;simp -dsimp [wk];apply hK;clear hK K;simp only[zT,reduceIte,Nat.reduceEqDiff];exact⟨k+1,⟨by omega,by rw[List.take_add_one,hp,List.all_append,k2];have:=(by simpa using hc1:((upN p).length:Int)≤10);simp;omega⟩,by omega,e8 [] rfl (by simp) (by simp)⟩
 ·have hkl:¬k<ps.length:=by simpa using hc0
  rw[List.take_of_length_le (by omega)]at k2;refine j9 ?_;simp only[zT,reduceIte,Nat.reduceEqDiff];refine hK1 _ _ ?_;refine b8 [] ?_;simp only[zP,Nat.reduceEqDiff,reduceIte];refine aS fun K hK=>?_;simp -dsimp;apply hK;clear hK K;exact g7 (by simp[k2])
end Go.Cur
end
section
namespace Go.Cur
open Go.AM Go.Proofs
def P2:List Int→Int→Int
 |[],_=>0
 |a::l,x=>(if a=x then 1 else 0)+P2 l x
theorem a0e (x:Int):∀l,0≤P2 l x∧P2 l x≤l.length
 |[]=>by simp[P2]
 |a::l=>by
  have:=a0e x l;simp only[P2,List.length_cons]
  split<;>omega
theorem G7 (x:Int):∀(a b:List Int),P2 (a++b) x=P2 a x+P2 b x
 |[],b=>by simp[P2]
 |w::a,b=>by simp only[List.cons_append,P2,G7 x a b];omega
theorem X9 {x:Int}:∀{l:List Int},P2 l x=0↔x∉l
 |[]=>by simp[P2]
 |a::l=>by
  have h1:=X9 (x:=x) (l:=l);have h2:=a0e x l;simp only[P2,List.mem_cons,not_or]
  by_cases h:a=x
  ·simp[h];omega
  ·rw[if_neg h,←h1];exact⟨fun e=>⟨fun k=>h k.symm,by omega⟩,fun e=>by omega⟩
theorem b2w {x:Int} {l:List Int} (k:Nat):P2 (l.take k) x≤P2 l x:=by
 have h:=G7 x (l.take k) (l.drop k);rw[List.take_append_drop]at h;have:=a0e x (l.drop k);omega
theorem a2L (x:Int) (l:List Wr) (k:Nat):deg (l.take k) x≤deg l x:=by
 have h:=S5 x (l.take k) (l.drop k);rw[List.take_append_drop]at h;have:=a6Z x (l.drop k);omega
def fdR (g:Gr) (f:Fd):Bool:=inr f.At 0 (g.Nodes-1)&&inr f.Volts 1 1000&&inr f.Siem 1 4&&inr f.Limit 0 2000
def fAt (l:List Fd):List Int:=l.map fun f=>f.At
theorem b7x {l:List Fd} {x:Int}:(l.any fun f=>decide (f.At=x))=decide (x∈fAt l):=by
 unfold fAt;rw[Bool.eq_iff_iff];simp
@[simp] theorem c3d:fAt []=[]:=rfl
theorem a5H {l:List Fd} {k:Nat} {f:Fd} (h:l[k]?=some f):fAt (l.take (k+1))=fAt (l.take k)++[f.At]:=by
 unfold fAt;rw[List.take_add_one,h];simp
theorem b6g (l:List Fd) (k:Nat):fAt (l.take k)=(fAt l).take k:=by unfold fAt;rw[List.map_take]
theorem b7V {g:Gr}:∀{k:Nat},k≤g.Feeds.length→a8O g k=true→∀x,P2 (fAt (g.Feeds.take k)) x≤1
 |0,_,_,x=>by simp[P2]
 |k+1,hk,h,x=>by
  simp only[a8O,Bool.and_eq_true]at h;have ih:=b7V (k:=k) (by omega) h.1 x;obtain⟨f,hf⟩:∃f,g.Feeds[k]?=some f:=⟨_,List.getElem?_eq_getElem (by omega)⟩;have h2:=h.2;rw[hf]at h2;simp only[fdB,Bool.and_eq_true,b7x,Bool.not_eq_true',decide_eq_false_iff_not]at h2;have e:=a5H hf;rw[e,G7];simp only[P2]
  by_cases hx:f.At=x
  ·have:=X9.2 h2.2;rw[hx]at this;rw[this,if_pos hx];omega
  ·rw[if_neg hx];omega
theorem b8v {g:Gr} (h:grB g=true) (x:Int):P2 (fAt g.Feeds) x≤1:=by
 simp only[grB,Bool.and_eq_true]at h;have:=b7V (Nat.le_refl _) h.2 x
 rwa [List.take_length]at this
theorem c0N {g:Gr} (h1:grH g=true) (h2:∀(k:Nat) w,g.Wires[k]?=some w→wrB g w=true) (h3:∀(k:Nat) f,g.Feeds[k]?=some f→fdR g f=true) (h4:∀k:Nat,(k:Int)<g.Nodes→deg g.Wires k≤3∧P2 (fAt g.Feeds) k≤1):grB g=true:=by
 have a:∀k,k≤g.Wires.length→a7X g k=true:=by
  intro k
  induction k with
  |zero=>intro _;rfl
  |succ k ih=>
   intro hk;obtain⟨w,hw⟩:∃w,g.Wires[k]?=some w:=⟨_,List.getElem?_eq_getElem (by omega)⟩;have hwb:=h2 k w hw;have hwb2:=hwb;simp only[wrB,Bool.and_eq_true,v9]at hwb2;simp only[a7X,ih (by omega),hw,hwb,wrD,Bool.true_and,Bool.and_eq_true,decide_eq_true_eq];have e1:=h4 w.A.toNat (by omega);have e2:=h4 w.B.toNat (by omega);rw[Int.toNat_of_nonneg (by omega)]at e1 e2;exact⟨Int.le_trans (a2L _ _ _) e1.1,Int.le_trans (a2L _ _ _) e2.1⟩
 have b:∀k,k≤g.Feeds.length→a8O g k=true:=by
  intro k
  induction k with
  |zero=>intro _;rfl
  | succ k ih=>
   intro hk;obtain⟨f,hf⟩:∃f,g.Feeds[k]?=some f:=⟨_,List.getElem?_eq_getElem (by omega)⟩;have hfb:=h3 k f hf;have hfb2:=hfb;simp only[fdR,Bool.and_eq_true,v9]at hfb2;have hany:((g.Feeds.take k).any fun x=>decide (x.At=f.At))=false:=by
    rw[b7x,decide_eq_false_iff_not,←X9];have e1:=(h4 f.At.toNat (by omega)).2;rw[Int.toNat_of_nonneg (by omega)]at e1;have e2:=a5H hf;have e3:=b2w (x:=f.At) (l:=fAt g.Feeds) (k+1);rw[←b6g,e2,G7]at e3;simp only[P2,if_true]at e3;have:=a0e f.At (fAt (g.Feeds.take k));omega
   simp only[a8O,ih (by omega),hf,fdB,hany,Bool.true_and,Bool.not_false,Bool.and_true];exact hfb
 simp only[grB,h1,a _ (Nat.le_refl _),b _ (Nat.le_refl _),Bool.and_self]
def a5W (n:Nat) (l:List Wr):List Int:=(List.range n).map fun(k:Nat)=>deg l k
theorem a0b {n:Nat} {l:List Wr} {k:Nat} (h:k<n):(a5W n l)[k]?=some (deg l k):=by
 unfold a5W;rw[List.getElem?_map,List.getElem?_range h];rfl
theorem a9K (n:Nat) (l:List Wr):(a5W n l).length=n:=by simp[a5W]
theorem b5R {n:Nat} {l:List Wr} {k a b:Nat} {w:Wr} (hw:l[k]?=some w) (ha:w.A=a) (hb:w.B=b) (hab:a≠b):((a5W n (l.take k)).set a (deg (l.take k) a+1)).set b (deg (l.take k) b+1)=a5W n (l.take (k+1)):=by
 have e:l.take (k+1)=l.take k++[w]:=by rw[List.take_add_one,hw];rfl
 refine List.ext_getElem? fun i=>?_
 by_cases hi:i<n
 ·rw[a0b hi,e,S5];simp only[deg,ha,hb]
  by_cases h1:i=b
  ·subst h1;rw[List.getElem?_set_self (by simp[a5W];omega),if_neg (by omega),if_pos rfl]
   all_goals exact congrArg some (by omega)
  ·rw[List.getElem?_set_ne (fun e=>h1 e.symm)]
   by_cases h2:i=a
   ·subst h2;rw[List.getElem?_set_self (by simp[a5W];omega),if_pos rfl,if_neg (by omega)]
    all_goals exact congrArg some (by omega)
   ·rw[List.getElem?_set_ne (fun e=>h2 e.symm),a0b hi,if_neg (by omega),if_neg (by omega)]
    all_goals exact congrArg some (by omega)
 ·rw[List.getElem?_eq_none (by simp[a5W];omega),List.getElem?_eq_none (by simp[a5W];omega)]
def a3v (n:Nat) (l:List Int):List Int:=(List.range n).map fun(k:Nat)=>P2 l k
theorem Y4 {n:Nat} {l:List Int} {k:Nat} (h:k<n):(a3v n l)[k]?=some (P2 l k):=by
 unfold a3v;rw[List.getElem?_map,List.getElem?_range h];rfl
theorem a4B (n:Nat) (l:List Int):(a3v n l).length=n:=by simp[a3v]
theorem a9U {n:Nat} {l:List Int} {a:Nat}:(a3v n l).set a (P2 l a+1)=a3v n (l++[(a:Int)]):=by
 refine List.ext_getElem? fun i=>?_
 by_cases hi:i<n
 ·rw[Y4 hi,G7];simp only[P2]
  by_cases h2:i=a
  ·subst h2;rw[List.getElem?_set_self (by simp[a3v];omega),if_pos rfl]
   all_goals exact congrArg some (by omega)
  ·rw[List.getElem?_set_ne (fun e=>h2 e.symm),Y4 hi,if_neg (by omega)]
   all_goals exact congrArg some (by omega)
 ·rw[List.getElem?_eq_none (by simp[a3v];omega),List.getElem?_eq_none (by simp[a3v];omega)]
theorem c0i (g:Gr) (hw0:g.Wires.length≤100000) (hf0:g.Feeds.length≤100000):d5 Try.prog 41 [g.av] (Bo (grB g)):=by
 refine d5.of_body Try.func41 rfl (by decide) (by simp[Try.ntmps41]) ?_;simp only[Try.ntmps41,Try.results41];refine aS fun K hK=>?_;simp -dsimp;apply hK;clear hK K;refine d4 fun K1 hK1=>?_;refine aS fun K hK=>?_;simp -dsimp;refine d6 _ (W0 g.Nodes 1 40) (by simp) ?_;simp -dsimp;refine f8 _ (fun hm=>W0 g.Least 0 1000) (by simp) ?_;simp -dsimp;apply hK;clear hK K;refine d9 rfl (fun hc0=>?_) (fun hc0=>?_)
 ·refine aS fun K hK=>?_;simp -dsimp;apply hK;clear hK K;have hf:grH g=false:=by
   cases hh:grH g with
   |false=>rfl
   |true=>
    simp only[grH,Bool.and_eq_true,decide_eq_true_eq]at hh;have h1:(g.Wires.length:Int)≤80:=by omega
    have h2:(g.Feeds.length:Int)≤12:=by omega
    simp[hh.1.1.1,hh.2]at hc0;omega
  exact g7 (by simp[grB,hf])
 ·have hH:grH g=true:=by
   simp at hc0;simp only[grH,hc0.1.1.1,hc0.2,Bool.and_eq_true,decide_eq_true_eq,and_true,true_and];omega
  have hN:=hH;simp only[grH,Bool.and_eq_true,decide_eq_true_eq,v9]at hN;obtain⟨n,hn⟩:∃n:Nat,g.Nodes=n:=⟨g.Nodes.toNat,by omega⟩;have f0:C7 n 9:=k9 (by omega) (by omega);have wn:IntKind.i64.wrap ((n:Int)-1)=(n:Int)-1:=i7 (by omega) (by omega);have hz1:List.replicate n [AV.v (Value.int .i64 0)]=(a5W n []).map i9:=c1i n _ fun k=>rfl;have hz2:(a3v n []).map i9=(a5W n []).map i9:=rfl;refine f6 ?_;simp only[zT,reduceIte,Nat.reduceEqDiff];refine hK1 _ _ ?_;refine b8 [1] ?_;simp only[zP,Nat.reduceEqDiff,reduceIte];refine v5 l6 rfl fun K hK=>?_;simp -dsimp [hn,f0];refine hK _ _ _ (by decide+kernel) ?_;clear hK K;refine d4 fun K2 hK2=>?_;refine aS fun K hK=>?_;simp -dsimp;apply hK;clear hK K;refine e7 ?_;refine b8 [1,3,4,5] ?_;simp only[zP,Nat.reduceEqDiff,reduceIte];refine g9 [1,3,4] (α:=Nat) (fun k=>[(5,I k)]) (fun k=>[some (.els 4 [g.cells]),some (.els 1 ((a5W n (g.Wires.take k)).map i9)),some (.els 1 ((a3v n []).map i9))]) (fun k=>k≤g.Wires.length∧∀i w,i<k→g.Wires[i]?=some w→wrB g w=true) (fun k=>g.Wires.length-k) 0 ?_ ?_ ?_
  ·exact⟨Nat.zero_le _,fun i w h=>by omega⟩
  ·exact e8 [some 0,some 1,some 2] rfl (by simp) (by simp[hn,hz1,hz2])
  rintro k ⟨k1,k2⟩;simp only[zP,Nat.reduceEqDiff,reduceIte];refine d4 fun K3 hK3=>?_;refine aS fun K hK=>?_;simp -dsimp;apply hK;clear hK K;refine d9 rfl (fun hc1=>?_) (fun hc1=>?_)
  ·have hkl:k<g.Wires.length:=by simpa using hc1
   obtain⟨w,hw⟩:∃w,g.Wires[k]?=some w:=⟨_,List.getElem?_eq_getElem hkl⟩;have wk:=zW k (by omega);refine f6 ?_;simp only[zT,reduceIte,Nat.reduceEqDiff];refine hK3 _ _ ?_;refine b8 [1,3,4,5] ?_;simp only[zP,Nat.reduceEqDiff,reduceIte];refine d4 fun K4 hK4=>?_;refine e7 ?_;refine aS fun K hK=>?_;simp -dsimp [hw];apply hK;clear hK K;refine d4 fun K5 hK5=>?_;refine aS fun K hK=>?_;simp -dsimp [hn,wn];refine d6 _ (W0 _ _ _) (by simp) ?_;simp -dsimp [hn,wn];refine f8 _ (fun hm=>W0 w.B 0 ((n:Int)-1)) (by simp) ?_;simp -dsimp [hn,wn];refine f8 _ (fun hm=>W0 w.Siem 1 4) (by simp) ?_;simp -dsimp [hn,wn];apply hK;clear hK K;refine d9 rfl (fun hc2=>?_) (fun hc2=>?_)
   ·have hwr:wrB g w= !(!inr w.A 0 ((n:Int)-1)|| !inr w.B 0 ((n:Int)-1)||w.A==w.B|| !inr w.Siem 1 4):=by
     simp only[wrB,a7a,hn]
     cases inr w.A 0 ((n:Int)-1)<;>cases inr w.B 0 ((n:Int)-1)<;>cases decide (w.A=w.B)<;>cases inr w.Siem 1 4<;>rfl
    refine aS fun K hK=>?_;simp -dsimp;apply hK;clear hK K;have hwf:wrB g w=false:=by rw[hwr,hc2];rfl
    exact g7 (by simp[c0y hw (by rw[hwf];rfl)])
   ·have hwr:wrB g w= !(!inr w.A 0 ((n:Int)-1)|| !inr w.B 0 ((n:Int)-1)||w.A==w.B|| !inr w.Siem 1 4):=by
     simp only[wrB,a7a,hn]
     cases inr w.A 0 ((n:Int)-1)<;>cases inr w.B 0 ((n:Int)-1)<;>cases decide (w.A=w.B)<;>cases inr w.Siem 1 4<;>rfl
    have hwo:wrB g w=true:=by rw[hwr,hc2];rfl
    have hwb:=hwo;simp only[wrB,Bool.and_eq_true,v9,Bool.not_eq_true',decide_eq_false_iff_not,hn]at hwb;obtain⟨a,ha⟩:∃a:Nat,w.A=a:=⟨w.A.toNat,by omega⟩;obtain⟨b,hb⟩:∃b:Nat,w.B=b:=⟨w.B.toNat,by omega⟩;have han:a<n:=by omega
    have hbn:b<n:=by omega
    have hab:a≠b:=by omega
    have hst:=b5R (n:=n) hw ha hb hab;have ga:=a0b (l:=g.Wires.take k) han;have gb:=a0b (l:=g.Wires.take k) hbn;have hd:=fun x=>a6Z x (g.Wires.take k);have hlt:(g.Wires.take k).length≤k:=by rw[List.length_take];omega
    have hdl:=a9K n (g.Wires.take k);have wa:IntKind.i64.wrap (deg (g.Wires.take k) a+1)=deg (g.Wires.take k) a+1:=by have:=hd a;exact i7 (by omega) (by omega)
    have wb:IntKind.i64.wrap (deg (g.Wires.take k) b+1)=deg (g.Wires.take k) b+1:=by have:=hd b;exact i7 (by omega) (by omega)
    generalize a5W n (g.Wires.take k)=dr at hst ga gb hdl ⊢;have hal:a<dr.length:=by omega
    have hbl:b<dr.length:=by omega
    have hga:dr[a]=deg (g.Wires.take k) a:=Option.some.inj (by rw[←List.getElem?_eq_getElem hal];exact ga);have hgb:dr[b]=deg (g.Wires.take k) b:=Option.some.inj (by rw[←List.getElem?_eq_getElem hbl];exact gb);refine f6 ?_;simp only[zT,reduceIte,Nat.reduceEqDiff];refine hK5 _ _ ?_;refine b8 [1,3,4,5,6] ?_;simp only[zP,Nat.reduceEqDiff,reduceIte];refine aS fun K hK=>?_;simp -dsimp [ha,hal,han,hga,wa];apply hK;clear hK K;refine aR fun K hK=>?_;simp -dsimp [hb,hbl,hbn,hgb,wb,hab];apply hK;clear hK K;simp only[zT,reduceIte,Nat.reduceEqDiff];refine hK4 _ _ ?_;refine b8 [1,3,4,5] ?_;simp only[zP,Nat.reduceEqDiff,reduceIte];refine aR fun K hK=>?_;simp -dsimp [wk];apply hK;clear hK K;simp only[zT,reduceIte,Nat.reduceEqDiff];refine⟨k+1,⟨by omega,fun i w' hi hw'=>?_⟩,by omega,e8 [some 0,some 1,some 2] rfl (by simp) (by simp[←hst,List.map_set,i9,hn])⟩
    rcases Nat.lt_succ_iff_lt_or_eq.1 hi with h|h
    ·exact k2 i w' h hw'
    ·subst h;rw[hw]at hw';rw[←Option.some.inj hw'];exact hwo
  ·have hke:k=g.Wires.length:=by have hx:¬k<g.Wires.length:=(by simpa using hc1);omega
   subst hke;rw[List.take_of_length_le (Nat.le_refl _)];refine j9 ?_;simp only[zT,reduceIte,Nat.reduceEqDiff];refine hK2 _ _ ?_;refine b8 [1,3,4] ?_;simp only[zP,Nat.reduceEqDiff,reduceIte];refine d4 fun K6 hK6=>?_;refine aS fun K hK=>?_;simp -dsimp;apply hK;clear hK K;refine e7 ?_;refine b8 [1,3,4,7] ?_;simp only[zP,Nat.reduceEqDiff,reduceIte];refine g9 [1,3,4] (α:=Nat) (fun k=>[(7,I k)]) (fun k=>[some (.els 4 [g.cells]),some (.els 1 ((a5W n g.Wires).map i9)),some (.els 1 ((a3v n (fAt (g.Feeds.take k))).map i9))]) (fun k=>k≤g.Feeds.length∧∀i f,i<k→g.Feeds[i]?=some f→fdR g f=true) (fun k=>g.Feeds.length-k) 0 ?_ ?_ ?_
   ·exact⟨Nat.zero_le _,fun i w h=>by omega⟩
   ·exact e8 [some 0,some 1,some 2] rfl (by simp) (by simp)
   rintro i ⟨i1,i2⟩;simp only[zP,Nat.reduceEqDiff,reduceIte];refine d4 fun K7 hK7=>?_;refine aS fun K hK=>?_;simp -dsimp;apply hK;clear hK K;refine d9 rfl (fun hc3=>?_) (fun hc3=>?_)
   ·have hil:i<g.Feeds.length:=by simpa using hc3
    obtain⟨f,hf⟩:∃f,g.Feeds[i]?=some f:=⟨_,List.getElem?_eq_getElem hil⟩;have wi:=zW i (by omega);refine f6 ?_;simp only[zT,reduceIte,Nat.reduceEqDiff];refine hK7 _ _ ?_;refine b8 [1,3,4,7] ?_;simp only[zP,Nat.reduceEqDiff,reduceIte];refine d4 fun K8 hK8=>?_;refine e7 ?_;refine aS fun K hK=>?_;simp -dsimp [hf];apply hK;clear hK K;refine d4 fun K9 hK9=>?_;refine aS fun K hK=>?_;simp -dsimp [hn,wn];refine d6 _ (W0 _ _ _) (by simp) ?_;simp -dsimp [hn,wn];refine f8 _ (fun hm=>W0 f.Volts 1 1000) (by simp) ?_;simp -dsimp [hn,wn];refine f8 _ (fun hm=>W0 f.Siem 1 4) (by simp) ?_;simp -dsimp [hn,wn];refine f8 _ (fun hm=>W0 f.Limit 0 2000) (by simp) ?_;simp -dsimp [hn,wn];apply hK;clear hK K;refine d9 rfl (fun hc4=>?_) (fun hc4=>?_)
    ·have hfd:fdR g f= !(!inr f.At 0 ((n:Int)-1)|| !inr f.Volts 1 1000|| !inr f.Siem 1 4|| !inr f.Limit 0 2000):=by
      simp only[fdR,hn]
      cases inr f.At 0 ((n:Int)-1)<;>cases inr f.Volts 1 1000<;>cases inr f.Siem 1 4<;>cases inr f.Limit 0 2000<;>rfl
     refine aS fun K hK=>?_;simp -dsimp;apply hK;clear hK K;have hff:fdR g f=false:=by rw[hfd,hc4];rfl
     have hfb:fdB g (g.Feeds.take i) f=false:=by
      have:fdB g (g.Feeds.take i) f=(fdR g f&& !((g.Feeds.take i).any fun x=>decide (x.At=f.At))):=rfl;rw[this,hff];rfl
     exact g7 (by simp[c1G hf hfb])
    ·have hfd:fdR g f= !(!inr f.At 0 ((n:Int)-1)|| !inr f.Volts 1 1000|| !inr f.Siem 1 4|| !inr f.Limit 0 2000):=by
      simp only[fdR,hn]
      cases inr f.At 0 ((n:Int)-1)<;>cases inr f.Volts 1 1000<;>cases inr f.Siem 1 4<;>cases inr f.Limit 0 2000<;>rfl
     have hfo:fdR g f=true:=by rw[hfd,hc4];rfl
     have hfb:=hfo;simp only[fdR,Bool.and_eq_true,v9,hn]at hfb;obtain⟨a,ha⟩:∃a:Nat,f.At=a:=⟨f.At.toNat,by omega⟩;have han:a<n:=by omega
     have hst:=a9U (n:=n) (l:=fAt (g.Feeds.take i)) (a:=a);have e2:fAt (g.Feeds.take (i+1))=fAt (g.Feeds.take i)++[(a:Int)]:=by rw[a5H hf,ha]
     rw[←e2]at hst;have ga:=Y4 (l:=fAt (g.Feeds.take i)) han;have hd:=a0e (a:Int) (fAt (g.Feeds.take i));have hlt:(fAt (g.Feeds.take i)).length≤i:=by unfold fAt;rw[List.length_map,List.length_take];omega
     have hdl:=a4B n (fAt (g.Feeds.take i));have wa:IntKind.i64.wrap (P2 (fAt (g.Feeds.take i)) a+1)=P2 (fAt (g.Feeds.take i)) a+1:=i7 (by omega) (by omega);generalize P2 (fAt (g.Feeds.take i)) a=ca at hst ga wa;generalize a3v n (fAt (g.Feeds.take i))=cr at hst ga hdl ⊢;have hal:a<cr.length:=by omega
     have hga:cr[a]=ca:=Option.some.inj (by rw[←List.getElem?_eq_getElem hal];exact ga);refine f6 ?_;simp only[zT,reduceIte,Nat.reduceEqDiff];refine hK9 _ _ ?_;refine b8 [1,3,4,7,8] ?_;simp only[zP,Nat.reduceEqDiff,reduceIte];refine aR fun K hK=>?_;simp -dsimp [ha,hal,han,hga,wa];apply hK;clear hK K;simp only[zT,reduceIte,Nat.reduceEqDiff];refine hK8 _ _ ?_;refine b8 [1,3,4,7] ?_;simp only[zP,Nat.reduceEqDiff,reduceIte];refine aR fun K hK=>?_;simp -dsimp [wi];apply hK;clear hK K;simp only[zT,reduceIte,Nat.reduceEqDiff];refine⟨i+1,⟨by omega,fun j w' hj hw'=>?_⟩,by omega,e8 [some 0,some 1,some 2] rfl (by simp) (by simp[←hst,List.map_set,i9,hn])⟩
     rcases Nat.lt_succ_iff_lt_or_eq.1 hj with h|h
     ·exact i2 j w' h hw'
     ·subst h;rw[hf]at hw';rw[←Option.some.inj hw'];exact hfo
   ·have hie:i=g.Feeds.length:=by have hx:¬i<g.Feeds.length:=(by simpa using hc3);omega
    subst hie;rw[List.take_of_length_le (Nat.le_refl _)];refine j9 ?_;simp only[zT,reduceIte,Nat.reduceEqDiff];refine hK6 _ _ ?_;refine b8 [1,3,4] ?_;simp only[zP,Nat.reduceEqDiff,reduceIte];refine d4 fun K10 hK10=>?_;refine aS fun K hK=>?_;simp -dsimp;apply hK;clear hK K;refine e7 ?_;refine b8 [1,3,4,9] ?_;simp only[zP,Nat.reduceEqDiff,reduceIte];refine g9 [1,3,4] (α:=Nat) (fun k=>[(9,I k)]) (fun k=>[some (.els 4 [g.cells]),some (.els 1 ((a5W n g.Wires).map i9)),some (.els 1 ((a3v n (fAt g.Feeds)).map i9))]) (fun k=>k≤n∧∀j:Nat,j<k→deg g.Wires j≤3∧P2 (fAt g.Feeds) j≤1) (fun k=>n-k) 0 ?_ ?_ ?_
    ·exact⟨Nat.zero_le _,fun i h=>by omega⟩
    ·exact e8 [some 0,some 1,some 2] rfl (by simp) (by simp)
    rintro j ⟨j1,j2⟩;simp only[zP,Nat.reduceEqDiff,reduceIte];refine d4 fun K11 hK11=>?_;refine aS fun K hK=>?_;simp -dsimp [hn];apply hK;clear hK K;refine d9 rfl (fun hc5=>?_) (fun hc5=>?_)
    ·have hjn:j<n:=by simpa using hc5
     have wj:=zW j (by omega);have ga:=a0b (l:=g.Wires) hjn;have gb:=Y4 (l:=fAt g.Feeds) hjn;have hdl:=a9K n g.Wires;have hcl:=a4B n (fAt g.Feeds);have hal:j<(a5W n g.Wires).length:=by omega
     have hbl:j<(a3v n (fAt g.Feeds)).length:=by omega
     have hga:(a5W n g.Wires)[j]=deg g.Wires j:=Option.some.inj (by rw[←List.getElem?_eq_getElem hal];exact ga);have hgb:(a3v n (fAt g.Feeds))[j]=P2 (fAt g.Feeds) j:=Option.some.inj (by rw[←List.getElem?_eq_getElem hbl];exact gb);refine f6 ?_;simp only[zT,reduceIte,Nat.reduceEqDiff];refine hK11 _ _ ?_;refine b8 [1,3,4,9] ?_;simp only[zP,Nat.reduceEqDiff,reduceIte];refine d4 fun K12 hK12=>?_;refine e7 ?_;refine aS fun K hK=>?_;simp -dsimp [hal,hbl,hjn,hga,hgb];apply hK;clear hK K;refine d9 rfl (fun hc6=>?_) (fun hc6=>?_)
     ·refine aS fun K hK=>?_;simp -dsimp;apply hK;clear hK K;have hf:grB g=false:=by
       cases h:grB g with
       |false=>rfl
       |true=>
        have h1:=b7v h (j:Int);have h2:=b8v h (j:Int);simp at hc6;omega
      exact g7 (by simp[hf])
     ·refine f6 ?_;simp only[zT,reduceIte,Nat.reduceEqDiff];refine hK12 _ _ ?_;refine b8 [1,3,4,9] ?_;simp only[zP,Nat.reduceEqDiff,reduceIte];refine aR fun K hK=>?_;simp -dsimp [wj];apply hK;clear hK K;simp only[zT,reduceIte,Nat.reduceEqDiff];refine⟨j+1,⟨by omega,fun q hq=>?_⟩,by omega,e8 [some 0,some 1,some 2] rfl (by simp) (by simp[hn])⟩
      rcases Nat.lt_succ_iff_lt_or_eq.1 hq with h|h
      ·exact j2 q h
      ·subst h;simp at hc6;omega
    ·have hje:¬j<n:=by simpa using hc5
     refine j9 ?_;simp only[zT,reduceIte,Nat.reduceEqDiff];refine hK10 _ _ ?_;refine b8 [] ?_;simp only[zP,Nat.reduceEqDiff,reduceIte];refine aS fun K hK=>?_;simp -dsimp;apply hK;clear hK K;have ht:grB g=true:=c0N hH (fun k w hw=>k2 k w (List.getElem?_eq_some_iff.1 hw).1 hw) (fun k f hf=>i2 k f (List.getElem?_eq_some_iff.1 hf).1 hf) (fun k hk=>j2 k (by omega));exact g7 (by simp[ht])
theorem b5x (g:Gr) (s:Sta) (hw0:g.Wires.length≤100000):d5 Try.prog 43 [g.av,s.av] (Bo (stB g s)):=by
 refine d5.of_body Try.func43 rfl (by decide) (by simp[Try.ntmps43]) ?_;simp only[Try.ntmps43,Try.results43];refine aS fun K hK=>?_;simp -dsimp;apply hK;clear hK K;refine d4 fun K1 hK1=>?_;refine aS fun K hK=>?_;simp -dsimp;apply hK;clear hK K;refine d9 rfl (fun hc0=>?_) (fun hc0=>?_)
 ·refine aS fun K hK=>?_;simp -dsimp;apply hK;clear hK K;have hf:stB g s=false:=by
   cases hh:stB g s with
   |false=>rfl
   |true=>
    simp only[stB,Bool.and_eq_true,decide_eq_true_eq]at hh;simp[hh.1.1,hh.1.2]at hc0
  exact g7 (by simp[hf])
 ·have hl:s.Feeds.length=g.Feeds.length∧s.Wires.length=g.Wires.length:=by simp at hc0;omega
  refine f6 ?_;simp only[zT,reduceIte,Nat.reduceEqDiff];refine hK1 _ _ ?_;refine b8 [2,3] ?_;simp only[zP,Nat.reduceEqDiff,reduceIte];refine d4 fun K2 hK2=>?_;refine aS fun K hK=>?_;simp -dsimp;apply hK;clear hK K;refine e7 ?_;refine b8 [2,3,5] ?_;simp only[zP,Nat.reduceEqDiff,reduceIte];refine g9 [2,3] (α:=Nat) (fun k=>[(5,I k)]) (fun k=>[some (.els 4 [g.cells]),some (.els 2 [s.cells])]) (fun k=>k≤g.Wires.length∧a4V g s k=true) (fun k=>g.Wires.length-k) 0 ?_ ?_ ?_
  ·exact⟨Nat.zero_le _,rfl⟩
  ·exact e8 [some 0,some 1] rfl (by simp) (by simp)
  rintro k ⟨k1,k2⟩;simp only[zP,Nat.reduceEqDiff,reduceIte];refine d4 fun K3 hK3=>?_;refine aS fun K hK=>?_;simp -dsimp;apply hK;clear hK K;refine d9 rfl (fun hc1=>?_) (fun hc1=>?_)
  ·have hkl:k<g.Wires.length:=by simpa using hc1
   obtain⟨w,hw⟩:∃w,g.Wires[k]?=some w:=⟨_,List.getElem?_eq_getElem hkl⟩;have wk:=zW k (by omega);have gb:=s7 (l:=s.Wires) (k:=k) (by omega);refine f6 ?_;simp only[zT,reduceIte,Nat.reduceEqDiff];refine hK3 _ _ ?_;refine b8 [2,3,5] ?_;simp only[zP,Nat.reduceEqDiff,reduceIte];refine d4 fun K4 hK4=>?_;refine e7 ?_;refine aS fun K hK=>?_;simp -dsimp [hw,gb,hl.2];refine j8 (i8 (bAt s.Wires k)) (fun _=>by simp[gb]) ?_;simp -dsimp [hw,gb,hl.2];apply hK;clear hK K;refine d9 rfl (fun hc2=>?_) (fun hc2=>?_)
   ·refine aS fun K hK=>?_;simp -dsimp;apply hK;clear hK K;have hfl:(w.Sw||bAt s.Wires k)=false:=by cases hw1:w.Sw<;>cases hb1:bAt s.Wires k<;>simp[hw1,hb1]at hc2 ⊢
    have h1:a4V g s (k+1)=false:=by simp only[a4V,hw,hfl,Bool.and_false]
    have h2:=a8y h1 (g.Wires.length-(k+1));rw[show k+1+(g.Wires.length-(k+1))=g.Wires.length by omega]at h2;exact g7 (by simp[stB,h2])
   ·refine f6 ?_;simp only[zT,reduceIte,Nat.reduceEqDiff];refine hK4 _ _ ?_;refine b8 [2,3,5] ?_;simp only[zP,Nat.reduceEqDiff,reduceIte];refine aR fun K hK=>?_;simp -dsimp [wk];apply hK;clear hK K;simp only[zT,reduceIte,Nat.reduceEqDiff];refine⟨k+1,⟨by omega,?_⟩,by omega,e8 [some 0,some 1] rfl (by simp) (by simp)⟩;simp only[a4V,k2,hw,Bool.true_and]
    cases hw1:w.Sw<;>cases hb1:bAt s.Wires k<;>simp[hw1,hb1]at hc2 ⊢
  ·have hke:k=g.Wires.length:=by have hx:¬k<g.Wires.length:=(by simpa using hc1);omega
   subst hke;refine j9 ?_;simp only[zT,reduceIte,Nat.reduceEqDiff];refine hK2 _ _ ?_;refine b8 [] ?_;simp only[zP,Nat.reduceEqDiff,reduceIte];refine aS fun K hK=>?_;simp -dsimp;apply hK;clear hK K;exact g7 (by simp[stB,hl.1,hl.2,k2])
def lAt (l:List Ld):List Int:=l.map fun f=>f.At
@[simp] theorem c3g:lAt []=[]:=rfl
theorem b9C {l:List Ld} {x:Int}:(l.any fun f=>decide (f.At=x))=decide (x∈lAt l):=by
 unfold lAt;rw[Bool.eq_iff_iff];simp
theorem b6O (g:Gr) (l:List Ld) (n:Nat) (hn:g.Nodes=n) (hn1:0<n) (hn0:n≤1000) (hl0:l.length≤100000):d5 Try.prog 58 [g.av,lL l] (Bo (a1V g l l.length)):=by
 have f0:C7 n 9:=k9 (by omega) (by omega);have wn:IntKind.i64.wrap ((n:Int)-1)=(n:Int)-1:=i7 (by omega) (by omega);have hz:List.replicate n [AV.v (Value.int .i64 0)]=(a3v n []).map i9:=c1i n _ fun k=>rfl;refine d5.of_body Try.func58 rfl (by decide) (by simp[Try.ntmps58]) ?_;simp only[Try.ntmps58,Try.results58];refine aS fun K hK=>?_;simp -dsimp;apply hK;clear hK K;refine aS fun K hK=>?_;simp -dsimp [hn,f0];apply hK;clear hK K;refine d4 fun K1 hK1=>?_;refine aS fun K hK=>?_;simp -dsimp;apply hK;clear hK K;refine e7 ?_;refine b8 [1,2,5,6] ?_;simp only[zP,Nat.reduceEqDiff,reduceIte];refine g9 [1,2,5] (α:=Nat) (fun k=>[(6,I k)]) (fun k=>[some (.els 4 [g.cells]),some (.els 1 ((a3v n (lAt (l.take k))).map i9))]) (fun k=>k≤l.length∧a1V g l k=true) (fun k=>l.length-k) 0 ?_ ?_ ?_
 ·exact⟨Nat.zero_le _,rfl⟩
 ·exact e8 [some 0,some 1] rfl (by simp) (by simp[hn,hz])
 rintro k ⟨k1,k2⟩;simp only[zP,Nat.reduceEqDiff,reduceIte];refine d4 fun K2 hK2=>?_;refine aS fun K hK=>?_;simp -dsimp;apply hK;clear hK K;refine d9 rfl (fun hc0=>?_) (fun hc0=>?_)
 ·have hkl:k<l.length:=by simpa using hc0
  have wk:=zW k (by omega);obtain⟨f,hf⟩:∃f,l[k]?=some f:=⟨_,List.getElem?_eq_getElem hkl⟩;have hfd:ldB g (l.take k) f= !(!inr f.At 0 ((n:Int)-1)|| !inr f.Units (-40) 40|| !inr f.Rank 0 100|| !decide (P2 (lAt (l.take k)) f.At=0)):=by
   have e:((l.take k).any fun x=>decide (x.At=f.At))= !decide (P2 (lAt (l.take k)) f.At=0):=by
    rw[b9C,←decide_not];exact decide_eq_decide.2 (by rw[X9,Decidable.not_not])
   simp only[ldB,hn,e]
   cases inr f.At 0 ((n:Int)-1)<;>cases inr f.Units (-40) 40<;>cases inr f.Rank 0 100<;>cases decide (P2 (lAt (l.take k)) f.At=0)<;>rfl
  have hcn:=a0e f.At (lAt (l.take k));have hlt:(lAt (l.take k)).length≤k:=by unfold lAt;rw[List.length_map,List.length_take];omega
  have hcl:=a4B n (lAt (l.take k));have hn0l:0<(a3v n (lAt (l.take k))).length:=by omega
  have hend:ldB g (l.take k) f=false→a1V g l l.length=false:=fun h=>by
   have h1:a1V g l (k+1)=false:=by simp only[a1V,hf,h,Bool.and_false]
   have h2:=a8o h1 (l.length-(k+1))
   rwa [show k+1+(l.length-(k+1))=l.length by omega]at h2
  refine f6 ?_;simp only[zT,reduceIte,Nat.reduceEqDiff];refine hK2 _ _ ?_;refine b8 [1,2,5,6] ?_;simp only[zP,Nat.reduceEqDiff,reduceIte];refine d4 fun K3 hK3=>?_;refine e7 ?_;refine d4 fun K4 hK4=>?_;have hcase:inr f.At 0 ((n:Int)-1)=true→0≤f.At∧f.At.toNat<n:=fun h=>by rw[v9]at h;omega
  obtain⟨iA,hiA⟩:∃iA,iA=inr f.At 0 ((n:Int)-1):=⟨_,rfl⟩
  cases iA
  all_goals have hin:=hiA.symm
  rotate_left
  obtain⟨hA0,hat⟩:=hcase hin;have hal:f.At.toNat<(a3v n (lAt (l.take k))).length:=by omega
  have hga:(a3v n (lAt (l.take k)))[f.At.toNat]=P2 (lAt (l.take k)) f.At:=Option.some.inj (by rw[←List.getElem?_eq_getElem hal,Y4 hat,Int.toNat_of_nonneg hA0])
  rotate_left
  ·refine v5 l6 rfl fun K hK=>?_;simp -dsimp [hf,hn,wn,hin,hn0l,hn1];refine d6 _ (W0 _ _ _) (by simp) ?_;simp -dsimp [hf,hn,wn,hin,hn0l,hn1];refine j8 ((⟨0,0,0⟩:Ld).cells) (fun hm=>by simp[hin]at hm) ?_;simp -dsimp [hf,hn,wn,hin,hn0l,hn1];refine f8 _ (fun hm=>W0 0 (-40) 40) (by simp) ?_;simp -dsimp [hf,hn,wn,hin,hn0l,hn1];refine j8 ((⟨0,0,0⟩:Ld).cells) (fun hm=>by simp[hin]at hm) ?_;simp -dsimp [hf,hn,wn,hin,hn0l,hn1];refine f8 _ (fun hm=>W0 0 0 100) (by simp) ?_;simp -dsimp [hf,hn,wn,hin,hn0l,hn1];refine j8 ((⟨0,0,0⟩:Ld).cells) (fun hm=>by simp[hin]at hm) ?_;simp -dsimp [hf,hn,wn,hin,hn0l,hn1];refine hK _ _ _ (by decide+kernel) ?_;clear hK K;refine d9 rfl (fun hc1=>?_) (fun hc1=>?_)
   ·refine aS fun K hK=>?_;simp -dsimp;apply hK;clear hK K;exact g7 (by simp[hend (by rw[hfd,hin];rfl)])
   ·simp[hin]at hc1
  ·refine v5 l6 rfl fun K hK=>?_;simp -dsimp [hf,hn,wn,hin,hA0,hat,hal,hga];refine d6 _ (W0 _ _ _) (by simp) ?_;simp -dsimp [hf,hn,wn,hin,hA0,hat,hal,hga];refine j8 f.cells (fun _=>by simp[hf]) ?_;simp -dsimp [hf,hn,wn,hin,hA0,hat,hal,hga];refine f8 _ (fun hm=>W0 f.Units (-40) 40) (by simp) ?_;simp -dsimp [hf,hn,wn,hin,hA0,hat,hal,hga];refine j8 f.cells (fun _=>by simp[hf]) ?_;simp -dsimp [hf,hn,wn,hin,hA0,hat,hal,hga];refine f8 _ (fun hm=>W0 f.Rank 0 100) (by simp) ?_;simp -dsimp [hf,hn,wn,hin,hA0,hat,hal,hga];refine j8 f.cells (fun _=>by simp[hf]) ?_;simp -dsimp [hf,hn,wn,hin,hA0,hat,hal,hga];refine hK _ _ _ (by decide+kernel) ?_;clear hK K;refine d9 rfl (fun hc1=>?_) (fun hc1=>?_)
   ·refine aS fun K hK=>?_;simp -dsimp;apply hK;clear hK K;have hlf:ldB g (l.take k) f=false:=by
     rw[hfd,hin]
     cases h1:inr f.Units (-40) 40<;>cases h2:inr f.Rank 0 100<;>simp[h1,h2]at hc1 ⊢
     omega
    exact g7 (by simp[hend hlf])
   ·have hlt2:ldB g (l.take k) f=true:=by
     rw[hfd,hin]
     cases h1:inr f.Units (-40) 40<;>cases h2:inr f.Rank 0 100<;>simp[h1,h2]at hc1 ⊢
     omega
    have hst:=a9U (n:=n) (l:=lAt (l.take k)) (a:=f.At.toNat);rw[Int.toNat_of_nonneg hA0]at hst;have hsn:lAt (l.take (k+1))=lAt (l.take k)++[f.At]:=by unfold lAt;rw[List.take_add_one,hf];simp
    rw[←hsn]at hst;have wa:IntKind.i64.wrap (P2 (lAt (l.take k)) f.At+1)=P2 (lAt (l.take k)) f.At+1:=i7 (by omega) (by omega);refine f6 ?_;simp only[zT,reduceIte,Nat.reduceEqDiff];refine hK4 _ _ ?_;refine b8 [1,2,5,6] ?_;simp only[zP,Nat.reduceEqDiff,reduceIte];refine aR fun K hK=>?_;simp -dsimp [hf,hA0,hat,hal,hga,wa];apply hK;clear hK K;simp only[zT,reduceIte,Nat.reduceEqDiff];refine hK3 _ _ ?_;refine b8 [1,2,5,6] ?_;simp only[zP,Nat.reduceEqDiff,reduceIte];refine aR fun K hK=>?_;simp -dsimp [wk];apply hK;clear hK K;simp only[zT,reduceIte,Nat.reduceEqDiff];refine⟨k+1,⟨by omega,?_⟩,by omega,e8 [some 0,some 1] rfl (by simp) (by simp[←hst,List.map_set,i9,hn])⟩;simp only[a1V,k2,hf,hlt2,Bool.and_self]
 ·have hke:k=l.length:=by have hx:¬k<l.length:=(by simpa using hc0);omega
  subst hke;refine j9 ?_;simp only[zT,reduceIte,Nat.reduceEqDiff];refine hK1 _ _ ?_;refine b8 [] ?_;simp only[zP,Nat.reduceEqDiff,reduceIte];refine aS fun K hK=>?_;simp -dsimp;apply hK;clear hK K;exact g7 (by simp[k2])
theorem b4R (g:Gr) (s:Sta) (l:List Ld) (hw0:g.Wires.length≤100000) (hf0:g.Feeds.length≤100000) (hl0:l.length≤100000):d5 Try.prog 32 [g.av,s.av,lL l] (Bo (w9 g s l)):=by
 have hg:=c0i g hw0 hf0;have hs:=b5x g s hw0;have hl:grB g=true→d5 Try.prog 58 [g.av,lL l] (Bo (a1V g l l.length)):=fun h=>by
  have hbd:=r7 h;exact b6O g l g.Nodes.toNat (by omega) (by omega) (by omega) hl0
 refine d5.of_body Try.func32 rfl (by decide) (by simp[Try.ntmps32]) ?_;simp only[Try.ntmps32,Try.results32];refine aS fun K hK=>?_;simp -dsimp;apply hK;clear hK K;refine aS fun K hK=>?_;simp -dsimp;refine d6 _ (hg) (by simp) ?_;simp -dsimp;refine f8 _ (fun hm=>hs) (by simp) ?_;simp -dsimp;refine f8 _ (fun hm=>hl (by simp at hm;exact hm.1)) (by simp) ?_;simp -dsimp;apply hK;clear hK K;exact g7 (by simp[w9])
end Go.Cur
end
section
namespace Go.Cur
open Go.AM Go.Proofs
def nmS (n:Nat) (f:Nat→Nat):List Int:=(List.range n).map fun(k:Nat)=>((f k:Nat):Int)
theorem a0s {n:Nat} {f:Nat→Nat} {k:Nat} (h:k<n):(nmS n f)[k]?=some ((f k:Nat):Int):=by
 unfold nmS;rw[List.getElem?_map,List.getElem?_range h];rfl
theorem a7K (n:Nat) (f:Nat→Nat):(nmS n f).length=n:=by simp[nmS]
theorem a7R {n:Nat} {f:Nat→Nat} {a v:Nat}:(nmS n f).set a (v:Int)=nmS n fun k=>if k=a then v else f k:=by
 refine List.ext_getElem? fun i=>?_
 by_cases hi:i<n
 ·rw[a0s hi]
  by_cases h2:i=a
  ·subst h2;rw[List.getElem?_set_self (by simp[nmS];omega),if_pos rfl]
  ·rw[List.getElem?_set_ne (fun e=>h2 e.symm),a0s hi,if_neg h2]
 ·rw[List.getElem?_eq_none (by simp[nmS];omega),List.getElem?_eq_none (by simp[nmS];omega)]
theorem a2J {n:Nat} {f h:Nat→Nat} (e:∀k,k<n→f k=h k):nmS n f=nmS n h:=by
 unfold nmS;exact List.map_congr_left fun k hk=>by rw[e k (List.mem_range.1 hk)]
theorem c1u {l:List Wr} {b:List Bool} {k:Nat} {w:Wr} {c:Bool} (hl:l[k]?=some w) (hb:b[k]?=some c):onW (l.take (k+1)) (b.take (k+1))=onW (l.take k) (b.take k)++if c=true then [⟨w.A.toNat,w.B.toNat,w.Siem⟩]else []:=by
 have hk:=(List.getElem?_eq_some_iff.1 hl).1;have hk2:=(List.getElem?_eq_some_iff.1 hb).1;unfold onW;rw[List.take_add_one,List.take_add_one,hl,hb,List.zip_append (by simp;omega),List.filterMap_append]
 cases c<;>simp
theorem b5P (E:List (Nat×Nat)) (e:Nat×Nat) (f:Nat→Nat):nmR (E++[e]) f=nmE (nmR E f) e:=by
 unfold nmR;rw[List.foldl_append];rfl
def hdL (E:List (Nat×Nat)) (n i:Nat):List (List Nat):=((List.range i).filter fun j=>decide (nm E n j=j)).map (cp E n)
theorem b5z (E:List (Nat×Nat)) (n i:Nat):hdL E n (i+1)=hdL E n i++if nm E n i=i then [cp E n i]else []:=by
 unfold hdL;rw[List.range_succ,List.filter_append,List.map_append]
 by_cases h:nm E n i=i<;>simp[h]
theorem b9J (E:List (Nat×Nat)) (n i:Nat):(hdL E n i).length≤i:=by
 unfold hdL;rw[List.length_map];have:=List.length_filter_le (fun j=>decide (nm E n j=j)) (List.range i);simpa using this
def ptL (E:List (Nat×Nat)) (n i k:Nat):List Nat:=(List.range k).filter fun q=>decide (nm E n q=i)
theorem b0m (E:List (Nat×Nat)) (n i:Nat):ptL E n i i=[]:=by
 unfold ptL;rw[List.filter_eq_nil_iff];intro q hq;have:=b9l (E:=E) (n:=n) (k:=q);rw[List.mem_range]at hq;simp;omega
theorem b6b (E:List (Nat×Nat)) (n i k:Nat):ptL E n i (k+1)=ptL E n i k++if nm E n k=i then [k]else []:=by
 unfold ptL;rw[List.range_succ,List.filter_append]
 by_cases h:nm E n k=i<;>simp[h]
theorem c0m (E:List (Nat×Nat)) (n i k:Nat):(ptL E n i k).length≤k:=by
 unfold ptL;have:=List.length_filter_le (fun q=>decide (nm E n q=i)) (List.range k);simpa using this
theorem T2 (g:Gr) (s:Sta) (hnt:o8 g s):d5 Try.prog 23 [g.av,s.av] (.lst 1 ((l8 g s).map pAV)):=by
 have hbd:=r7 hnt.gr;have hsw:=hnt.sw;have hwr:=hnt.wires;have hwo:∀(k:Nat) w,g.Wires[k]?=some w→w.A.toNat<g.Nodes.toNat∧w.B.toNat<g.Nodes.toNat∧0≤w.A∧0≤w.B:=fun k w hw=>by
  have:=hwr w (List.mem_of_getElem? hw);simp only[wrB,Bool.and_eq_true,v9]at this;omega
 have hpl:l8 g s=hdL (a2T g s) g.Nodes.toNat g.Nodes.toNat:=rfl;rw[hpl];have hEe:a2T g s=T7 (onW g.Wires s.Wires):=rfl;obtain⟨n,hn⟩:∃n:Nat,g.Nodes=n:=⟨g.Nodes.toNat,by omega⟩;have hnn:g.Nodes.toNat=n:=by omega
 rw[hnn]at hwo ⊢;generalize a2T g s=E at hEe ⊢;have f0:C7 n 9:=k9 (by omega) (by omega);have hz:List.replicate n [AV.v (Value.int .i64 0)]=(nmS n fun _=>0).map i9:=c1i n _ fun k=>rfl;refine d5.of_body Try.func23 rfl (by decide) (by simp[Try.ntmps23]) ?_;simp only[Try.ntmps23,Try.results23];refine aS fun K hK=>?_;simp -dsimp;apply hK;clear hK K;refine aS fun K hK=>?_;simp -dsimp [hn,f0];apply hK;clear hK K;refine d4 fun K1 hK1=>?_;refine aS fun K hK=>?_;simp -dsimp;apply hK;clear hK K;refine e7 ?_;refine b8 [2,3,5,6] ?_;simp only[zP,Nat.reduceEqDiff,reduceIte];refine g9 [2,3,5] (α:=Nat) (fun k=>[(6,I k)]) (fun k=>[some (.els 4 [g.cells]),some (.els 2 [s.cells]),some (.els 1 ((nmS n fun j=>if j<k then j else 0).map i9))]) (fun k=>k≤n) (fun k=>n-k) 0 ?_ ?_ ?_
 ·exact Nat.zero_le _
 ·exact e8 [some 0,some 1,some 2] rfl (by simp) (by simp[hn,hz])
 rintro k k1;simp only[zP,Nat.reduceEqDiff,reduceIte];refine d4 fun K2 hK2=>?_;refine aS fun K hK=>?_;simp -dsimp [hn];apply hK;clear hK K;refine d9 rfl (fun hc0=>?_) (fun hc0=>?_)
 ·have hkl:k<n:=by simpa using hc0
  have wk:=zW k (by omega);have hnl:=a7K n fun j=>if j<k then j else 0;have hst:=a7R (n:=n) (f:=fun j=>if j<k then j else 0) (a:=k) (v:=k);have hst2:nmS n (fun j=>if j=k then k else if j<k then j else 0)=nmS n fun j=>if j<k+1 then j else 0:=a2J fun j hj=>by
   by_cases h1:j=k
   ·rw[if_pos h1,if_pos (by omega),h1]
   ·rw[if_neg h1]
    by_cases h2:j<k
    ·rw[if_pos h2,if_pos (by omega)]
    ·rw[if_neg h2,if_neg (by omega)]
  rw[hst2]at hst;generalize (nmS n fun j=>if j<k then j else 0)=R at hnl hst ⊢;refine f6 ?_;simp only[zT,reduceIte,Nat.reduceEqDiff];refine hK2 _ _ ?_;refine b8 [2,3,5,6] ?_;simp only[zP,Nat.reduceEqDiff,reduceIte];refine d4 fun K3 hK3=>?_;refine e7 ?_;refine aR fun K hK=>?_;simp -dsimp [hnl,hkl];apply hK;clear hK K;simp only[zT,reduceIte,Nat.reduceEqDiff];refine hK3 _ _ ?_;refine b8 [2,3,5,6] ?_;simp only[zP,Nat.reduceEqDiff,reduceIte];refine aR fun K hK=>?_;simp -dsimp [wk];apply hK;clear hK K;simp only[zT,reduceIte,Nat.reduceEqDiff];exact⟨k+1,by omega,by omega,e8 [some 0,some 1,some 2] rfl (by simp) (by simp[←hst,List.map_set,i9,hn])⟩
 ·have hke:k=n:=by have hx:¬k<n:=(by simpa using hc0);omega
  have e0:nmS n (fun j=>if j<k then j else 0)=nmS n (nmT E 0):=a2J fun j hj=>by rw[if_pos (by omega)];rfl
  rw[e0];refine j9 ?_;simp only[zT,reduceIte,Nat.reduceEqDiff];refine hK1 _ _ ?_;refine b8 [2,3,5] ?_;simp only[zP,Nat.reduceEqDiff,reduceIte];refine d4 fun K4 hK4=>?_;refine aS fun K hK=>?_;simp -dsimp;apply hK;clear hK K;refine e7 ?_;refine b8 [2,3,5,7] ?_;simp only[zP,Nat.reduceEqDiff,reduceIte];refine g9 [2,3,5] (α:=Nat) (fun t=>[(7,I t)]) (fun t=>[some (.els 4 [g.cells]),some (.els 2 [s.cells]),some (.els 1 ((nmS n (nmT E t)).map i9))]) (fun t=>t≤n) (fun t=>n-t) 0 ?_ ?_ ?_
  ·exact Nat.zero_le _
  ·exact e8 [some 0,some 1,some 2] rfl (by simp) (by simp[hn])
  rintro t t1;simp only[zP,Nat.reduceEqDiff,reduceIte];refine d4 fun K5 hK5=>?_;refine aS fun K hK=>?_;simp -dsimp [hn];apply hK;clear hK K;refine d9 rfl (fun hc1=>?_) (fun hc1=>?_)
  ·have htl:t<n:=by simpa using hc1
   have wt:=zW t (by omega);refine f6 ?_;simp only[zT,reduceIte,Nat.reduceEqDiff];refine hK5 _ _ ?_;refine b8 [2,3,5,7] ?_;simp only[zP,Nat.reduceEqDiff,reduceIte];refine d4 fun K6 hK6=>?_;refine e7 ?_;refine aS fun K hK=>?_;simp -dsimp;apply hK;clear hK K;refine e7 ?_;refine b8 [2,3,5,7,8] ?_;simp only[zP,Nat.reduceEqDiff,reduceIte];refine g9 [2,3,5,7] (α:=Nat) (fun i=>[(8,I i)]) (fun i=>[some (.els 4 [g.cells]),some (.els 2 [s.cells]),some (.els 1 ((nmS n (nmR (T7 (onW (g.Wires.take i) (s.Wires.take i))) (nmT E t))).map i9))]) (fun i=>i≤g.Wires.length) (fun i=>g.Wires.length-i) 0 ?_ ?_ ?_
   ·exact Nat.zero_le _
   ·exact e8 [some 0,some 1,some 2] rfl (by simp) (by simp[onW,T7,nmR,hn])
   rintro i i1;simp only[zP,Nat.reduceEqDiff,reduceIte];refine d4 fun K7 hK7=>?_;refine aS fun K hK=>?_;simp -dsimp;apply hK;clear hK K;refine d9 rfl (fun hc2=>?_) (fun hc2=>?_)
   ·have hil:i<g.Wires.length:=by simpa using hc2
    have wi:=zW i (by omega);obtain⟨w,hw⟩:∃w,g.Wires[i]?=some w:=⟨_,List.getElem?_eq_getElem hil⟩;have gb:=s7 (l:=s.Wires) (k:=i) (by omega);have hos:=c1u hw gb;obtain⟨ha,hb,ha0,hb0⟩:=hwo i w hw;obtain⟨a,hae⟩:∃a:Nat,w.A=a:=⟨w.A.toNat,by omega⟩;obtain⟨b,hbe⟩:∃b:Nat,w.B=b:=⟨w.B.toNat,by omega⟩;have han:a<n:=by omega
    have hbn:b<n:=by omega
    obtain⟨f,hf⟩:∃f,f=nmR (T7 (onW (g.Wires.take i) (s.Wires.take i))) (nmT E t):=⟨_,rfl⟩;rw[←hf];have hnl:=a7K n f;have ga:=a0s (f:=f) han;have gbb:=a0s (f:=f) hbn;have hst:((nmS n f).set a ((min (f a) (f b):Nat):Int)).set b ((min (f a) (f b):Nat):Int)=nmS n (nmE f (a,b)):=by
     rw[a7R,a7R];refine a2J fun j hj=>?_;unfold nmE;simp only
     by_cases h1:j=b
     ·rw[if_pos h1,if_pos (Or.inr h1)]
     ·rw[if_neg h1]
      by_cases h2:j=a
      ·rw[if_pos h2,if_pos (Or.inl h2)]
      ·rw[if_neg h2,if_neg (by omega)]
    have hmn:(if f b<f a then((f b:Nat):Int)else((f a:Nat):Int))=((min (f a) (f b):Nat):Int):=by split<;>omega
    have hab:a≠b:=by have:=hwr w (List.mem_of_getElem? hw);simp only[wrB,Bool.and_eq_true,Bool.not_eq_true',decide_eq_false_iff_not]at this;omega
    have his:i<s.Wires.length:=by omega
    have hgs:s.Wires[i]=bAt s.Wires i:=Option.some.inj (by rw[←List.getElem?_eq_getElem his];exact gb);obtain⟨R,hR⟩:∃R,R=nmS n f:=⟨_,rfl⟩;rw[←hR]at hnl ga gbb hst ⊢;have hal:a<R.length:=by omega
    have hbl:b<R.length:=by omega
    have hga:R[a]=((f a:Nat):Int):=Option.some.inj (by rw[←List.getElem?_eq_getElem hal];exact ga);have hgb:R[b]=((f b:Nat):Int):=Option.some.inj (by rw[←List.getElem?_eq_getElem hbl];exact gbb);refine f6 ?_;simp only[zT,reduceIte,Nat.reduceEqDiff];refine hK7 _ _ ?_;refine b8 [2,3,5,7,8] ?_;simp only[zP,Nat.reduceEqDiff,reduceIte];refine d4 fun K8 hK8=>?_;refine e7 ?_;refine aS fun K hK=>?_;simp -dsimp [hw];apply hK;clear hK K;refine aS fun K hK=>?_;simp -dsimp [hgs,his];apply hK;clear hK K;refine d9 rfl (fun hc3=>?_) (fun hc3=>?_)
    ·refine v5 l6 rfl fun K hK=>?_;simp -dsimp [hae,hbe,hal,hbl,han,hbn,hga,hgb,hmn];refine hK _ _ _ (by decide+kernel) ?_;clear hK K;refine E1 l6 rfl fun K hK=>?_;simp -dsimp [hae,hbe,hal,hbl,han,hbn,hab,hgb];refine hK _ _ _ (by decide+kernel) ?_;clear hK K;simp only[zT,reduceIte,Nat.reduceEqDiff];refine hK8 _ _ ?_;refine b8 [2,3,5,7,8] ?_;simp only[zP,Nat.reduceEqDiff,reduceIte];refine aR fun K hK=>?_;simp -dsimp [wi];apply hK;clear hK K;simp only[zT,reduceIte,Nat.reduceEqDiff];have hon:T7 (onW (g.Wires.take (i+1)) (s.Wires.take (i+1)))=T7 (onW (g.Wires.take i) (s.Wires.take i))++[(a,b)]:=by rw[hos,if_pos hc3];unfold T7;rw[List.map_append];simp[Wn.e,hae,hbe]
     refine⟨i+1,by omega,by omega,e8 [some 0,some 1,some 2] rfl (by simp) ?_⟩;rw[hon,b5P,←hf,←hst];simp[List.map_set,i9,hn]
    ·refine f6 ?_;simp only[zT,reduceIte,Nat.reduceEqDiff];refine hK8 _ _ ?_;refine b8 [2,3,5,7,8] ?_;simp only[zP,Nat.reduceEqDiff,reduceIte];refine aR fun K hK=>?_;simp -dsimp [wi];apply hK;clear hK K;simp only[zT,reduceIte,Nat.reduceEqDiff];have hon:T7 (onW (g.Wires.take (i+1)) (s.Wires.take (i+1)))=T7 (onW (g.Wires.take i) (s.Wires.take i)):=by rw[hos,if_neg (by simp[hc3]),List.append_nil]
     refine⟨i+1,by omega,by omega,e8 [some 0,some 1,some 2] rfl (by simp) ?_⟩;rw[hon,←hf];simp[hn,hR]
   ·have hie:i=g.Wires.length:=by have hx:¬i<g.Wires.length:=(by simpa using hc2);omega
    have e1:nmR (T7 (onW (g.Wires.take i) (s.Wires.take i))) (nmT E t)=nmT E (t+1):=by rw[hie,List.take_of_length_le (Nat.le_refl _),List.take_of_length_le (by omega),←hEe];rfl
    rw[e1];refine j9 ?_;simp only[zT,reduceIte,Nat.reduceEqDiff];refine hK6 _ _ ?_;refine b8 [2,3,5,7] ?_;simp only[zP,Nat.reduceEqDiff,reduceIte];refine aR fun K hK=>?_;simp -dsimp [wt];apply hK;clear hK K;simp only[zT,reduceIte,Nat.reduceEqDiff];exact⟨t+1,by omega,by omega,e8 [some 0,some 1,some 2] rfl (by simp) (by simp[hn])⟩
  ·have hte:t=n:=by have hx:¬t<n:=(by simpa using hc1);omega
   rw[hte,show nmT E n=nm E n from rfl];refine j9 ?_;simp only[zT,reduceIte,Nat.reduceEqDiff];refine hK4 _ _ ?_;refine b8 [2,5] ?_;simp only[zP,Nat.reduceEqDiff,reduceIte];refine aS fun K hK=>?_;simp -dsimp;apply hK;clear hK K;refine d4 fun K9 hK9=>?_;refine aS fun K hK=>?_;simp -dsimp;apply hK;clear hK K;refine e7 ?_;refine b8 [2,5,11,12] ?_;simp only[zP,Nat.reduceEqDiff,reduceIte];refine g9 [2,5] (α:=Nat) (fun i=>[(11, .row 3 0 (hdL E n i).length),(12,I i)]) (fun i=>[some (.els 4 [g.cells]),some (.els 2 [s.cells]),some (.els 1 ((nmS n (nm E n)).map i9)),some (.els 1 ((hdL E n i).map pAV))]) (fun i=>i≤n) (fun i=>n-i) 0 ?_ ?_ ?_
   ·exact Nat.zero_le _
   ·exact(z8 11 1 (by simp)).trans (e8 [some 0,some 1,some 2,some 3] rfl (by simp[hdL]) (by simp[hdL,hn]))
   rintro i i1;simp only[zP,Nat.reduceEqDiff,reduceIte];refine d4 fun K10 hK10=>?_;refine aS fun K hK=>?_;simp -dsimp [hn];apply hK;clear hK K;refine d9 rfl (fun hc4=>?_) (fun hc4=>?_)
   ·have hil:i<n:=by simpa using hc4
    have wi:=zW i (by omega);have gi:=a0s (f:=nm E n) hil;have hnl:=a7K n (nm E n);have hhs:=b5z E n i;have hhl:=b9J E n i;have f1:C7 ((hdL E n i).length+1) 25:=k9 (by omega) (by omega);have hil2:i<(nmS n (nm E n)).length:=by omega
    have hgi:(nmS n (nm E n))[i]=((nm E n i:Nat):Int):=Option.some.inj (by rw[←List.getElem?_eq_getElem hil2];exact gi);refine f6 ?_;simp only[zT,reduceIte,Nat.reduceEqDiff];refine hK10 _ _ ?_;refine b8 [2,5,11,12] ?_;simp only[zP,Nat.reduceEqDiff,reduceIte];refine d4 fun K11 hK11=>?_;refine e7 ?_;refine d4 fun K12 hK12=>?_;refine aS fun K hK=>?_;simp -dsimp [hil2,hil,hgi];apply hK;clear hK K;refine d9 rfl (fun hc5=>?_) (fun hc5=>?_)
    ·have hne:¬nm E n i=i:=by intro h;simp[h]at hc5
     rw[if_neg hne,List.append_nil]at hhs;refine j9 ?_;simp only[zT,reduceIte,Nat.reduceEqDiff];refine hK11 _ _ ?_;refine b8 [2,5,11,12] ?_;simp only[zP,Nat.reduceEqDiff,reduceIte];refine aR fun K hK=>?_;simp -dsimp [wi];apply hK;clear hK K;simp only[zT,reduceIte,Nat.reduceEqDiff];exact⟨i+1,by omega,by omega,e8 [some 0,some 1,some 2,some 3] rfl (by simp[hhs]) (by simp[hhs,hn])⟩
    ·have heq:nm E n i=i:=by have h:=hc5;simp at h;omega
     rw[if_pos heq]at hhs;refine f6 ?_;simp only[zT,reduceIte,Nat.reduceEqDiff];refine hK12 _ _ ?_;refine b8 [2,5,11,12] ?_;simp only[zP,Nat.reduceEqDiff,reduceIte];refine aS fun K hK=>?_;simp -dsimp;apply hK;clear hK K;refine d4 fun K13 hK13=>?_;refine aS fun K hK=>?_;simp -dsimp;apply hK;clear hK K;refine e7 ?_;refine b8 [2,5,11,12,13,14] ?_;simp only[zP,Nat.reduceEqDiff,reduceIte];refine g9 [2,5,11,12] (α:=Nat) (fun k=>[(13, .row 4 0 (ptL E n i k).length),(14,I k)]) (fun k=>[some (.els 4 [g.cells]),some (.els 2 [s.cells]),some (.els 1 ((nmS n (nm E n)).map i9)),some (.els 1 ((hdL E n i).map pAV)),some (.els 1 ((upN (ptL E n i k)).map i9))]) (fun k=>k≤n) (fun k=>n-k) i ?_ ?_ ?_
     ·exact i1
     ·exact(z8 13 1 (by simp)).trans (e8 [some 0,some 1,some 2,some 3,some 4] rfl (by simp[b0m]) (by simp[b0m,upN,hn]))
     rintro k k1;simp only[zP,Nat.reduceEqDiff,reduceIte];refine d4 fun K14 hK14=>?_;refine aS fun K hK=>?_;simp -dsimp [hn];apply hK;clear hK K;refine d9 rfl (fun hc6=>?_) (fun hc6=>?_)
     ·have hkl:k<n:=by simpa using hc6
      have wk:=zW k (by omega);have gk:=a0s (f:=nm E n) hkl;have hps:=b6b E n i k;have hpl2:=c0m E n i k;have hul:=r9 (ptL E n i k);have f2:C7 ((ptL E n i k).length+1) 9:=k9 (by omega) (by omega);have hkl2:k<(nmS n (nm E n)).length:=by omega
      have hgk:(nmS n (nm E n))[k]=((nm E n k:Nat):Int):=Option.some.inj (by rw[←List.getElem?_eq_getElem hkl2];exact gk);refine f6 ?_;simp only[zT,reduceIte,Nat.reduceEqDiff];refine hK14 _ _ ?_;refine b8 [2,5,11,12,13,14] ?_;simp only[zP,Nat.reduceEqDiff,reduceIte];refine d4 fun K15 hK15=>?_;refine e7 ?_;refine aS fun K hK=>?_;simp -dsimp [hkl2,hkl,hgk];apply hK;clear hK K;refine d9 rfl (fun hc7=>?_) (fun hc7=>?_)
      ·have hnk:nm E n k=i:=by have h:=hc7;simp at h;omega
       rw[if_pos hnk]at hps;refine aR fun K hK=>?_;simp -dsimp [f2,hul];apply hK;clear hK K;simp only[zT,reduceIte,Nat.reduceEqDiff];refine hK15 _ _ ?_;refine b8 [2,5,11,12,13,14] ?_;simp only[zP,Nat.reduceEqDiff,reduceIte];refine aR fun K hK=>?_;simp -dsimp [wk];apply hK;clear hK K;simp only[zT,reduceIte,Nat.reduceEqDiff];exact⟨k+1,by omega,by omega,e8 [some 0,some 1,some 2,some 3,some 5] rfl (by simp[hps]) (by simp[hps,upN,hn])⟩
      ·have hnk:¬nm E n k=i:=by intro h;simp[h]at hc7
       rw[if_neg hnk,List.append_nil]at hps;refine f6 ?_;simp only[zT,reduceIte,Nat.reduceEqDiff];refine hK15 _ _ ?_;refine b8 [2,5,11,12,13,14] ?_;simp only[zP,Nat.reduceEqDiff,reduceIte];refine aR fun K hK=>?_;simp -dsimp [wk];apply hK;clear hK K;simp only[zT,reduceIte,Nat.reduceEqDiff];exact⟨k+1,by omega,by omega,e8 [some 0,some 1,some 2,some 3,some 4] rfl (by simp[hps]) (by simp[hps,hn])⟩
     ·have hke:k=n:=by have hx:¬k<n:=(by simpa using hc6);omega
      have hcp:ptL E n i k=cp E n i:=by rw[hke];rfl
      rw[hcp];have hul:=r9 (cp E n i);have htk:List.take (cp E n i).length ((upN (cp E n i)).map i9)=(upN (cp E n i)).map i9:=List.take_of_length_le (by rw[List.length_map];omega);refine a0a (B5 (T':=[(2, .ptr 0 0 0),(5, .row 2 0 n),(11, .row 3 0 (hdL E n i).length),(12,I i),(13,iL (upN (cp E n i)))]) (H':=[some (.els 4 [g.cells]),some (.els 2 [s.cells]),some (.els 1 ((nmS n (nm E n)).map i9)),some (.els 1 ((hdL E n i).map pAV))]) [some 0,some 1,some 2,some 3] rfl ⟨.inr (by simp), .inr (by simp), .inr (by simp), .inr (by simp), .inr (by simp[htk,hul]),trivial⟩ (by simp[pAV,hn])) ?_;refine j9 ?_;simp only[zT,reduceIte,Nat.reduceEqDiff];refine hK13 _ _ ?_;refine b8 [2,5,11,12,13] ?_;simp only[zP,Nat.reduceEqDiff,reduceIte];refine aR fun K hK=>?_;simp -dsimp [f1];apply hK;clear hK K;simp only[zT,reduceIte,Nat.reduceEqDiff];refine hK11 _ _ ?_;refine b8 [2,5,11,12] ?_;simp only[zP,Nat.reduceEqDiff,reduceIte];refine aR fun K hK=>?_;simp -dsimp [wi];apply hK;clear hK K;simp only[zT,reduceIte,Nat.reduceEqDiff];exact⟨i+1,by omega,by omega,e8 [some 0,some 1,some 2,some 4] rfl (by simp[hhs]) (by simp[hhs,pAV,hn])⟩
   ·have hie:i=n:=by have hx:¬i<n:=(by simpa using hc4);omega
    rw[hie];refine j9 ?_;simp only[zT,reduceIte,Nat.reduceEqDiff];refine hK9 _ _ ?_;refine b8 [11] ?_;simp only[zP,Nat.reduceEqDiff,reduceIte];refine aS fun K hK=>?_;simp -dsimp;apply hK;clear hK K;exact g7 (by simp[pAV])
end Go.Cur
end
section
namespace Go.Cur
open Go.AM Go.Proofs
theorem a3o (m:List (List Int)) (b:List Int) (n:Nat) (hq:Sq m n) (h1:1≤n) (hn:n≤10) (hb:b.length=n):g6 Try.prog 76 [mL m,iL b] [] [] (.tup [.row 0 0 n,I (wr (a7A m))]) [] [some (.els 1 ((a1L m b).map i9))]:=by
 have hml:=hq.len;have hdet:=b7T m n hq h1 hn;refine g6.of_bodyG [] Try.func76 rfl (by decide) (by simp[Try.ntmps76]) rfl rfl ?_;intro J hJ;simp only[Try.ntmps76,Try.results76];refine gS fun K hK=>?_;simp -dsimp;apply hK;clear hK K;refine gS fun K hK=>?_;simp -dsimp;apply hK;clear hK K;refine b9 fun K1 hK1=>?_;refine gS fun K hK=>?_;simp -dsimp;apply hK;clear hK K;refine d7 ?_;refine b7 [0,1,6,7] (Or.inr (by simp)) ?_;simp only[zP,Nat.reduceEqDiff,reduceIte];refine g8 [0,1] (α:=Nat) (fun k=>[(6, .row 0 0 k),(7,I k)]) (fun k=>[some (.els 1 (((a1L m b).take k).map i9))]) (fun k=>k≤n) (fun k=>n-k) 0 ?_ ?_ ?_
 ·exact Nat.zero_le _
 ·exact m8 ((z8 6 1 (by simp)).trans (j7 (by simp))) (by simp)
 rintro k k1;simp only[zP,Nat.reduceEqDiff,reduceIte];refine b9 fun K2 hK2=>?_;refine gS fun K hK=>?_;simp -dsimp;apply hK;clear hK K;refine d8 rfl (fun hc0=>?_) (fun hc0=>?_)
 ·have hkn:k<n:=by rw[←hml];simpa using hc0
  have wk:=zW k (by omega);have gsk:(a1L m b)[k]?=some (wr (a7A (a7z m b k))):=by
   unfold a1L;rw[List.getElem?_map,List.getElem?_range (by omega)];rfl
  have hsl:min k (a1L m b).length=k:=by simp only[a1L,List.length_map,List.length_range];omega
  have hdk:=b7T (a7z m b k) n (b4G hq) h1 hn;have hrl:=Z0 (m:=m) (b:=b) (k:=k);have hrg:=fun i (hi:i<n)=>a1Q (m:=m) (b:=b) (k:=k) (i:=i) (by omega);generalize a7z m b k=M at gsk hdk hrl hrg;refine e9 ?_;simp only[zT,reduceIte,Nat.reduceEqDiff];refine hK2 _ _ ?_;refine b7 [0,1,6,7] (Or.inr (by simp)) ?_;simp only[zP,Nat.reduceEqDiff,reduceIte];refine b9 fun K3 hK3=>?_;refine d7 ?_;refine gS fun K hK=>?_;simp -dsimp;apply hK;clear hK K;refine b9 fun K4 hK4=>?_;refine gS fun K hK=>?_;simp -dsimp;apply hK;clear hK K;refine d7 ?_;refine b7 [0,1,6,7,8,9] (Or.inr (by simp)) ?_;simp only[zP,Nat.reduceEqDiff,reduceIte];refine g8 [0,1,6,7] (α:=Nat) (fun i=>[(8, .row 1 0 i),(9,I i)]) (fun i=>[some (.els 1 (((a1L m b).take k).map i9)),some (.els 1 ((M.take i).map F7))]) (fun i=>i≤n) (fun i=>n-i) 0 ?_ ?_ ?_
  ·exact Nat.zero_le _
  ·exact m8 ((z8 8 1 (by simp)).trans (e8 [some 0,some 1] rfl (by simp) (by simp))) (by simp)
  rintro i i1;simp only[zP,Nat.reduceEqDiff,reduceIte];refine b9 fun K5 hK5=>?_;refine gS fun K hK=>?_;simp -dsimp;apply hK;clear hK K;refine d8 rfl (fun hc1=>?_) (fun hc1=>?_)
  ·have hin:i<n:=by rw[←hml];simpa using hc1
   have wi:=zW i (by omega);obtain⟨gr,hrn⟩:=hq.row hin;have gb:=B9 (l:=b) (k:=i) (by omega);have hgi:=hrg i hin;have hMt:M.take (i+1)=M.take i++[(I0 m i).set k (at0 b i)]:=by rw[List.take_add_one,hgi];rfl
   have hmin:min i M.length=i:=by omega
   have hne:I0 m i≠[]:=by intro e;rw[e]at hrn;simp at hrn;omega
   generalize I0 m i=r at gr hrn hMt hgi hne;have f1:C7 (i+1) 25:=k9 (by omega) (by omega);have f0:C7 n 9:=k9 (by omega) (by omega);have hn0:0<n:=h1;have hnz:¬n=0:=by omega
   have htr:List.take n ((r.map i9).set k [I (at0 b (i:Int))])=(r.map i9).set k [I (at0 b (i:Int))]:=List.take_of_length_le (by simp;omega);refine e9 ?_;simp only[zT,reduceIte,Nat.reduceEqDiff];refine hK5 _ _ ?_;refine b7 [0,1,6,7,8,9] (Or.inr (by simp)) ?_;simp only[zP,Nat.reduceEqDiff,reduceIte];refine b9 fun K6 hK6=>?_;refine d7 ?_;refine gS fun K hK=>?_;simp -dsimp [gr,hrn,f0,hne,hn0,hnz];apply hK;clear hK K;refine gS fun K hK=>?_;simp -dsimp [gb,hrn,hkn];apply hK;clear hK K;refine S9 (by decide) ?_;refine gR fun K hK=>?_;simp -dsimp [f1,hmin];apply hK;clear hK K;simp only[zT,reduceIte,Nat.reduceEqDiff];refine hK6 _ _ ?_;refine b7 [0,1,6,7,8,9] (Or.inr (by simp)) ?_;simp only[zP,Nat.reduceEqDiff,reduceIte];refine gR fun K hK=>?_;simp -dsimp [wi];apply hK;clear hK K;simp only[zT,reduceIte,Nat.reduceEqDiff];exact⟨i+1,by omega,by omega,m8 (B5 [some 0,some 4] rfl (by simp[hmin,hrn]) (by simp[hmin,hrn,List.take_add_one,hgi,List.map_set,htr])) (by simp)⟩
  ·have hil:¬i<m.length:=by simpa using hc1
   have hin:i=n:=by omega
   have htk:List.take i (M.map F7)=M.map F7:=List.take_of_length_le (by simp;omega);have hmin:min i M.length=i:=by omega
   have hle:i≤M.length:=by omega
   have f2:C7 (k+1) 9:=k9 (by omega) (by omega);refine i6 ?_;simp only[zT,reduceIte,Nat.reduceEqDiff];refine hK4 _ _ ?_;refine b7 [0,1,6,7,8] (Or.inr (by simp)) ?_;simp only[zP,Nat.reduceEqDiff,reduceIte];refine gR fun K hK=>?_;simp -dsimp [hmin,hle,htk,hsl,f2];refine d6 _ (hdk) (by simp) ?_;simp -dsimp [hmin,hle,htk,hsl,f2];apply hK;clear hK K;simp only[zT,reduceIte,Nat.reduceEqDiff];refine hK3 _ _ ?_;refine b7 [0,1,6,7] (Or.inr (by simp)) ?_;simp only[zP,Nat.reduceEqDiff,reduceIte];refine gR fun K hK=>?_;simp -dsimp [wk];apply hK;clear hK K;simp only[zT,reduceIte,Nat.reduceEqDiff];exact⟨k+1,by omega,by omega,m8 (e8 [some 2] rfl (by simp[hsl]) (by simp[hsl,List.take_add_one,gsk])) (by simp)⟩
 ·have hkl:¬k<m.length:=by simpa using hc0
  have hkn:k=n:=by omega
  refine i6 ?_;simp only[zT,reduceIte,Nat.reduceEqDiff];refine hK1 _ _ ?_;refine b7 [0,6] (Or.inr (by simp)) ?_;simp only[zP,Nat.reduceEqDiff,reduceIte];refine gS fun K hK=>?_;simp -dsimp;refine d6 _ (hdet) (by simp) ?_;simp -dsimp;apply hK;clear hK K;have hsn:k=(a1L m b).length:=by simp[a1L];omega
  have htk:List.take k ((a1L m b).map i9)=(a1L m b).map i9:=List.take_of_length_le (by simp;omega);exact k7 ⟨[some 0],rfl,by simp,by simp[htk],by simp,by simp[y8,n5,hkn]⟩
theorem b2G {p:List Nat} {a:Nat}:K0 (upN p) (fun y=>decide ((a:Int)=y))=if a∈p then((p.idxOf a:Nat):Int)else-1:=by
 by_cases h:a∈p
 ·rw[if_pos h,J5 (by omega) (by rw[Int.toNat_natCast];exact h),Int.toNat_natCast]
 ·rw[if_neg h];refine O3 (List.any_eq_false.2 fun y hy=>?_);rw[W4]at hy;rw[decide_eq_true_eq];rintro rfl;rw[Int.toNat_natCast]at hy;exact h hy.2
def a9d (c k n:Nat):List (List AV):=D0 c k n++List.replicate (n-k) [.v (.slice none 0 0)]
theorem b5t {c n:Nat}:a9d c n n=D0 c n n:=by unfold a9d;simp
theorem b2L {c n:Nat}:a9d c 0 n=List.replicate n [.v (.slice none 0 0)]:=by unfold a9d;simp[D0]
theorem b7k {c k n:Nat} (h:k<n):(a9d c k n).set k [.row (k+c) 0 n]=a9d c (k+1) n:=by
 unfold a9d;rw[List.set_append_right _ _ (by simp),a3f,show n-k=(n-(k+1))+1 by omega,List.replicate_succ];simp
theorem b5u {c k n:Nat} (h:k<n):(a9d c k n)[k]?=some [.v (.slice none 0 0)]:=by
 unfold a9d;rw[List.getElem?_append_right (by simp),List.getElem?_replicate,if_pos (by simp;omega)]
theorem b5O {g:List (Option Nat)} {c c' m n:Nat} (hg:∀i,i<m→l4 g (i+c)=some (i+c')):((a9d c m n).map fun e=>e.map (n0 g 3))=a9d c' m n:=by
 unfold a9d;rw[List.map_append,y3 hg];simp
theorem a5Z (g:Gr) (s:Sta) (p:List Nat) (n:Nat) (hpn:p.length=n) (h1:1≤n) (h10:n≤10) (hnd:p.Nodup)
  (hsw:s.Wires.length=g.Wires.length) (hwl:g.Wires.length≤80) (hw:∀w∈g.Wires,wrB g w=true) (hcl:∀w∈onW g.Wires s.Wires,w.a∈p↔w.b∈p):
  g6 Try.prog 75 [g.av,s.av,iL (upN p)] [] [] (.row 0 0 n) [] ([some (.els 1 (D0 1 n n))]++n6 (Lf (onW g.Wires s.Wires) p) n n):=by
 have hpl:=r9 p;have ff:C7 n 25:=k9 (by omega) (by omega);have f9:C7 n 9:=k9 (by omega) (by omega);refine g6.of_bodyG [] Try.func75 rfl (by decide) (by simp[Try.ntmps75]) rfl rfl ?_;intro J hJ;simp only[Try.ntmps75,Try.results75];refine gS fun K hK=>?_;simp -dsimp;apply hK;clear hK K;refine gS fun K hK=>?_;simp -dsimp [hpl,hpn,ff];apply hK;clear hK K;refine b9 fun K1 hK1=>?_;refine gS fun K hK=>?_;simp -dsimp;apply hK;clear hK K;refine d7 ?_;refine b7 [2,3,4,7,8] (Or.inr (by simp)) ?_;simp only[zP,Nat.reduceEqDiff,reduceIte];refine g8 [2,3,4,7] (α:=Nat) (fun k=>[(8,I k)]) (fun k=>[some (.els 4 [g.cells]),some (.els 2 [s.cells]),some (.els 1 (a9d 3 k n))]++n6 (fun _ _=>0) k n) (fun k=>k≤n) (fun k=>n-k) 0 ?_ ?_ ?_
 ·exact Nat.zero_le _
 ·exact m8 (e8 [some 0,some 1,some 2] rfl (by simp) (by simp[b2L,n6])) (by simp)
 rintro k k1;simp only[zP,Nat.reduceEqDiff,reduceIte];refine b9 fun K2 hK2=>?_;refine gS fun K hK=>?_;simp -dsimp [hpl,hpn];apply hK;clear hK K;refine d8 rfl (fun hc0=>?_) (fun hc0=>?_)
 ·have hkn:k<n:=by simpa [hpl,hpn]using hc0
  have wk:=zW k (by omega);have go:=b5u (c:=3) hkn;have gs:=b7k (c:=3) hkn;refine e9 ?_;simp only[zT,reduceIte,Nat.reduceEqDiff];refine hK2 _ _ ?_;refine b7 [2,3,4,7,8] (Or.inr (by simp)) ?_;simp only[zP,Nat.reduceEqDiff,reduceIte];refine b9 fun K3 hK3=>?_;refine d7 ?_;refine gR fun K hK=>?_;simp -dsimp [hpl,hpn,f9,hkn,go,gs,Nat.add_assoc];apply hK;clear hK K;simp only[zT,reduceIte,Nat.reduceEqDiff];refine hK3 _ _ ?_;refine b7 [2,3,4,7,8] (Or.inr (by simp)) ?_;simp only[zP,Nat.reduceEqDiff,reduceIte];refine gR fun K hK=>?_;simp -dsimp [wk];apply hK;clear hK K;simp only[zT,reduceIte,Nat.reduceEqDiff];have hM:∀i,i<k+1→m7 (n6 (fun _ _=>0) k n++[some (.els 1 (List.replicate n [I 0]))]) i=X8 (fun _ _=>0) n i:=fun i hi=>by
   rcases Nat.lt_succ_iff_lt_or_eq.1 hi with h|h
   ·exact l9 h
   ·subst h;rw[U6];exact c1v _ _
  have hro:=b5O (g:=some 0::some 1::some 2::(List.range (k+1)).map fun i=>some (i+3)) (c:=3) (c':=3) (m:=k+1) (n:=n) (fun i hi=>p8 (gf:=[some 0,some 1,some 2]) hi (by simp));refine⟨k+1,by omega,by omega,m8 (D7 (F':=[some (.els 4 [g.cells]),some (.els 2 [s.cells]),some (.els 1 (a9d 3 (k+1) n))]) [some 0,some 1,some 2] (fun _ _=>0) (k+1) n 3 (by simp[u6]) (fun i hi=>by simp) hM (by simp) ?_) (by simp)⟩;simp[hro]
 ·have hkn:k=n:=by have hx:¬k<n:=(by simpa [hpl,hpn]using hc0);omega
  subst hkn;rw[b5t];refine i6 ?_;simp only[zT,reduceIte,Nat.reduceEqDiff];refine hK1 _ _ ?_;refine b7 [2,3,4,7] (Or.inr (by simp)) ?_;simp only[zP,Nat.reduceEqDiff,reduceIte];refine b9 fun K4 hK4=>?_;refine gS fun K hK=>?_;simp -dsimp;apply hK;clear hK K;refine d7 ?_;refine b7 [2,3,4,7,9] (Or.inr (by simp)) ?_;simp only[zP,Nat.reduceEqDiff,reduceIte];refine g8 [2,3,4,7] (α:=Nat) (fun q=>[(9,I q)]) (fun q=>[some (.els 4 [g.cells]),some (.els 2 [s.cells]),some (.els 1 (D0 3 k k))]++n6 (Lf (onW (g.Wires.take q) (s.Wires.take q)) p) k k) (fun q=>q≤g.Wires.length) (fun q=>g.Wires.length-q) 0 ?_ ?_ ?_
  ·exact Nat.zero_le _
  ·have hm0:n6 (Lf (onW (g.Wires.take 0) (s.Wires.take 0)) p) k k=n6 (fun _ _=>0) k k:=A7 fun i _ j _=>rfl;rw[hm0];exact m8 (j7 (by simp)) (by simp)
  rintro q q1;simp only[zP,Nat.reduceEqDiff,reduceIte];refine b9 fun K5 hK5=>?_;refine gS fun K hK=>?_;simp -dsimp;apply hK;clear hK K;refine d8 rfl (fun hc1=>?_) (fun hc1=>?_)
  ·have hql:q<g.Wires.length:=by simpa using hc1
   obtain⟨w,hq⟩:∃w,g.Wires[q]?=some w:=⟨_,List.getElem?_eq_getElem hql⟩;have wq:=zW q (by omega);have hwb:=hw w (List.mem_of_getElem? hq);simp only[wrB,Bool.and_eq_true,v9,Bool.not_eq_true',decide_eq_false_iff_not]at hwb;obtain⟨⟨⟨hwA,hwB⟩,hAB⟩,hwS⟩:=hwb;have gsw:=s7 (l:=s.Wires) (k:=q) (by omega);have hsn:=a5q hq gsw;obtain⟨a,ha⟩:∃a:Nat,w.A=a:=⟨w.A.toNat,by omega⟩;obtain⟨b,hb⟩:∃b:Nat,w.B=b:=⟨w.B.toNat,by omega⟩;have hab:a≠b:=by omega
   obtain⟨wA,wB,wS,wSw⟩:=w;simp only at ha hb hwS hsn;subst ha hb;simp only[Int.toNat_natCast]at hsn;have hfb:∀i j,(Lf (onW (g.Wires.take q) (s.Wires.take q)) p i j).natAbs≤320:=fun i j=>by
    refine Nat.le_trans (a7t fun x hx=>?_) ?_
    ·obtain⟨w',hw',e⟩:=a0f (N8 hx);have:=hw w' hw';simp only[wrB,Bool.and_eq_true,v9]at this;rw[e];simp only;omega
    ·have:=a5e (g.Wires.take q) (s.Wires.take q);rw[List.length_take]at this;omega
   have hiA:=R4 (upN p) a (by omega);have hiB:=R4 (upN p) b (by omega);rw[b2G]at hiA hiB;refine e9 ?_;simp only[zT,reduceIte,Nat.reduceEqDiff];refine hK5 _ _ ?_;refine b7 [2,3,4,7,9] (Or.inr (by simp)) ?_;simp only[zP,Nat.reduceEqDiff,reduceIte];refine b9 fun K6 hK6=>?_;refine d7 ?_;refine gS fun K hK=>?_;simp -dsimp [hq];apply hK;clear hK K;refine s4 l6 rfl (by decide) rfl rfl fun K hK=>?_;simp -dsimp [Nat.add_assoc];refine d6 _ (hiA) (by simp) ?_;simp -dsimp [Nat.add_assoc];refine d6 _ (hiB) (by simp) ?_;simp -dsimp [Nat.add_assoc];refine hK _ _ _ (by exact r8 [(0,1),(0,2),(0,4),(1,4),(2,4),(3,4),(0,5),(1,5),(2,5),(3,5),(4,5),(0,6),(1,6),(2,6),(3,6),(4,6)] (by decide+kernel) (by decide+kernel) (by simp[J0]<;>omega)) ?_;clear hK K;refine b9 fun K7 hK7=>?_;refine gS fun K hK=>?_;simp -dsimp [gsw];apply hK;clear hK K;refine d8 rfl (fun hc2=>?_) (fun hc2=>?_)
   ·have hfe:n6 (Lf (onW (g.Wires.take (q+1)) (s.Wires.take (q+1))) p) k k=n6 (Lf (onW (g.Wires.take q) (s.Wires.take q)) p) k k:=by
     rw[hsn]
     cases hx:bAt s.Wires q with
     |false=>simp
     | true=>
      have hna:a∉p:=by
       intro hm;rw[hx,if_pos hm]at hc2;simp at hc2<;>omega
      refine A7 fun i hi j hj=>?_;have hxi:p.getD i 0∈p:=by rw[List.getD_eq_getElem?_getD,List.getElem?_eq_getElem (by omega)];simp
      have hmem:(⟨a,b,wS⟩:Wn)∈onW g.Wires s.Wires:=N8 (k:=q+1) (by rw[hsn,hx];simp);have hnb:b∉p:=fun h=>hna ((hcl _ hmem).2 h);have e0:ew ⟨a,b,wS⟩ (p.getD i 0)=0:=by
       have n1:p.getD i 0≠a:=fun e=>hna (by rw[←e];exact hxi);have n2:p.getD i 0≠b:=fun e=>hnb (by rw[←e];exact hxi);unfold ew;rw[if_neg n1,if_neg n2];rfl
      unfold Lf;rw[if_pos rfl,P7];show _+(wS*(ew ⟨a,b,wS⟩ (p.getD i 0)*ew ⟨a,b,wS⟩ (p.getD j 0))+0)=_;rw[e0,Int.zero_mul,Int.mul_zero];omega
    refine i6 ?_;simp only[zT,reduceIte,Nat.reduceEqDiff];refine hK6 _ _ ?_;refine b7 [2,3,4,7,9] (Or.inr (by simp)) ?_;simp only[zP,Nat.reduceEqDiff,reduceIte];refine gR fun K hK=>?_;simp -dsimp [wq];apply hK;clear hK K;simp only[zT,reduceIte,Nat.reduceEqDiff];refine⟨q+1,by omega,by omega,m8 (D7 (F':=[some (.els 4 [g.cells]),some (.els 2 [s.cells]),some (.els 1 (D0 3 k k))]) [some 0,some 1,some 2] (Lf (onW (g.Wires.take (q+1)) (s.Wires.take (q+1))) p) k k 3 (by simp[u6]) (fun i hi=>by simp) ?_ (by simp) ?_) (by simp)⟩
    ·intro i hi;show m7 (n6 _ k k++_) i=_;rw[l9 hi];rw[←o4 (m:=k) hi,←o4 (m:=k) hi,hfe]
    ·have hro:=y3 (g:=some 0::some 1::some 2::(List.range k).map fun i=>some (i+3)) (c:=3) (c':=3) (m:=k) (n:=k) (fun i hi=>p8 (gf:=[some 0,some 1,some 2]) hi (by simp));simp[hro]
   ·have hap:a∈p∧bAt s.Wires q=true:=by
     refine⟨Decidable.byContradiction fun h=>?_,Decidable.byContradiction fun h=>?_⟩
     ·rw[if_neg h]at hc2;simp at hc2
     ·have h':bAt s.Wires q=false:=by simpa using h
      rw[h']at hc2;simp at hc2
    have hmem:(⟨a,b,wS⟩:Wn)∈onW g.Wires s.Wires:=N8 (k:=q+1) (by rw[hsn,hap.2];simp);have hbp:b∈p:=(hcl _ hmem).1 hap.1;rw[if_pos hap.1,if_pos hbp];obtain⟨ia,hia⟩:∃ia:Nat,ia=p.idxOf a:=⟨_,rfl⟩;obtain⟨ib,hib⟩:∃ib:Nat,ib=p.idxOf b:=⟨_,rfl⟩;rw[←hia,←hib];have hik:ia<k:=by rw[hia,←hpn];exact List.idxOf_lt_length_of_mem hap.1
    have hjk:ib<k:=by rw[hib,←hpn];exact List.idxOf_lt_length_of_mem hbp
    have gA:p[ia]?=some a:=by rw[hia];exact x8 hap.1
    have gB:p[ib]?=some b:=by rw[hib];exact x8 hbp
    have lia:ia≤k+1:=by omega
    have lib:ib≤k+1:=by omega
    have hij:ia≠ib:=by rintro rfl;rw[gA]at gB;simp only[Option.some.injEq]at gB;exact hab gB
    have hji:ib≠ia:=fun e=>hij e.symm;have hfe:∀i,i<k→∀j,j<k→Lf (onW (g.Wires.take (q+1)) (s.Wires.take (q+1))) p i j=L2 (L2 (L2 (L2 (Lf (onW (g.Wires.take q) (s.Wires.take q)) p) ia ia (Lf (onW (g.Wires.take q) (s.Wires.take q)) p ia ia+wS)) ib ib (Lf (onW (g.Wires.take q) (s.Wires.take q)) p ib ib+wS)) ia ib (Lf (onW (g.Wires.take q) (s.Wires.take q)) p ia ib-wS)) ib ia (Lf (onW (g.Wires.take q) (s.Wires.take q)) p ib ia-wS) i j:=by
     intro i hi j hj;have hE:∀i,i<k→ew ⟨a,b,wS⟩ (p.getD i 0)=(if i=ia then 1 else 0)-(if i=ib then 1 else 0):=by
      intro i hi;have hgi:p[i]?=some (p.getD i 0):=by rw[List.getD_eq_getElem?_getD,List.getElem?_eq_getElem (by omega)];rfl
      have q1:(p.getD i 0=a)↔i=ia:=by
       constructor
       ·intro e;rw[e]at hgi;exact(List.getElem?_inj (by omega) hnd).1 (hgi.trans gA.symm)
       ·rintro rfl;rw[gA]at hgi;simp only[Option.some.injEq]at hgi;exact hgi.symm
      have q2:(p.getD i 0=b)↔i=ib:=by
       constructor
       ·intro e;rw[e]at hgi;exact(List.getElem?_inj (by omega) hnd).1 (hgi.trans gB.symm)
       ·rintro rfl;rw[gB]at hgi;simp only[Option.some.injEq]at hgi;exact hgi.symm
      unfold ew;simp only[q1,q2]
     rw[hsn,hap.2];have hL:Lf (onW (g.Wires.take q) (s.Wires.take q)++[⟨a,b,wS⟩]) p i j=Lf (onW (g.Wires.take q) (s.Wires.take q)) p i j+wS*(((if i=ia then 1 else 0)-(if i=ib then 1 else 0))*((if j=ia then 1 else 0)-(if j=ib then 1 else 0))):=by
      unfold Lf;rw[P7,←hE i hi,←hE j hj];simp[lw]
     rw[if_pos rfl,hL];unfold L2
     by_cases e1:i=ia
     ·subst e1
      by_cases e2:j=i
      ·subst e2;simp[hij,hji]
      ·by_cases e3:j=ib
       ·subst e3;simp[hij,hji,e2];omega
       ·simp[hij,hji,e2,e3]
     ·by_cases e2:i=ib
      ·subst e2
       by_cases e3:j=i
       ·subst e3;simp[hij,hji]
       ·by_cases e4:j=ia
        ·subst e4;simp[hij,hji,e3];omega
        ·simp[hij,hji,e3,e4]
      ·simp[e1,e2]
    generalize Lf (onW (g.Wires.take q) (s.Wires.take q)) p=f at hfe hfb ⊢;have w1:IntKind.i64.wrap (f ia ia+wS)=f ia ia+wS:=i7 (by have:=hfb ia ia;omega) (by have:=hfb ia ia;omega);have w2:IntKind.i64.wrap (f ib ib+wS)=f ib ib+wS:=i7 (by have:=hfb ib ib;omega) (by have:=hfb ib ib;omega);have w3:IntKind.i64.wrap (f ia ib-wS)=f ia ib-wS:=i7 (by have:=hfb ia ib;omega) (by have:=hfb ia ib;omega);have w4:IntKind.i64.wrap (f ib ia-wS)=f ib ia-wS:=i7 (by have:=hfb ib ia;omega) (by have:=hfb ib ia;omega);have e2:L2 f ia ia (f ia ia+wS) ib ib=f ib ib:=by simp[L2,hji]
    have e3:L2 (L2 f ia ia (f ia ia+wS)) ib ib (f ib ib+wS) ia ib=f ia ib:=by simp[L2,hij,hji]
    have e4:L2 (L2 (L2 f ia ia (f ia ia+wS)) ib ib (f ib ib+wS)) ia ib (f ia ib-wS) ib ia=f ib ia:=by simp[L2,hij,hji]
    refine e9 ?_;simp only[zT,reduceIte,Nat.reduceEqDiff];refine hK7 _ _ ?_;refine b7 [2,3,4,7,9,10,11,12] (Or.inr (by simp)) ?_;simp only[zP,Nat.reduceEqDiff,reduceIte];refine s4 l6 rfl (by decide) rfl rfl fun K hK=>?_;simp -dsimp [lia,lib,Nat.add_assoc,x3 hik,hik,l9 hik,X8,C3 hik,x5 hik,w1];refine hK _ _ _ (by exact r8 [(0,1),(0,4),(1,4),(2,4),(3,4),(0,5),(1,5),(2,5),(3,5),(4,5),(0,6),(1,6),(2,6),(3,6),(4,6),(5,6),(0,7),(1,7),(2,7),(3,7),(4,7),(0,8),(1,8),(2,8),(3,8),(4,8),(0,9),(1,9),(2,9),(3,9),(4,9),(5,9),(6,9),(7,9),(8,9),(0,10),(1,10),(2,10),(3,10),(4,10),(0,11),(1,11),(2,11),(3,11),(4,11),(0,12),(1,12),(2,12),(3,12),(4,12),(5,12),(6,12),(7,12),(8,12),(9,12),(10,12),(11,12),(0,13),(1,13),(2,13),(3,13),(4,13),(5,13),(6,13),(7,13),(8,13),(9,13),(10,13),(11,13),(0,14),(1,14),(2,14),(3,14),(4,14)] (by decide+kernel) (by decide+kernel) (by simp[J0]<;>omega)) ?_;clear hK K;refine s4 l6 rfl (by decide) rfl rfl fun K hK=>?_;simp -dsimp [lia,lib,Nat.add_assoc,x3 hjk,hjk,l9 hjk,X8,C3 hjk,x5 hjk,e2,w2];refine hK _ _ _ (by exact r8 [(0,1),(0,4),(1,4),(2,4),(3,4),(0,5),(1,5),(2,5),(3,5),(4,5),(0,6),(1,6),(2,6),(3,6),(4,6),(5,6),(0,7),(1,7),(2,7),(3,7),(4,7),(0,8),(1,8),(2,8),(3,8),(4,8),(0,9),(1,9),(2,9),(3,9),(4,9),(5,9),(6,9),(7,9),(8,9),(0,10),(1,10),(2,10),(3,10),(4,10),(0,11),(1,11),(2,11),(3,11),(4,11),(0,12),(1,12),(2,12),(3,12),(4,12),(5,12),(6,12),(7,12),(8,12),(9,12),(10,12),(11,12),(0,13),(1,13),(2,13),(3,13),(4,13),(5,13),(6,13),(7,13),(8,13),(9,13),(10,13),(11,13),(0,14),(1,14),(2,14),(3,14),(4,14)] (by decide+kernel) (by decide+kernel) (by simp[J0]<;>omega)) ?_;clear hK K;refine s4 l6 rfl (by decide) rfl rfl fun K hK=>?_;simp -dsimp [lia,lib,Nat.add_assoc,x3 hik,hik,l9 hik,X8,hjk,C3 hjk,x5 hik,e3,w3];refine hK _ _ _ (by exact r8 [(0,1),(0,4),(1,4),(2,4),(3,4),(0,5),(1,5),(2,5),(3,5),(4,5),(0,6),(1,6),(2,6),(3,6),(4,6),(5,6),(0,7),(1,7),(2,7),(3,7),(4,7),(0,8),(1,8),(2,8),(3,8),(4,8),(0,9),(1,9),(2,9),(3,9),(4,9),(5,9),(6,9),(7,9),(8,9),(0,10),(1,10),(2,10),(3,10),(4,10),(0,11),(1,11),(2,11),(3,11),(4,11),(0,12),(1,12),(2,12),(3,12),(4,12),(5,12),(6,12),(7,12),(8,12),(9,12),(10,12),(11,12),(0,13),(1,13),(2,13),(3,13),(4,13),(5,13),(6,13),(7,13),(8,13),(9,13),(10,13),(11,13),(0,14),(1,14),(2,14),(3,14),(4,14)] (by decide+kernel) (by decide+kernel) (by simp[J0]<;>omega)) ?_;clear hK K;refine p9 l6 rfl (by decide) rfl rfl fun K hK=>?_;simp -dsimp [lia,lib,Nat.add_assoc,x3 hjk,hjk,l9 hjk,X8,hik,C3 hik,x5 hjk,e4,w4];refine hK _ _ _ (by exact r8 [(0,1),(0,4),(1,4),(2,4),(3,4),(0,5),(1,5),(2,5),(3,5),(4,5),(0,6),(1,6),(2,6),(3,6),(4,6),(5,6),(0,7),(1,7),(2,7),(3,7),(4,7),(0,8),(1,8),(2,8),(3,8),(4,8),(0,9),(1,9),(2,9),(3,9),(4,9),(5,9),(6,9),(7,9),(8,9),(0,10),(1,10),(2,10),(3,10),(4,10),(0,11),(1,11),(2,11),(3,11),(4,11),(0,12),(1,12),(2,12),(3,12),(4,12),(5,12),(6,12),(7,12),(8,12),(9,12),(10,12),(11,12),(0,13),(1,13),(2,13),(3,13),(4,13),(5,13),(6,13),(7,13),(8,13),(9,13),(10,13),(11,13),(0,14),(1,14),(2,14),(3,14),(4,14)] (by decide+kernel) (by decide+kernel) (by simp[J0]<;>omega)) ?_;clear hK K;simp only[zT,reduceIte,Nat.reduceEqDiff];refine hK6 _ _ ?_;refine b7 [2,3,4,7,9] (Or.inr (by simp)) ?_;simp only[zP,Nat.reduceEqDiff,reduceIte];refine gR fun K hK=>?_;simp -dsimp [wq];apply hK;clear hK K;simp only[zT,reduceIte,Nat.reduceEqDiff];refine⟨q+1,by omega,by omega,m8 (D7 (F':=[some (.els 4 [g.cells]),some (.els 2 [s.cells]),some (.els 1 (D0 3 k k))]) [some 0,some 1,some 2] (Lf (onW (g.Wires.take (q+1)) (s.Wires.take (q+1))) p) k k 3 (by simp[u6]) (fun i hi=>by simp) ?_ (by simp) ?_) (by simp)⟩
    ·intro i hi;show m7 (n6 _ k k++_) i=_;rw[l9 hi];rw[←o4 (m:=k) hi,←o4 (m:=k) hi,A7 hfe]
    ·have hro:=y3 (g:=some 0::some 1::some 2::(List.range k).map fun i=>some (i+3)) (c:=3) (c':=3) (m:=k) (n:=k) (fun i hi=>p8 (gf:=[some 0,some 1,some 2]) hi (by simp));simp[hro]
  ·have hqe:q=g.Wires.length:=by have hx:¬q<g.Wires.length:=(by simpa using hc1);omega
   have ht1:g.Wires.take q=g.Wires:=List.take_of_length_le (by omega);have ht2:s.Wires.take q=s.Wires:=List.take_of_length_le (by omega);rw[ht1,ht2];refine i6 ?_;simp only[zT,reduceIte,Nat.reduceEqDiff];refine hK4 _ _ ?_;refine b7 [7] (Or.inr (by simp)) ?_;simp only[zP,Nat.reduceEqDiff,reduceIte];refine gS fun K hK=>?_;simp -dsimp;apply hK;clear hK K;have hout:∀i,i<k→some (i+3)∉ [some 2]:=fun i hi=>by simp
   have hro:=y3 (g:=some 2::(List.range k).map fun i=>some (i+3)) (c:=3) (c':=1) (m:=k) (n:=k) (fun i hi=>p8 (gf:=[some 2]) hi (hout i hi));refine k7 ⟨[some 2]++(List.range k).map fun i=>some (i+3),a2C rfl hout,by simp,?_,by simp,by simp[y8,n5]⟩;refine a5L (F':=[some (.els 1 (D0 1 k k))]) [some 2] _ k k 3 (fun i hi=>?_) ?_
   ·show m7 (n6 _ k k) i=_;exact o4 hi
   ·simp[hro]
end Go.Cur
end
section
namespace Go.Cur
open Go.AM Go.Proofs
theorem b2o (n d:Int) (hd:0<d) (h1:-9223372036854775807≤n) (h2:n≤9223372036854775807) (h3:d≤9223372036854775807):d5 Try.prog 52 [I n,I d] (red n d).av:=by
 have wn:IntKind.i64.wrap (-n)=-n:=i7 (by omega) (by omega);have hmx:(if n< -n then-n else n)=(n.natAbs:Int):=by split<;>omega
 obtain⟨hg,q1,q2⟩:=b3c hd h1 h2 h3;refine d5.of_body Try.func52 rfl (by decide) (by simp[Try.ntmps52]) ?_;simp only[Try.ntmps52,Try.results52];refine aS fun K hK=>?_;simp -dsimp;apply hK;clear hK K;refine aS fun K hK=>?_;simp -dsimp [wn,hmx];apply hK;clear hK K;refine d4 fun K1 hK1=>?_;refine e7 ?_;refine b8 [0,1,4,5,6] ?_;simp only[zP,Nat.reduceEqDiff,reduceIte];refine g9 [0,1,4] (α:=Nat×Nat) (fun x=>[(5,I x.1),(6,I x.2)]) (fun _=>[some (.els 2 [[I 0,I 0]])]) (fun x=>Nat.gcd x.1 x.2=Int.gcd n d) (fun x=>x.2) (n.natAbs,d.toNat) ?_ ?_ ?_
 ·simp only[Int.gcd];congr 1;omega
 ·have hdn:((d.toNat:Nat):Int)=d:=Int.toNat_of_nonneg (by omega);exact j7 (by simp[hdn])
 rintro⟨a,b⟩ i1;simp only at i1 ⊢;simp only[zP,Nat.reduceEqDiff,reduceIte];refine d4 fun K2 hK2=>?_;refine aS fun K hK=>?_;simp -dsimp;apply hK;clear hK K;refine d9 rfl (fun hc0=>?_) (fun hc0=>?_)
 ·skip
  try simp at hc0
  have hb0:¬b=0:=by omega
  have hm:(a:Int).tmod b=((a % b:Nat):Int):=by rw[Int.tmod_eq_emod_of_nonneg (by omega)];rfl
  refine f6 ?_;simp only[zT,reduceIte,Nat.reduceEqDiff];refine hK2 _ _ ?_;refine b8 [0,1,4,5,6] ?_;simp only[zP,Nat.reduceEqDiff,reduceIte];refine e7 ?_;refine E1 l6 rfl fun K hK=>?_;simp -dsimp [hm,hb0];refine hK _ _ _ (by decide+kernel) ?_;clear hK K;simp only[zT,reduceIte,Nat.reduceEqDiff];exact⟨(b,a % b),by simp only;rw[a8Z hb0];exact i1,Nat.mod_lt _ (by omega),j7 (by simp)⟩
 ·skip
  try simp at hc0
  have hb0:b=0:=by omega
  subst hb0;rw[Nat.gcd_zero_right]at i1;subst i1;have hg0:¬Int.gcd n d=0:=by omega
  refine j9 ?_;simp only[zT,reduceIte,Nat.reduceEqDiff];refine hK1 _ _ ?_;refine b8 [0,1,4,5] ?_;simp only[zP,Nat.reduceEqDiff,reduceIte];refine v5 l6 rfl fun K hK=>?_;simp -dsimp [q1,q2,hg0];refine hK _ _ _ (by decide+kernel) ?_;clear hK K;exact g7 (by simp)
theorem c2D (g:Gr) (s:Sta) (p:List Nat) (fs nl:List Int) (d:Int) (hnt:o8 g s) (hfs:fs=n8 g s (upN p)) (hp:p.length≤1000) {b:Nat} (hb:b<fs.length) (hn:nl.length=p.length) (hd:0<d) (hd1:d≤100000000000000) {x:Int} (hx:nl[p.idxOf (fdI g (at0 fs b)).At.toNat]?=some x) (hxb:-1000000000000000≤x∧x≤1000000000000000):
  d5 Try.prog 92 [g.av,iL (upN p),iL nl,I d,I (at0 fs b)] (I ((fdI g (at0 fs b)).Volts*d-x)):=by
 have h:=H6 hnt hfs hb;have h1:=Int.mul_nonneg (show 0≤(fdI g (at0 fs b)).Volts by omega) (show 0≤d by omega);have h2:=Int.mul_le_mul h.2.2.2.2.2.2.2.1 hd1 (by omega) (by omega);have w1:IntKind.i64.wrap ((fdI g (at0 fs b)).Volts*d)=(fdI g (at0 fs b)).Volts*d:=i7 (by omega) (by omega);have w2:IntKind.i64.wrap ((fdI g (at0 fs b)).Volts*d-x)=(fdI g (at0 fs b)).Volts*d-x:=i7 (by omega) (by omega);have hi:=R4 (upN p) (fdI g (at0 fs b)).At (by rw[r9];omega);rw[J5 h.2.2.2.2.1 h.2.2.2.2.2.1]at hi;have hpi:=List.idxOf_lt_length_of_mem h.2.2.2.2.2.1;refine d5.of_body Try.func92 rfl (by decide) (by simp[Try.ntmps92]) ?_;simp only[Try.ntmps92,Try.results92];refine aS fun K hK=>?_;simp -dsimp;apply hK;clear hK K;refine v5 l6 rfl fun K hK=>?_;simp -dsimp [h.2.1,h.2.2.2.1,w1,w2,hx];refine d6 _ (hi) (by simp) ?_;simp -dsimp [h.2.1,h.2.2.2.1,w1,w2,hx];refine hK _ _ _ (by decide+kernel) ?_;clear hK K;exact g7 (by simp)
theorem a3Z {P:Program} {m:List Bool} {f:FuncId} {args:List AV} {fl:Bool} {rd rd0:List Nat} {raw:List AV} {H:Nat→Option m5} {N:Nat} {K:Eff→Prop} {args':List AV} {n:Nat} {F:Nat→Nat→Int}
  (h:g6 P f args' [] [] (.row 0 0 n) [] ([some (.els 1 (D0 1 n n))]++n6 F n n)) (ha:raw.map (n0 [] 40)=args')
  (hk:K ⟨.row N 0 n,t8 N ([some (.els 1 (D0 (N+1) n n))]++n6 F n n),rd0⟩):a0O P m f args fl rd rd0 raw H N K:=by
 refine k8 [] [] (u0 [] N (n+1)) h (by simp[b7O]) (congrArg (u0 [] N) (by simp<;>omega)) ha rfl rfl rfl ?_;have hM:(n6 F n n).map (Option.map (v6 (u0 [] N (n+1))))=n6 F n n:=by
  unfold n6;rw[List.map_map];exact List.map_congr_left fun i _=>a5G
 have ho:((D0 1 n n).map fun e=>e.map (n0 (u0 [] N (n+1)) 3))=D0 (N+1) n n:=by
  unfold D0;rw[List.map_map];refine List.map_congr_left fun i hi=>?_;rw[List.mem_range]at hi;show [n0 (u0 [] N (n+1)) 3 (.row (i+1) 0 n)]=_;have e:n0 (u0 [] N (n+1)) 3 (.row (i+1) 0 n)=match l4 (u0 [] N (n+1)) (i+1)with|some q=> .row q 0 n|none=> .any:=rfl
  rw[e,E7 (by omega),show N+(i+1)=i+(N+1)by omega]
 have hr:n0 (u0 [] N (n+1)) 3 (.row 0 0 n)= .row N 0 n:=by
  have e0:n0 (u0 [] N (n+1)) 3 (.row 0 0 n)=match l4 (u0 [] N (n+1)) 0 with|some q=> .row q 0 n|none=> .any:=rfl
  rw[e0,E7 (by omega)];rfl
 have hu:y9 (u0 [] N (n+1)) N ([some (.els 1 (D0 1 n n))]++n6 F n n)=t8 N ([some (.els 1 (D0 (N+1) n n))]++n6 F n n):=by
  rw[U8,List.map_append,hM];simp only[List.map_cons,List.map_nil,Option.map_some,v6,ho]
 rw[hr,hu];simpa [t4,x4]using hk
def zro (f:Nat→Nat→Int) (k:Nat):Nat→Nat→Int:=fun i j=>if i=0∧j<k then 0 else f i j
theorem b5o (f:Nat→Nat→Int):zro f 0=f:=by funext i j;unfold zro;rw[if_neg (by omega)]
theorem b5X (f:Nat→Nat→Int) (k:Nat):L2 (zro f k) 0 k 0=zro f (k+1):=by
 funext i j
 unfold L2 zro
 by_cases h:i=0
 ·subst h
  by_cases h2:j=k
  ·subst h2;simp
  ·by_cases h3:j<k
   ·simp[h2,h3];omega
   ·simp[h2,h3];intro;omega
 ·simp[h]
theorem b5D (W:List Wn) (u:Nat→Int) (p:List Nat) (fs:List Nat) (q:Nat→Nat) (s V:Nat→Int) (i0:Nat) (hi0:p.getD 0 0=i0) (h1:1≤p.length) (hnd:p.Nodup):
  b5j (L2 (zro (Lf W p) p.length) 0 0 1) p.length p.length=eqM ((⟨p,lw W,u,fs,q,s,V⟩:o6).A0 i0) p:=by
 unfold eqM b5j;refine List.map_congr_left fun i hi=>List.map_congr_left fun j hj=>?_;rw[List.mem_range]at hi hj;show L2 (zro (Lf W p) p.length) 0 0 1 i j=if p.getD i 0=i0 then if p.getD j 0=i0 then 1 else 0 else lw W (p.getD i 0) (p.getD j 0);unfold L2 zro Lf
 by_cases h:i=0
 ·subst h;rw[if_pos hi0]
  by_cases h2:j=0
  ·subst h2;rw[if_pos ⟨rfl,rfl⟩,if_pos hi0]
  ·rw[if_neg (fun e=>h2 e.2),if_pos ⟨rfl,hj⟩,if_neg (fun e=>h2 (F5 hnd hj hi (e.trans hi0.symm)))]
 ·rw[if_neg (fun e=>h e.1),if_neg (fun e=>h e.1),if_neg (fun e=>h (F5 hnd hi (by omega) (e.trans hi0.symm)))]
theorem b6A (g:Gr) (s:Sta) (p:List Nat) (us:Kvs) (fs cu:List Int) (hfs:fs=n8 g s (upN p)) (hnt:o8 g s) (hpt:b2P g s p) (hus:∀x,-40≤igt us x∧igt us x≤40) (hcu:∀k∈p,cu[k]?=some (igt us k)) (hf0:fs≠[]) (i0:Nat) (hi0:p.getD 0 0=i0)
  (hz:c1J (Pt g (onW g.Wires s.Wires) us p fs fs.length) i0) (v:List Int) (d:Int) (e2:d=(Pt g (onW g.Wires s.Wires) us p fs fs.length).den0 i0)
  (e1:v=p.map fun k=>(Pt g (onW g.Wires s.Wires) us p fs fs.length).num0 i0 k+F2 ((Pt g (onW g.Wires s.Wires) us p fs fs.length).V 0*(Pt g (onW g.Wires s.Wires) us p fs fs.length).den0 i0-(Pt g (onW g.Wires s.Wires) us p fs fs.length).num0 i0 ((Pt g (onW g.Wires s.Wires) us p fs fs.length).p 0)) ((List.range fs.length).map fun b=>(Pt g (onW g.Wires s.Wires) us p fs fs.length).V b*(Pt g (onW g.Wires s.Wires) us p fs fs.length).den0 i0-(Pt g (onW g.Wires s.Wires) us p fs fs.length).num0 i0 ((Pt g (onW g.Wires s.Wires) us p fs fs.length).p b))):
  d5 Try.prog 74 [g.av,s.av,iL (upN p),iL cu,iL fs] (.tup [iL v,I d,Bo true]):=by
 have hpl:=r9 p;have hb:=r7 hnt.gr;have hn10:=hpt.n10;have hml:1≤fs.length:=by cases fs with|nil=>exact absurd rfl hf0|cons a l=>simp
 have hfl:fs.length≤12:=by
  have:=List.length_filter_le (a1K g s (upN p)) (upI g.Feeds.length);rw[J3]at this;rw[hfs];unfold n8;omega
 have hmt:=a5Z g s p p.length rfl hpt.n1 hpt.n10 hpt.nd hnt.sw hb.2.2.1 hnt.wires hpt.cl;obtain⟨z1,z2,z3⟩:=hz;have hsol:=a3o (eqM ((Pt g (onW g.Wires s.Wires) us p fs fs.length).A0 i0) p) (p.map ((Pt g (onW g.Wires s.Wires) us p fs fs.length).b0 i0)) p.length (I6 _ _) hpt.n1 hpt.n10 (by simp);have hv0:(p.map fun k=>wr (num ((Pt g (onW g.Wires s.Wires) us p fs fs.length).A0 i0) ((Pt g (onW g.Wires s.Wires) us p fs fs.length).b0 i0) p k))=p.map fun k=>(Pt g (onW g.Wires s.Wires) us p fs fs.length).num0 i0 k:=List.map_congr_left fun k _=>a6p (by have:=z1 k;unfold o6.num0 at this;show _≤Cur.num _ _ (Pt g (onW g.Wires s.Wires) us p fs fs.length).ns k;omega) (by have:=z1 k;unfold o6.num0 at this;show Cur.num _ _ (Pt g (onW g.Wires s.Wires) us p fs fs.length).ns k≤_;omega);have hd0:wr (D ((Pt g (onW g.Wires s.Wires) us p fs fs.length).A0 i0) p)=(Pt g (onW g.Wires s.Wires) us p fs fs.length).den0 i0:=a6p (by unfold o6.den0 at z2;show _≤D _ (Pt g (onW g.Wires s.Wires) us p fs fs.length).ns;omega) (by unfold o6.den0 at z3;show D _ (Pt g (onW g.Wires s.Wires) us p fs fs.length).ns≤_;omega);rw[a5F _ _ _ hpt.nd,a5i,hv0,hd0]at hsol;have hbl:=b8f us p (lw (onW g.Wires s.Wires)) (List.range fs.length) (fun b=>(V6 g fs b).At.toNat) (fun b=>(V6 g fs b).Siem) (fun b=>(V6 g fs b).Volts) i0 hi0 hpt.n1 hpt.nd;obtain⟨bl,hbl2⟩:∃bl,bl=p.map ((Pt g (onW g.Wires s.Wires) us p fs fs.length).b0 i0):=⟨_,rfl⟩;obtain⟨M,hM⟩:∃M,M=eqM ((Pt g (onW g.Wires s.Wires) us p fs fs.length).A0 i0) p:=⟨_,rfl⟩;have hbl3:(rgt us p).set 0 0=bl:=by rw[hbl2];exact hbl
 have hzr:=b5D (onW g.Wires s.Wires) (fun x=>igt us x) p (List.range fs.length) (fun b=>(V6 g fs b).At.toNat) (fun b=>(V6 g fs b).Siem) (fun b=>(V6 g fs b).Volts) i0 hi0 hpt.n1 hpt.nd;have hzr2:b5j (L2 (zro (Lf (onW g.Wires s.Wires) p) p.length) 0 0 1) p.length p.length=M:=by rw[hM];exact hzr
 rw[←hbl2,←hM]at hsol;have hzl:∀k x,p[k]?=some x→(p.map fun k=>(Pt g (onW g.Wires s.Wires) us p fs fs.length).num0 i0 k)[k]?=some ((Pt g (onW g.Wires s.Wires) us p fs fs.length).num0 i0 x):=fun k x h=>by rw[List.getElem?_map,h];rfl
 obtain⟨nu,hnu⟩:∃nu,nu=fun k=>(Pt g (onW g.Wires s.Wires) us p fs fs.length).num0 i0 k:=⟨_,rfl⟩;rw[←hnu]at hsol hzl;obtain⟨nl,hnl⟩:∃nl,nl=p.map nu:=⟨_,rfl⟩;rw[←hnl]at hsol hzl;have hfa:=fun b (hb:b<fs.length)=>H6 hnt hfs hb;obtain⟨d0,hd00⟩:∃d0,d0=(Pt g (onW g.Wires s.Wires) us p fs fs.length).den0 i0:=⟨_,rfl⟩;rw[←hd00]at hsol z2 z3 e2 e1;have hnk:∀k,(Pt g (onW g.Wires s.Wires) us p fs fs.length).num0 i0 k=nu k:=fun k=>by rw[hnu]
 simp only[hnk]at e1 z1 hzl;have hnb:∀k,-1000000000000000≤nu k∧nu k≤1000000000000000:=z1;have hPV:∀(b:Nat),(Pt g (onW g.Wires s.Wires) us p fs fs.length).V b=(fdI g (at0 fs b)).Volts:=fun b=>rfl;have hPp:∀(b:Nat),(Pt g (onW g.Wires s.Wires) us p fs fs.length).p b=(fdI g (at0 fs b)).At.toNat:=fun b=>rfl;simp only[hPV,hPp]at e1;have hnll:nl.length=p.length:=by rw[hnl];simp
 have hzp:=fun b (hb:b<fs.length)=>hzl _ _ (x8 (hfa b hb).2.2.2.2.2.1);have hf0c:=fun b (hb:b<fs.length)=>c2D g s p fs nl d0 hnt hfs (by omega) hb hnll z2 z3 (hzp b hb) (hnb _);have hvd:∀(b:Nat),b<fs.length→ -100000000000000000≤(fdI g (at0 fs b)).Volts*d0∧(fdI g (at0 fs b)).Volts*d0≤100000000000000000:=fun b hb=>by
  have h:=hfa b hb;have h1:=Int.mul_nonneg (show 0≤(fdI g (at0 fs b)).Volts by omega) (show 0≤d0 by omega);have h2:=Int.mul_le_mul h.2.2.2.2.2.2.2.1 z3 (by omega) (by omega);omega
 clear hnk hnu hd00 hbl hzr;have hp0:0<p.length:=by have:=hpt.n1;omega
 have wneg:∀x,IntKind.i64.wrap (-igt us x)=-igt us x:=fun x=>i7 (by have:=hus x;omega) (by have:=hus x;omega);obtain⟨n,hn⟩:∃n,n=p.length:=⟨_,rfl⟩;rw[←hn]at hpl hn10 hmt hsol hzr2 hnll hp0;refine d5.of_bodyG Try.func74 rfl (by decide) (by simp[Try.ntmps74]) ?_;intro J hJ;simp only[Try.ntmps74,Try.results74];refine gS fun K hK=>?_;simp -dsimp;apply hK;clear hK K;refine gS fun K hK=>?_;simp -dsimp;refine a3Z hmt (by simp) ?_;simp -dsimp;apply hK;clear hK K;refine gS fun K hK=>?_;simp -dsimp;apply hK;clear hK K;refine b9 fun K1 hK1=>?_;refine gS fun K hK=>?_;simp -dsimp;apply hK;clear hK K;refine d7 ?_;refine b7 [2,3,4,5,13,14,15] (Or.inr (by simp)) ?_;simp only[zP,Nat.reduceEqDiff,reduceIte];refine g8 [2,3,4,5,13] (α:=Nat) (fun k=>[(14, .row 3 0 k),(15,I k)]) (fun k=>[some (.els 4 [g.cells]),some (.els 2 [s.cells]),some (.els 1 (D0 4 n n)),some (.els 1 (((rgt us p).take k).map i9))]++n6 (zro (Lf (onW g.Wires s.Wires) p) k) n n) (fun k=>k≤n) (fun k=>n-k) 0 ?_ ?_ ?_
 ·exact Nat.zero_le _
 ·have hout:∀i,i<n→some (i+3)∉ [some 0,some 1,some 2,some (n+3)]:=fun i hi=>by simp;omega
  have hro:=y3 (g:=some 0::some 1::some 2::some (n+3)::(List.range n).map fun i=>some (i+3)) (c:=3) (c':=4) (m:=n) (n:=n) (fun i hi=>p8 (gf:=[some 0,some 1,some 2,some (n+3)]) hi (hout i hi));refine m8 ((z8 14 1 (by simp)).trans (D7 (F':=[some (.els 4 [g.cells]),some (.els 2 [s.cells]),some (.els 1 (D0 4 n n)),some (.els 1 (((rgt us p).take 0).map i9))]) [some 0,some 1,some 2,some (n+3)] (zro (Lf (onW g.Wires s.Wires) p) 0) n n 3 (by simp[u6]) hout ?_ (by simp) ?_)) (by simp)
  ·intro i hi;show m7 (n6 _ n n++_) i=_;rw[l9 hi,b5o]
  ·simp[hro]
 rintro k k1;simp only[zP,Nat.reduceEqDiff,reduceIte];refine b9 fun K2 hK2=>?_;refine gS fun K hK=>?_;simp -dsimp [hpl];apply hK;clear hK K;refine d8 rfl (fun hc0=>?_) (fun hc0=>?_)
 ·have hkn:k<n:=by simpa [hpl]using hc0
  obtain⟨x,hx⟩:∃x,p[k]?=some x:=⟨_,List.getElem?_eq_getElem (by omega)⟩;have gx:=F1 hx;have gc:=hcu x (List.mem_of_getElem? hx);have wk:=zW k (by omega);have hrl:min k (rgt us p).length=k:=by simp only[rgt,List.length_map];omega
  have gr:(rgt us p)[k]?=some (-igt us x):=by simp[rgt,hx]
  have f2:C7 (k+1) 9:=k9 (by omega) (by omega);refine e9 ?_;simp only[zT,reduceIte,Nat.reduceEqDiff];refine hK2 _ _ ?_;refine b7 [2,3,4,5,13,14,15] (Or.inr (by simp)) ?_;simp only[zP,Nat.reduceEqDiff,reduceIte];refine b9 fun K3 hK3=>?_;refine d7 ?_;refine gS fun K hK=>?_;simp -dsimp [gx,gc,wneg,f2,hrl,Nat.add_assoc];apply hK;clear hK K;refine gR fun K hK=>?_;simp -dsimp [hp0,hkn,x3 hp0,l9 hp0,X8,C3 hkn,x5 hp0,Nat.add_assoc];apply hK;clear hK K;simp only[zT,reduceIte,Nat.reduceEqDiff];refine hK3 _ _ ?_;refine b7 [2,3,4,5,13,14,15] (Or.inr (by simp)) ?_;simp only[zP,Nat.reduceEqDiff,reduceIte];refine gR fun K hK=>?_;simp -dsimp [wk];apply hK;clear hK K;simp only[zT,reduceIte,Nat.reduceEqDiff];have hout:∀i,i<n→some (i+4)∉ [some 0,some 1,some 2,some (n+4)]:=fun i hi=>by simp;omega
  have hro:=y3 (g:=some 0::some 1::some 2::some (n+4)::(List.range n).map fun i=>some (i+4)) (c:=4) (c':=4) (m:=n) (n:=n) (fun i hi=>p8 (gf:=[some 0,some 1,some 2,some (n+4)]) hi (hout i hi));refine⟨k+1,by omega,by omega,m8 (D7 (F':=[some (.els 4 [g.cells]),some (.els 2 [s.cells]),some (.els 1 (D0 4 n n)),some (.els 1 (((rgt us p).take (k+1)).map i9))]) [some 0,some 1,some 2,some (n+4)] (zro (Lf (onW g.Wires s.Wires) p) (k+1)) n n 4 (by simp[u6]) hout ?_ (by simp) ?_) (by simp)⟩
  ·intro i hi;show m7 (n6 _ n n++_) i=_;rw[l9 hi,←b5X]
  ·simp[hro,List.take_add_one,gr]
 ·have hkn:k=n:=by have hx:¬k<n:=(by simpa [hpl]using hc0);omega
  have hrt:List.take k ((rgt us p).map i9)=(rgt us p).map i9:=List.take_of_length_le (by simp[rgt];omega);rw[hrt,hkn];have gr0:(rgt us p)[0]?=some (-igt us (p.getD 0 0)):=by unfold rgt;rw[List.getElem?_map,F4 (by omega)];rfl
  have htk:List.take n (nl.map i9)=nl.map i9:=List.take_of_length_le (by simp;omega);have a0:=(hfa 0 hml).1;have a1:=hf0c 0 hml;simp only[Int.natCast_zero]at a0 a1;have hle:n≤nl.length:=by omega
  obtain⟨xs,hxs⟩:∃xs:List Int,xs=(List.range fs.length).map fun(b:Nat)=>(fdI g (at0 fs b)).Volts*d0-nu (fdI g (at0 fs b)).At.toNat:=⟨_,rfl⟩;obtain⟨x0,hx0⟩:∃x0,x0=(fdI g (at0 fs 0)).Volts*d0-nu (fdI g (at0 fs 0)).At.toNat:=⟨_,rfl⟩;rw[←hxs]at e1;have hx0':(fdI g (at0 fs ((0:Nat):Int))).Volts*d0-nu (fdI g (at0 fs ((0:Nat):Int))).At.toNat=x0:=hx0.symm;have hxg:∀(b:Nat),b<fs.length→xs[b]?=some ((fdI g (at0 fs b)).Volts*d0-nu (fdI g (at0 fs b)).At.toNat):=fun b hb=>by rw[hxs,List.getElem?_map,List.getElem?_range hb];rfl
  have hxb:∀x∈xs,-200000000000000000≤x∧x≤200000000000000000:=fun x hx=>by
   rw[hxs]at hx;obtain⟨b,hb,rfl⟩:=List.mem_map.1 hx;have:=hvd b (List.mem_range.1 hb);have:=hnb (fdI g (at0 fs b)).At.toNat;omega
  have hx0b:-200000000000000000≤x0∧x0≤200000000000000000:=by rw[hx0];have:=hvd 0 hml;have:=hnb (fdI g (at0 fs 0)).At.toNat;simp only[Int.natCast_zero]at*;omega
  have hxl:xs.length=fs.length:=by rw[hxs];simp
  have hs1:F2 x0 (xs.take 1)=x0:=by rw[U7 (hxg 0 hml),hx0'];show a9D x0 x0=x0;unfold a9D;split<;>rfl
  refine i6 ?_;simp only[zT,reduceIte,Nat.reduceEqDiff];refine hK1 _ _ ?_;refine b7 [2,4,5,13,14] (Or.inr (by simp)) ?_;simp only[zP,Nat.reduceEqDiff,reduceIte];refine gS fun K hK=>?_;simp -dsimp [hp0,x3 hp0,o4 hp0,X8,C3 hp0,a2b hp0,gr0,Nat.add_assoc];apply hK;clear hK K;refine o9 (m8 (B5 (T':=[(2,iL (upN p)),(4,iL fs),(5, .ptr 0 0 0),(13,mL M),(14,iL bl)]) (H':=[some (.els 4 [g.cells]),some (.els 2 [s.cells])]) [some 0,some 1] rfl ⟨.inr (by simp), .inr (by simp), .inr (by simp), .inr ?_, .inr ?_,trivial⟩ (by simp)) (by simp)) ?_
  ·rw[←hzr2];exact b2j _ _ _ _ hp0
  ·exact b8d _ _ _ _ (rgt us p) bl hbl3 (by rw[←hbl3];simp[rgt];omega) hp0
  ·refine gS fun K hK=>?_;simp -dsimp;refine k8 [] [] [none,none,some 0] (hsol) (by decide) rfl (by simp) (by simp) rfl (by simp) ?_;simp -dsimp;apply hK;clear hK K;refine s4 l6 rfl (by decide) rfl rfl fun K hK=>?_;simp -dsimp [a0,htk,hle];refine d6 _ (a1) (by simp) ?_;simp -dsimp [a0,htk,hle];refine hK _ _ _ (by decide+kernel) ?_;clear hK K;refine b9 fun K4 hK4=>?_;refine gS fun K hK=>?_;simp -dsimp;apply hK;clear hK K;refine d7 ?_;refine b7 [2,4,5,16,17,18,19] (Or.inr (by simp)) ?_;simp only[zP,Nat.reduceEqDiff,reduceIte];refine g8 [2,4,5,16,17] (α:=Nat) (fun b=>[(18,I (F2 x0 (xs.take b))),(19,I b)]) (fun b=>[some (.els 4 [g.cells]),some (.els 2 [s.cells]),some (.els 1 (nl.map i9))]) (fun b=>1≤b∧b≤fs.length) (fun b=>fs.length-b) 1 ?_ ?_ ?_
   ·exact⟨Nat.le_refl _,hml⟩
   ·exact m8 (e8 [some 0,some 1,some 2] rfl (by simp[hs1,←hx0]) (by simp)) (by simp)
   rintro b ⟨b0,b1⟩;simp only[zP,Nat.reduceEqDiff,reduceIte];refine b9 fun K5 hK5=>?_;refine gS fun K hK=>?_;simp -dsimp;apply hK;clear hK K;refine d8 rfl (fun hc1=>?_) (fun hc1=>?_)
   ·have hbl:b<fs.length:=by simpa using hc1
    have wb:=zW b (by omega);refine e9 ?_;simp only[zT,reduceIte,Nat.reduceEqDiff];refine hK5 _ _ ?_;refine b7 [2,4,5,16,17,18,19] (Or.inr (by simp)) ?_;simp only[zP,Nat.reduceEqDiff,reduceIte];refine b9 fun K6 hK6=>?_;refine d7 ?_;refine p9 l6 rfl (by decide) rfl rfl fun K hK=>?_;simp -dsimp [(hfa b hbl).1,htk,hle];refine d6 _ (hf0c b hbl) (by simp) ?_;simp -dsimp [(hfa b hbl).1,htk,hle];refine hK _ _ _ (by decide+kernel) ?_;clear hK K;simp only[zT,reduceIte,Nat.reduceEqDiff];refine hK6 _ _ ?_;refine b7 [2,4,5,16,17,18,19] (Or.inr (by simp)) ?_;simp only[zP,Nat.reduceEqDiff,reduceIte];refine gR fun K hK=>?_;simp -dsimp [wb];apply hK;clear hK K;simp only[zT,reduceIte,Nat.reduceEqDiff];exact⟨b+1,by omega,by omega,m8 (e8 [some 0,some 1,some 2] rfl (by simp[U7 (hxg b hbl),a9D]) (by simp)) (by simp)⟩
   ·have hbl:¬b<fs.length:=by simpa using hc1
    have htx:xs.take b=xs:=List.take_of_length_le (by omega);rw[htx];have hsb:=P8 xs x0 hx0b hxb;generalize hsh:F2 x0 xs=sh at hsb ⊢;refine i6 ?_;simp only[zT,reduceIte,Nat.reduceEqDiff];refine hK4 _ _ ?_;refine b7 [16,17,18] (Or.inr (by simp)) ?_;simp only[zP,Nat.reduceEqDiff,reduceIte];refine b9 fun K7 hK7=>?_;refine gS fun K hK=>?_;simp -dsimp;apply hK;clear hK K;refine d7 ?_;refine b7 [16,17,18,20] (Or.inr (by simp)) ?_;simp only[zP,Nat.reduceEqDiff,reduceIte];refine g8 [16,17,18] (α:=Nat) (fun i=>[(20,I i)]) (fun i=>[some (.els 4 [g.cells]),some (.els 2 [s.cells]),some (.els 1 ((shl nl sh i).map i9))]) (fun i=>i≤n) (fun i=>n-i) 0 ?_ ?_ ?_
    ·exact Nat.zero_le _
    ·refine m8 (e8 [some 0,some 1,some 2] rfl (by simp) (by simp[a9n])) (by simp)
    rintro i i1;simp only[zP,Nat.reduceEqDiff,reduceIte];refine b9 fun K8 hK8=>?_;refine gS fun K hK=>?_;simp -dsimp;apply hK;clear hK K;refine d8 rfl (fun hc2=>?_) (fun hc2=>?_)
    ·have hin:i<n:=by simpa using hc2
     have wi:=zW i (by omega);obtain⟨x,hx⟩:∃x,nl[i]?=some x:=⟨_,List.getElem?_eq_getElem (by omega)⟩;have hxn:-1000000000000000≤x∧x≤1000000000000000:=by
      rw[hnl,List.getElem?_map]at hx;obtain⟨y,_,rfl⟩:=Option.map_eq_some_iff.1 hx;exact hnb y
     have gsh:=b3n (sh:=sh) hx;have wx:IntKind.i64.wrap (x+sh)=x+sh:=i7 (by omega) (by omega);have hst:=b2y (sh:=sh) hx;refine e9 ?_;simp only[zT,reduceIte,Nat.reduceEqDiff];refine hK8 _ _ ?_;refine b7 [16,17,18,20] (Or.inr (by simp)) ?_;simp only[zP,Nat.reduceEqDiff,reduceIte];refine b9 fun K9 hK9=>?_;refine d7 ?_;refine gR fun K hK=>?_;simp -dsimp [hin,gsh,wx];apply hK;clear hK K;simp only[zT,reduceIte,Nat.reduceEqDiff];refine hK9 _ _ ?_;refine b7 [16,17,18,20] (Or.inr (by simp)) ?_;simp only[zP,Nat.reduceEqDiff,reduceIte];refine gR fun K hK=>?_;simp -dsimp [wi];apply hK;clear hK K;simp only[zT,reduceIte,Nat.reduceEqDiff];exact⟨i+1,by omega,by omega,m8 (e8 [some 0,some 1,some 2] rfl (by simp) (by simp[←hst,List.map_set])) (by simp)⟩
    ·have hin0:¬i<n:=by simpa using hc2
     have hin:i=n:=by omega
     refine i6 ?_;simp only[zT,reduceIte,Nat.reduceEqDiff];refine hK7 _ _ ?_;refine b7 [16,17] (Or.inr (by simp)) ?_;simp only[zP,Nat.reduceEqDiff,reduceIte];refine gS fun K hK=>?_;simp -dsimp;apply hK;clear hK K;have hsl:shl nl sh n=v:=by
      rw[b4f hnll,e1,hnl,List.map_map,hx0',hsh];rfl
     have hvl:v.length=n:=by rw[←hsl,b4S,hnll]
     rw[hin,hsl];exact k7 (by simp[e2,y8,n5,←hvl])
end Go.Cur
end
section
namespace Go.Cur
open Go.AM Go.Proofs
def a8J (V:Nat→Int) (q:Nat→Nat) (nu:Nat→Int) (de:Int) (a b:Nat):Bool:=decide (nu (q b)<V b*de)==a.testBit b
def b5e (P:o6) (m a:Nat):Bool:=(List.range m).all (a8J P.V P.p (P.num (u5 a)) (P.den (u5 a)) a)
def a0c (P:o6) (m:Nat):Nat:=((List.range (2^m)).find? fun a=>decide (1≤a)&&b5e P m a).getD 0
theorem a8V {P:o6} {m a:Nat} (hfs:P.fs=List.range m):b5e P m a=true↔b0j P (u5 a):=by
 unfold b5e b0j;rw[hfs,List.all_eq_true];constructor
 ·intro h b hb;have:=h b hb;unfold a8J at this;rw[beq_iff_eq]at this;exact this.symm
 ·intro h b hb;unfold a8J;rw[beq_iff_eq];exact(h b hb).symm
theorem a5C {P:o6} (ho:P.Ok) {m:Nat} (hfs:P.fs=List.range m) (hm:m≠0) (hsum:0<sm P.u P.ns):
  1≤a0c P m∧a0c P m<2^m∧b5e P m (a0c P m)=true∧∀a,1≤a→a<a0c P m→b5e P m a=false:=by
 obtain⟨S0,hS0⟩:=a3D ho hsum (by rw[hfs];intro e;have:=congrArg List.length e;simp at this;exact hm this);obtain⟨hne,hst⟩:=a3u ho hsum hS0;generalize D8 P S0=S at hne hst;obtain⟨a,ha,hb⟩:=a8C S m;obtain⟨b0,hb0,hSb⟩:=hne;rw[hfs,List.mem_range]at hb0;have ha1:1≤a:=by
  rcases Nat.eq_zero_or_pos a with h|h
  ·subst h;have:=hb b0 hb0;rw[hSb]at this;simp at this
  ·exact h
 have hnc:=a6U (P:=P) (S:=S) (S':=u5 a) fun b hb'=>by rw[hfs,List.mem_range]at hb';exact(hb b hb').symm
 have hfit:b5e P m a=true:=by
  rw[a8V hfs];intro b hb';have h:=hst b hb';rw[hnc.1,hnc.2]at h;rw[hfs,List.mem_range]at hb';rw[show u5 a b=S b from hb b hb'];exact h
 cases hf:(List.range (2^m)).find? (fun a=>decide (1≤a)&&b5e P m a)with
 |none=>
  rw[List.find?_eq_none]at hf;have:=hf a (List.mem_range.2 ha);simp[ha1,hfit]at this
 |some a0=>
  have e:a0c P m=a0:=by unfold a0c;rw[hf];rfl
  rw[List.find?_range_eq_some]at hf;rw[e];obtain⟨h1,h2,h3⟩:=hf;simp only[Bool.and_eq_true,decide_eq_true_eq]at h1;refine⟨h1.1,List.mem_range.1 h2,h1.2,fun a h4 h5=>?_⟩;have:=h3 a h5;simpa [h4]using this
theorem b1H {P:o6} (ho:P.Ok) {m:Nat} (hfs:P.fs=List.range m) (hm:m≠0) (hsum:0<sm P.u P.ns):
  0<P.den (u5 (a0c P m))∧0<P.den (u5 (X4 P m))∧∀k∈P.ns,P.num (u5 (a0c P m)) k*P.den (u5 (X4 P m))=P.num (u5 (X4 P m)) k*P.den (u5 (a0c P m)):=by
 obtain⟨a1,a2,a3,_⟩:=a5C ho hfs hm hsum;obtain⟨b1,b2,b3,_⟩:=a1G ho hfs hm hsum;have h1:∃b∈P.fs,u5 (a0c P m) b=true:=by obtain⟨b,hb,h⟩:=a3e a1 a2;exact⟨b,by rw[hfs];exact List.mem_range.2 hb,h⟩
 have f1:=a8m h1 ((a8V hfs).1 a3);have f2:=(b4k hfs (a3e b1 b2)).1 b3;exact⟨J4 ho f1.1,J4 ho f2.1,fun k hk=>b5W ho f1 f2 k hk⟩
def pvR (g:Gr) (s:Sta) (us:Kvs) (p:List Nat):List Int×Int×Bool:=
 if n8 g s (upN p)=[]then(a0Y p.length,1,T6 us p)
 else if B3 us p<0 then([],0,false)
 else if B3 us p=0 then
  (p.map fun k=>(ptO g s us p).num0 (p.getD 0 0) k+F2 ((ptO g s us p).V 0*(ptO g s us p).den0 (p.getD 0 0)-(ptO g s us p).num0 (p.getD 0 0) ((ptO g s us p).p 0)) ((List.range (n8 g s (upN p)).length).map fun b=>(ptO g s us p).V b*(ptO g s us p).den0 (p.getD 0 0)-(ptO g s us p).num0 (p.getD 0 0) ((ptO g s us p).p b)),
   (ptO g s us p).den0 (p.getD 0 0),true)
 else(p.map fun k=>(ptO g s us p).num (u5 (a0c (ptO g s us p) (n8 g s (upN p)).length)) k,(ptO g s us p).den (u5 (a0c (ptO g s us p) (n8 g s (upN p)).length)),true)
theorem b6s (g:Gr) (s:Sta) (p:List Nat) (us:Kvs) (fs cu:List Int) (hfs:fs=n8 g s (upN p)) (hnt:o8 g s) (hp:p∈l8 g s) (h5:p.length≤5) (hus:∀x,-40≤igt us x∧igt us x≤40) (hcu:∀k∈p,cu[k]?=some (igt us k)) (v:List Int) (d:Int) (ok:Bool)
  (q0:fs=[]→v=a0Y p.length∧d=1∧ok=T6 us p)
  (q1:fs≠[]→B3 us p<0→v=[]∧d=0∧ok=false)
  (q2:fs≠[]→B3 us p=0→d5 Try.prog 74 [g.av,s.av,iL (upN p),iL cu,iL fs] (.tup [iL v,I d,Bo true])∧ok=true)
  (q3:fs≠[]→0<B3 us p→ok=true∧∃a0,1≤a0∧a0<2^fs.length∧b5e (Pt g (onW g.Wires s.Wires) us p fs fs.length) fs.length a0=true∧(∀a,1≤a→a<a0→b5e (Pt g (onW g.Wires s.Wires) us p fs fs.length) fs.length a=false)∧
   d=(Pt g (onW g.Wires s.Wires) us p fs fs.length).den (u5 a0)∧v=p.map fun k=>(Pt g (onW g.Wires s.Wires) us p fs fs.length).num (u5 a0) k):
  d5 Try.prog 51 [g.av,s.av,iL (upN p),iL cu] (.tup [iL v,I d,Bo ok]):=by
 have hpt:=a4u hnt hp (by omega);have hpl:=r9 p;have hb:=r7 hnt.gr;have hn10:=hpt.n10;have hfl:=b2q hnt hfs;have hfd:=R5 g s (upN p) hnt.sf (by omega) (by omega);rw[←hfs]at hfd;have hmt:=a5Z g s p p.length rfl hpt.n1 hpt.n10 hpt.nd hnt.sw hb.2.2.1 hnt.wires hpt.cl;have hp0:0<p.length:=by have:=hpt.n1;omega
 have wneg:∀x,IntKind.i64.wrap (-igt us x)=-igt us x:=fun x=>i7 (by have:=hus x;omega) (by have:=hus x;omega);obtain⟨n,hn⟩:∃n,n=p.length:=⟨_,rfl⟩;rw[←hn]at hpl hn10 hmt hp0;refine d5.of_bodyG Try.func51 rfl (by decide) (by simp[Try.ntmps51]) ?_;intro J hJ;simp only[Try.ntmps51,Try.results51];refine gS fun K hK=>?_;simp -dsimp;apply hK;clear hK K;refine gS fun K hK=>?_;simp -dsimp;refine d6 _ (hfd) (by simp) ?_;simp -dsimp;apply hK;clear hK K;refine gS fun K hK=>?_;simp -dsimp;apply hK;clear hK K;refine b9 fun K1 hK1=>?_;refine gS fun K hK=>?_;simp -dsimp;apply hK;clear hK K;refine d7 ?_;refine b7 [2,3,4,5,11,12,13,14] (Or.inr (by simp)) ?_;simp only[zP,Nat.reduceEqDiff,reduceIte];refine g8 [2,3,4,5,11] (α:=Nat) (fun k=>[(12,I (B3 us (p.take k))),(13,Bo (T6 us (p.take k))),(14,I k)]) (fun k=>[some (.els 4 [g.cells]),some (.els 2 [s.cells])]) (fun k=>k≤n) (fun k=>n-k) 0 ?_ ?_ ?_
 ·exact Nat.zero_le _
 ·exact m8 (e8 [some 0,some 1] rfl (by simp[B3,T6,sm]) (by simp)) (by simp)
 rintro k k1;simp only[zP,Nat.reduceEqDiff,reduceIte];refine b9 fun K2 hK2=>?_;refine gS fun K hK=>?_;simp -dsimp [hpl];apply hK;clear hK K;refine d8 rfl (fun hc0=>?_) (fun hc0=>?_)
 ·have hkn:k<n:=by simpa using hc0
  obtain⟨x,hx⟩:∃x,p[k]?=some x:=⟨_,List.getElem?_eq_getElem (by omega)⟩;have gx:=F1 hx;have gc:=hcu x (List.mem_of_getElem? hx);have wk:=zW k (by omega);have hbd:=a2V hus (p.take k);have htl:(p.take k).length=k:=by rw[List.length_take];omega
  rw[htl]at hbd;have ws:IntKind.i64.wrap (B3 us (p.take k)+igt us x)=B3 us (p.take k)+igt us x:=i7 (by have:=hus x;omega) (by have:=hus x;omega);refine e9 ?_;simp only[zT,reduceIte,Nat.reduceEqDiff];refine hK2 _ _ ?_;refine b7 [2,3,4,5,11,12,13,14] (Or.inr (by simp)) ?_;simp only[zP,Nat.reduceEqDiff,reduceIte];refine b9 fun K3 hK3=>?_;refine d7 ?_;refine gS fun K hK=>?_;simp -dsimp [gx,gc,ws];apply hK;clear hK K;refine gR fun K hK=>?_;simp -dsimp;refine j8 ([I x]) (fun _=>by simp[gx]) ?_;simp -dsimp;refine j8 ([I (igt us x)]) (fun _=>by simp[gc]) ?_;simp -dsimp;apply hK;clear hK K;simp only[zT,reduceIte,Nat.reduceEqDiff];refine hK3 _ _ ?_;refine b7 [2,3,4,5,11,12,13,14] (Or.inr (by simp)) ?_;simp only[zP,Nat.reduceEqDiff,reduceIte];refine gR fun K hK=>?_;simp -dsimp [wk];apply hK;clear hK K;simp only[zT,reduceIte,Nat.reduceEqDiff];exact⟨k+1,by omega,by omega,m8 (e8 [some 0,some 1] rfl (by simp[X2 hx,a4d hx]) (by simp)) (by simp)⟩
 ·have hkp : ¬k<n:=by simpa using hc0
  have htp:p.take k=p:=List.take_of_length_le (by omega);rw[htp];refine i6 ?_;simp only[zT,reduceIte,Nat.reduceEqDiff];refine hK1 _ _ ?_;refine b7 [2,3,4,5,11,12,13] (Or.inr (by simp)) ?_;simp only[zP,Nat.reduceEqDiff,reduceIte];refine b9 fun K4 hK4=>?_;refine gS fun K hK=>?_;simp -dsimp;apply hK;clear hK K;refine d8 rfl (fun hc1=>?_) (fun hc1=>?_)
  ·have hf0:fs=[]:=by cases fs with|nil=>rfl|cons a l=>exact absurd hc1 (by simp;omega)
   have f9:C7 n 9:=k9 (by omega) (by omega);obtain⟨e1,e2,e3⟩:=q0 hf0;refine gS fun K hK=>?_;simp -dsimp [f9,hpl];apply hK;clear hK K;exact k7 (by simp[e1,e2,e3,a0Y,hpl,←hn,y8,n5])
  ·have hf0 :fs≠[]:=by rintro rfl;simp at hc1
   have hml:1≤fs.length:=by cases fs with|nil=>exact absurd rfl hf0|cons a l=>simp
   refine e9 ?_;simp only[zT,reduceIte,Nat.reduceEqDiff];refine hK4 _ _ ?_;refine b7 [2,3,4,5,11,12] (Or.inr (by simp)) ?_;simp only[zP,Nat.reduceEqDiff,reduceIte];refine b9 fun K5 hK5=>?_;refine gS fun K hK=>?_;simp -dsimp;apply hK;clear hK K;refine d8 rfl (fun hc2=>?_) (fun hc2=>?_)
   ·have hs2:B3 us p<0:=by simpa using hc2
    obtain⟨e1,e2,e3⟩:=q1 hf0 hs2;refine gS fun K hK=>?_;simp -dsimp;apply hK;clear hK K;refine o9 (m8 (z8 8 1 (by simp)) (by simp)) ?_;exact k7 (by simp[e1,e2,e3,y8,n5])
   ·refine e9 ?_;simp only[zT,reduceIte,Nat.reduceEqDiff];refine hK5 _ _ ?_;refine b7 [2,3,4,5,11,12] (Or.inr (by simp)) ?_;simp only[zP,Nat.reduceEqDiff,reduceIte];refine b9 fun K6 hK6=>?_;refine gS fun K hK=>?_;simp -dsimp;apply hK;clear hK K;refine d8 rfl (fun hc3=>?_) (fun hc3=>?_)
    ·have hs3:B3 us p=0:=by simpa using hc3
     obtain⟨hfc,e3⟩:=q2 hf0 hs3;refine gS fun K hK=>?_;simp -dsimp;refine d6 _ (hfc) (by simp) ?_;simp -dsimp;apply hK;clear hK K;exact k7 (by simp[e3,y8,n5])
    ·subst hn;have hs2:¬B3 us p<0:=by simpa using hc2
     have hs3:¬B3 us p=0:=by simpa using hc3
     have hsp:0<B3 us p:=by omega
     obtain⟨e3,a0,ha1,ha2,haf,hal,e2,e1⟩:=q3 hf0 hsp;have hsm:=fun a (h2:1≤a) (h3:a<2^fs.length)=>a4Y (us:=us) hnt hp h5 hfs hus (u5 a) (a3e h2 h3);have hfa:=fun b (hb:b<fs.length)=>H6 hnt hfs hb;have hpi:=fun b (hb:b<fs.length)=>List.idxOf_lt_length_of_mem (hfa b hb).2.2.2.2.2.1;have hm64:fs.length≤IntKind.i64.bits:=Nat.le_trans (show fs.length≤12 by omega) (by decide);have hsh:IntKind.i64.wrap (2^fs.length)=2^fs.length:=by have:=c0A fs.length (by omega);rw[Int.toNat_natCast,Int.one_mul,Int.natCast_pow]at this;exact this
     have hpow:2^fs.length≤2^12:=Nat.pow_le_pow_right (by omega) hfl;have hix:=fun b (hb:b<fs.length)=>by
      have hi:=R4 (upN p) (fdI g (at0 fs (b:Nat))).At (by omega);rw[J5 (hfa b hb).2.2.2.2.1 (hfa b hb).2.2.2.2.2.1]at hi;exact hi
     refine e9 ?_;simp only[zT,reduceIte,Nat.reduceEqDiff];refine hK6 _ _ ?_;refine b7 [2,3,4,5,11] (Or.inr (by simp)) ?_;simp only[zP,Nat.reduceEqDiff,reduceIte];refine b9 fun K7 hK7=>?_;refine gS fun K hK=>?_;simp -dsimp;apply hK;clear hK K;refine d7 ?_;refine b7 [2,3,4,5,11,15] (Or.inr (by simp)) ?_;simp only[zP,Nat.reduceEqDiff,reduceIte];refine g8 [2,3,4,5,11] (α:=Nat) (fun a=>[(15,I a)]) (fun a=>[some (.els 4 [g.cells]),some (.els 2 [s.cells])]) (fun a=>a≤a0) (fun a=>2^fs.length-a) 0 ?_ ?_ ?_
     ·exact Nat.zero_le _
     ·exact m8 (e8 [some 0,some 1] rfl (by simp) (by simp)) (by simp)
     rintro a a1;simp only[zP,Nat.reduceEqDiff,reduceIte];refine b9 fun K8 hK8=>?_;refine gS fun K hK=>?_;simp -dsimp [hm64,hsh];apply hK;clear hK K;refine d8 rfl (fun hc4=>?_) (fun hc4=>?_)
     ·have hal2:a<2^fs.length:=by omega
      have wa:=zW a (by omega);refine e9 ?_;simp only[zT,reduceIte,Nat.reduceEqDiff];refine hK8 _ _ ?_;refine b7 [2,3,4,5,11,15] (Or.inr (by simp)) ?_;simp only[zP,Nat.reduceEqDiff,reduceIte];refine b9 fun K9 hK9=>?_;refine d7 ?_;refine gS fun K hK=>?_;simp -dsimp;refine a3Z hmt (by simp) ?_;simp -dsimp;apply hK;clear hK K;refine gS fun K hK=>?_;simp -dsimp;apply hK;clear hK K;refine b9 fun K10 hK10=>?_;refine gS fun K hK=>?_;simp -dsimp;apply hK;clear hK K;refine d7 ?_;refine b7 [2,3,4,5,11,15,16,17,18] (Or.inr (by simp)) ?_;simp only[zP,Nat.reduceEqDiff,reduceIte];refine g8 [2,3,4,5,11,15,16] (α:=Nat) (fun k=>[(17, .row 3 0 k),(18,I k)]) (fun k=>[some (.els 4 [g.cells]),some (.els 2 [s.cells]),some (.els 1 (D0 4 p.length p.length)),some (.els 1 (((rgt us p).take k).map i9))]++n6 (Lf (onW g.Wires s.Wires) p) p.length p.length) (fun k=>k≤p.length) (fun k=>p.length-k) 0 ?_ ?_ ?_
      ·exact Nat.zero_le _
      ·have hout:∀i,i<p.length→some (i+3)∉ [some 0,some 1,some 2,some (p.length+3)]:=fun i hi=>by simp;omega
       have hro:=y3 (g:=some 0::some 1::some 2::some (p.length+3)::(List.range p.length).map fun i=>some (i+3)) (c:=3) (c':=4) (m:=p.length) (n:=p.length) (fun i hi=>p8 (gf:=[some 0,some 1,some 2,some (p.length+3)]) hi (hout i hi));refine m8 ((z8 17 1 (by simp)).trans (D7 (F':=[some (.els 4 [g.cells]),some (.els 2 [s.cells]),some (.els 1 (D0 4 p.length p.length)),some (.els 1 (((rgt us p).take 0).map i9))]) [some 0,some 1,some 2,some (p.length+3)] (Lf (onW g.Wires s.Wires) p) p.length p.length 3 (by simp[u6]) hout ?_ (by simp) ?_)) (by simp)
       ·intro i hi;show m7 (n6 _ p.length p.length++_) i=_;rw[l9 hi]
       ·simp[hro]
      rintro k k1;simp only[zP,Nat.reduceEqDiff,reduceIte];refine b9 fun K11 hK11=>?_;refine gS fun K hK=>?_;simp -dsimp [hpl];apply hK;clear hK K;refine d8 rfl (fun hc5=>?_) (fun hc5=>?_)
      ·have hkn:k<p.length:=by simpa [hpl]using hc5
       obtain⟨x,hx⟩:∃x,p[k]?=some x:=⟨_,List.getElem?_eq_getElem (by omega)⟩;have gx:=F1 hx;have gc:=hcu x (List.mem_of_getElem? hx);have wk:=zW k (by omega);have hrl:min k (rgt us p).length=k:=by simp only[rgt,List.length_map];omega
       have gr:(rgt us p)[k]?=some (-igt us x):=by simp[rgt,hx]
       have f2:C7 (k+1) 9:=k9 (by omega) (by omega);refine e9 ?_;simp only[zT,reduceIte,Nat.reduceEqDiff];refine hK11 _ _ ?_;refine b7 [2,3,4,5,11,15,16,17,18] (Or.inr (by simp)) ?_;simp only[zP,Nat.reduceEqDiff,reduceIte];refine b9 fun K12 hK12=>?_;refine d7 ?_;refine gR fun K hK=>?_;simp -dsimp [gx,gc,wneg,f2,hrl,Nat.add_assoc];apply hK;clear hK K;simp only[zT,reduceIte,Nat.reduceEqDiff];refine hK12 _ _ ?_;refine b7 [2,3,4,5,11,15,16,17,18] (Or.inr (by simp)) ?_;simp only[zP,Nat.reduceEqDiff,reduceIte];refine gR fun K hK=>?_;simp -dsimp [wk];apply hK;clear hK K;simp only[zT,reduceIte,Nat.reduceEqDiff];have hout:∀i,i<p.length→some (i+4)∉ [some 0,some 1,some 2,some (p.length+4)]:=fun i hi=>by simp;omega
       have hro:=y3 (g:=some 0::some 1::some 2::some (p.length+4)::(List.range p.length).map fun i=>some (i+4)) (c:=4) (c':=4) (m:=p.length) (n:=p.length) (fun i hi=>p8 (gf:=[some 0,some 1,some 2,some (p.length+4)]) hi (hout i hi));refine⟨k+1,by omega,by omega,m8 (D7 (F':=[some (.els 4 [g.cells]),some (.els 2 [s.cells]),some (.els 1 (D0 4 p.length p.length)),some (.els 1 (((rgt us p).take (k+1)).map i9))]) [some 0,some 1,some 2,some (p.length+4)] (Lf (onW g.Wires s.Wires) p) p.length p.length 4 (by simp[u6]) hout ?_ (by simp) ?_) (by simp)⟩
       ·intro i hi;show m7 (n6 _ p.length p.length++_) i=_;rw[l9 hi]
       ·simp[hro,List.take_add_one,gr]
      ·have hkn:k=p.length:=by have hx:¬k<p.length:=(by simpa [hpl]using hc5);omega
       have hrt:List.take k ((rgt us p).map i9)=(rgt us p).map i9:=List.take_of_length_le (by simp[rgt];omega);rw[hrt,hkn];refine i6 ?_;simp only[zT,reduceIte,Nat.reduceEqDiff];refine hK10 _ _ ?_;refine b7 [2,3,4,5,11,15,16,17] (Or.inr (by simp)) ?_;simp only[zP,Nat.reduceEqDiff,reduceIte];refine b9 fun K13 hK13=>?_;refine gS fun K hK=>?_;simp -dsimp;apply hK;clear hK K;refine d7 ?_;refine b7 [2,3,4,5,11,15,16,17,19] (Or.inr (by simp)) ?_;simp only[zP,Nat.reduceEqDiff,reduceIte];refine g8 [2,3,4,5,11,15,16,17] (α:=Nat) (fun t=>[(19,I t)]) (fun t=>[some (.els 4 [g.cells]),some (.els 2 [s.cells]),some (.els 1 (D0 4 p.length p.length)),some (.els 1 ((RfL g (onW g.Wires s.Wires) us p fs t a).map i9))]++n6 (Af g (onW g.Wires s.Wires) us p fs t a) p.length p.length) (fun t=>t≤fs.length) (fun t=>fs.length-t) 0 ?_ ?_ ?_
       ·exact Nat.zero_le _
       ·rw[b4P,b1x];exact m8 (j7 (by simp)) (by simp)
       rintro t t1;simp only[zP,Nat.reduceEqDiff,reduceIte];refine b9 fun K14 hK14=>?_;refine gS fun K hK=>?_;simp -dsimp [Nat.add_assoc];apply hK;clear hK K;refine d8 rfl (fun hc6=>?_) (fun hc6=>?_)
       ·have htl:t<fs.length:=by simpa using hc6
        have wt:=zW t (by omega);have hbit:bits .and .i64 ((a:Int)/2^t) 1=if a.testBit t then 1 else 0:=by have:=V5 a t (by omega);rwa [Int.toNat_natCast]at this
        have ht64:t≤IntKind.i64.bits:=Nat.le_trans (show t≤12 by omega) (by decide);refine e9 ?_;simp only[zT,reduceIte,Nat.reduceEqDiff];refine hK14 _ _ ?_;refine b7 [2,3,4,5,11,15,16,17,19] (Or.inr (by simp)) ?_;simp only[zP,Nat.reduceEqDiff,reduceIte];refine b9 fun K15 hK15=>?_;refine d7 ?_;refine s4 l6 rfl (by decide) rfl rfl fun K hK=>?_;simp -dsimp [(hfa t htl).1,(hfa t htl).2.1,(hfa t htl).2.2.2.1,Nat.add_assoc];refine hK _ _ _ (by exact r8 [(0,2),(1,2),(0,3),(1,3),(2,3),(0,4),(1,4),(0,5),(1,5),(0,8),(1,8),(2,8),(3,8),(4,8),(5,8),(6,8),(7,8)] (by decide+kernel) (by decide+kernel) (by simp[J0]<;>omega)) ?_;clear hK K;refine gS fun K hK=>?_;simp -dsimp [hbit,ht64];apply hK;clear hK K;refine d8 rfl (fun hc7=>?_) (fun hc7=>?_)
        ·have hbt:a.testBit t=true:=by cases h:a.testBit t with|true=>rfl|false=>rw[h]at hc7;simp at hc7
         obtain⟨k,hk⟩:∃k,k=p.idxOf (fdI g (at0 fs t)).At.toNat:=⟨_,rfl⟩;have hkl:k<p.length:=by rw[hk];exact hpi t htl
         have hkl1:k≤p.length+1:=by omega
         have hkg:p[k]?=some (fdI g (at0 fs t)).At.toNat:=by rw[hk];exact x8 (hfa t htl).2.2.2.2.2.1
         have hat:p.getD k 0=(V6 g fs t).At.toNat:=by rw[F4 hkl]at hkg;exact Option.some.inj hkg
         have hAe:=c1s g (onW g.Wires s.Wires) us p fs hpt.nd hbt hkl hat;have hRe:=c1z g (onW g.Wires s.Wires) us p fs hpt.nd hbt hkl hat;have hfdo:V6 g fs t=fdI g (at0 fs t):=rfl;rw[hfdo]at hAe hRe;have hab:(Af g (onW g.Wires s.Wires) us p fs t a k k).natAbs≤400:=by
          have hb1:=b2l (P:=Pt g (onW g.Wires s.Wires) us p fs t) (S:=u5 a) (c:=(Pt g (onW g.Wires s.Wires) us p fs t).s) (C:=4) (i:=p.getD k 0) (by omega) (fun b hb=>by
           have:=hfa b (by have:=List.mem_range.1 hb;omega);show 0≤(fdI g (at0 fs b)).Siem∧(fdI g (at0 fs b)).Siem≤4;omega)
          have hb2:(Pt g (onW g.Wires s.Wires) us p fs t).fs.length=t:=List.length_range;rw[hb2]at hb1;have hb3:(lw (onW g.Wires s.Wires) (p.getD k 0) (p.getD k 0)).natAbs≤320:=Nat.le_trans (a7t fun x hx=>by
           obtain⟨w',hw',e⟩:=a0f hx;have:=hnt.wires w' hw';simp only[wrB,Bool.and_eq_true,v9]at this;rw[e];simp only;omega) (by have:=a5e g.Wires s.Wires;omega)
          unfold Af o6.A;rw[if_pos rfl];show(lw _ _ _+_).natAbs≤400;omega
         have hrb:(Rf g (onW g.Wires s.Wires) us p fs t a k).natAbs≤50000:=by
          have hb1:=b2l (P:=Pt g (onW g.Wires s.Wires) us p fs t) (S:=u5 a) (c:=fun b=>(Pt g (onW g.Wires s.Wires) us p fs t).s b*(Pt g (onW g.Wires s.Wires) us p fs t).V b) (C:=4000) (i:=p.getD k 0) (by omega) (fun b hb=>by
           have h:=hfa b (by have:=List.mem_range.1 hb;omega);show 0≤(fdI g (at0 fs b)).Siem*(fdI g (at0 fs b)).Volts∧(fdI g (at0 fs b)).Siem*(fdI g (at0 fs b)).Volts≤4000;exact⟨Int.mul_nonneg (by omega) (by omega),Int.mul_le_mul h.2.2.2.2.2.2.2.2.2 h.2.2.2.2.2.2.2.1 (by omega) (by omega)⟩)
          have hb2:(Pt g (onW g.Wires s.Wires) us p fs t).fs.length=t:=List.length_range;rw[hb2]at hb1;have hb3:=hus (p.getD k 0);unfold Rf o6.b;show(-igt us _+_).natAbs≤50000;omega
         have hsv:0≤(fdI g (at0 fs t)).Siem*(fdI g (at0 fs t)).Volts∧(fdI g (at0 fs t)).Siem*(fdI g (at0 fs t)).Volts≤4000:=by
          have h:=hfa t htl;exact⟨Int.mul_nonneg (by omega) (by omega),Int.mul_le_mul h.2.2.2.2.2.2.2.2.2 h.2.2.2.2.2.2.2.1 (by omega) (by omega)⟩
         have w1:IntKind.i64.wrap (Af g (onW g.Wires s.Wires) us p fs t a k k+(fdI g (at0 fs t)).Siem)=Af g (onW g.Wires s.Wires) us p fs t a k k+(fdI g (at0 fs t)).Siem:=i7 (by have:=hfa t htl;omega) (by have:=hfa t htl;omega);have w2:IntKind.i64.wrap ((fdI g (at0 fs t)).Siem*(fdI g (at0 fs t)).Volts)=(fdI g (at0 fs t)).Siem*(fdI g (at0 fs t)).Volts:=i7 (by omega) (by omega);have w3:IntKind.i64.wrap (Rf g (onW g.Wires s.Wires) us p fs t a k+(fdI g (at0 fs t)).Siem*(fdI g (at0 fs t)).Volts)=Rf g (onW g.Wires s.Wires) us p fs t a k+(fdI g (at0 fs t)).Siem*(fdI g (at0 fs t)).Volts:=i7 (by omega) (by omega);have grk:=b2s g (onW g.Wires s.Wires) us p fs (t:=t) (a:=a) hkl;have hwk:=hix t htl;rw[←hk]at hwk;generalize Af g (onW g.Wires s.Wires) us p fs t a=f at w1 hAe ⊢;generalize Rf g (onW g.Wires s.Wires) us p fs t a k=rk at w3 grk hRe;generalize RfL g (onW g.Wires s.Wires) us p fs t a=rl at grk hRe ⊢;refine gS fun K hK=>?_;simp -dsimp [Nat.add_assoc];refine d6 _ (hwk) (by simp) ?_;simp -dsimp [Nat.add_assoc];apply hK;clear hK K;refine s4 l6 rfl (by decide) rfl rfl fun K hK=>?_;simp -dsimp [hkl1,Nat.add_assoc,x3 hkl,hkl,l9 hkl,X8,C3 hkl,x5 hkl,w1];refine hK _ _ _ (by exact r8 [(0,1),(0,4),(1,4),(2,4),(3,4),(0,5),(1,5),(2,5),(3,5),(4,5),(0,6),(1,6),(2,6),(3,6),(4,6),(5,6),(0,7),(1,7),(2,7),(3,7),(4,7),(0,8),(1,8),(2,8),(3,8),(4,8),(0,9),(1,9),(2,9),(3,9),(4,9),(5,9),(6,9),(7,9),(8,9),(0,10),(1,10),(2,10),(3,10),(4,10),(0,11),(1,11),(2,11),(3,11),(4,11),(0,12),(1,12),(2,12),(3,12),(4,12),(5,12),(6,12),(7,12),(8,12),(9,12),(10,12),(11,12),(0,13),(1,13),(2,13),(3,13),(4,13),(5,13),(6,13),(7,13),(8,13),(9,13),(10,13),(11,13),(0,14),(1,14),(2,14),(3,14),(4,14)] (by decide+kernel) (by decide+kernel) (by simp[J0]<;>omega)) ?_;clear hK K;refine p9 l6 rfl (by decide) rfl rfl fun K hK=>?_;simp -dsimp [hkl1,Nat.add_assoc,grk,hkl,w2,w3];refine hK _ _ _ (by exact r8 [(0,1),(0,2),(1,2),(0,3),(1,3),(2,3),(0,4),(1,4),(0,5),(1,5),(0,6),(1,6),(2,6),(3,6),(4,6),(5,6),(0,7),(1,7),(2,7),(3,7),(4,7),(5,7),(0,8),(1,8),(2,8),(3,8),(4,8),(5,8),(6,8),(7,8),(0,9),(1,9),(2,9),(3,9),(4,9),(5,9),(6,9),(7,9),(0,10),(1,10),(2,10),(3,10),(4,10),(5,10),(0,11),(1,11)] (by decide+kernel) (by decide+kernel) (by simp[J0]<;>omega)) ?_;clear hK K;simp only[zT,reduceIte,Nat.reduceEqDiff];refine hK15 _ _ ?_;refine b7 [2,3,4,5,11,15,16,17,19] (Or.inr (by simp)) ?_;simp only[zP,Nat.reduceEqDiff,reduceIte];refine gR fun K hK=>?_;simp -dsimp [wt];apply hK;clear hK K;simp only[zT,reduceIte,Nat.reduceEqDiff];refine⟨t+1,by omega,by omega,m8 (D7 (F':=[some (.els 4 [g.cells]),some (.els 2 [s.cells]),some (.els 1 (D0 4 p.length p.length)),some (.els 1 ((RfL g (onW g.Wires s.Wires) us p fs (t+1) a).map i9))]) [some 0,some 1,some 2,some 3] (Af g (onW g.Wires s.Wires) us p fs (t+1) a) p.length p.length 4 (by simp[u6]) (fun i hi=>by simp) ?_ (by simp) ?_) (by simp)⟩
         ·intro i hi;show m7 (n6 _ p.length p.length++_) i=_;rw[l9 hi];rw[←o4 (m:=p.length) hi,←o4 (m:=p.length) hi,A7 hAe]
         ·have hro:=y3 (g:=some 0::some 1::some 2::some 3::(List.range p.length).map fun i=>some (i+4)) (c:=4) (c':=4) (m:=p.length) (n:=p.length) (fun i hi=>p8 (gf:=[some 0,some 1,some 2,some 3]) hi (by simp));rw[←hRe,List.map_set];simp[hro]
        ·refine e9 ?_;simp only[zT,reduceIte,Nat.reduceEqDiff];refine hK15 _ _ ?_;refine b7 [2,3,4,5,11,15,16,17,19] (Or.inr (by simp)) ?_;simp only[zP,Nat.reduceEqDiff,reduceIte];refine gR fun K hK=>?_;simp -dsimp [wt];apply hK;clear hK K;simp only[zT,reduceIte,Nat.reduceEqDiff];have hbt:a.testBit t=false:=by cases h:a.testBit t with|false=>rfl|true=>rw[h]at hc7;simp at hc7
         refine⟨t+1,by omega,by omega,?_⟩;rw[b7t _ _ _ _ _ hbt,b7G _ _ _ _ _ hbt];refine m8 (D7 (F':=[some (.els 4 [g.cells]),some (.els 2 [s.cells]),some (.els 1 (D0 4 p.length p.length)),some (.els 1 ((RfL g (onW g.Wires s.Wires) us p fs t a).map i9))]) [some 0,some 1,some 2,some 3] (Af g (onW g.Wires s.Wires) us p fs t a) p.length p.length 4 (by simp[u6]) (fun i hi=>by simp) ?_ (by simp) ?_) (by simp)
         ·intro i hi;show m7 (n6 _ p.length p.length++_) i=_;rw[l9 hi]
         ·have hro:=y3 (g:=some 0::some 1::some 2::some 3::(List.range p.length).map fun i=>some (i+4)) (c:=4) (c':=4) (m:=p.length) (n:=p.length) (fun i hi=>p8 (gf:=[some 0,some 1,some 2,some 3]) hi (by simp));simp[hro]
       ·have htl:¬t<fs.length:=by simpa using hc6
        have hte:t=fs.length:=by omega
        rw[hte];have hsol:=a3o (eqM ((Pt g (onW g.Wires s.Wires) us p fs fs.length).A (u5 a)) p) (p.map ((Pt g (onW g.Wires s.Wires) us p fs fs.length).b (u5 a))) p.length (I6 _ _) hpt.n1 hpt.n10 (by simp);rw[a5F _ _ _ hpt.nd,a5i,←b8j]at hsol;have hd00:a=0→wr (D ((Pt g (onW g.Wires s.Wires) us p fs fs.length).A (u5 a)) p)=0:=by
         rintro rfl;have:=b6H (P:=Pt g (onW g.Wires s.Wires) us p fs fs.length) (S:=u5 0) (a4J hnt hp hfs) (by show p≠[];intro e;rw[e]at hp0;simp at hp0) (fun b hb=>by unfold u5;simp);have e:D ((Pt g (onW g.Wires s.Wires) us p fs fs.length).A (u5 0)) p=0:=this;rw[e];rfl
        have hfit:=fun(h:1≤a)=>hsm a h hal2;have hv0:1≤a→(p.map fun k=>wr (Cur.num ((Pt g (onW g.Wires s.Wires) us p fs fs.length).A (u5 a)) ((Pt g (onW g.Wires s.Wires) us p fs fs.length).b (u5 a)) p k))=p.map fun k=>(Pt g (onW g.Wires s.Wires) us p fs fs.length).num (u5 a) k:=fun h=>List.map_congr_left fun k _=>a6p (by have:=(hfit h).1 k;unfold o6.num at this;show _≤Cur.num _ _ (Pt g (onW g.Wires s.Wires) us p fs fs.length).ns k;omega) (by have:=(hfit h).1 k;unfold o6.num at this;show Cur.num _ _ (Pt g (onW g.Wires s.Wires) us p fs fs.length).ns k≤_;omega);have hd0:1≤a→wr (D ((Pt g (onW g.Wires s.Wires) us p fs fs.length).A (u5 a)) p)=(Pt g (onW g.Wires s.Wires) us p fs fs.length).den (u5 a):=fun h=>a6p (by have:=(hfit h).2.1;unfold o6.den at this;show _≤D _ (Pt g (onW g.Wires s.Wires) us p fs fs.length).ns;omega) (by have:=(hfit h).2.2;unfold o6.den at this;show D _ (Pt g (onW g.Wires s.Wires) us p fs fs.length).ns≤_;omega);obtain⟨nlw,hnlw⟩:∃l,l=p.map fun k=>wr (Cur.num ((Pt g (onW g.Wires s.Wires) us p fs fs.length).A (u5 a)) ((Pt g (onW g.Wires s.Wires) us p fs fs.length).b (u5 a)) p k):=⟨_,rfl⟩;obtain⟨dw,hdw⟩:∃x,x=wr (D ((Pt g (onW g.Wires s.Wires) us p fs fs.length).A (u5 a)) p):=⟨_,rfl⟩;rw[←hnlw,←hdw]at hsol;rw[←hdw]at hd00 hd0;rw[←hnlw]at hv0;obtain⟨M,hM⟩:∃M,M=eqM ((Pt g (onW g.Wires s.Wires) us p fs fs.length).A (u5 a)) p:=⟨_,rfl⟩;rw[←hM]at hsol;refine i6 ?_;simp only[zT,reduceIte,Nat.reduceEqDiff];refine hK13 _ _ ?_;refine b7 [2,3,4,5,11,15,16,17] (Or.inr (by simp)) ?_;simp only[zP,Nat.reduceEqDiff,reduceIte];refine o9 (m8 (B5 (T':=[(2,iL (upN p)),(3,iL cu),(4, .ptr 0 0 0),(5, .ptr 1 0 0),(11,iL fs),(15,I a),(16,mL M),(17,iL (RfL g (onW g.Wires s.Wires) us p fs fs.length a))]) (H':=[some (.els 4 [g.cells]),some (.els 2 [s.cells])]) [some 0,some 1] rfl ⟨.inr (by simp), .inr (by simp), .inr (by simp), .inr (by simp), .inr (by simp), .inr (by simp), .inr ?_, .inr ?_,trivial⟩ (by simp)) (by simp)) ?_
        ·rw[hM];exact b2j _ _ _ _ hpt.n1
        ·exact c0X _ _ _ _ _ (b3C _ _ _ _ _ _ _) hpt.n1
        ·refine gS fun K hK=>?_;simp -dsimp;refine k8 [] [] [none,none,some 0] (hsol) (by decide) rfl (by simp) (by simp) rfl (by simp) ?_;simp -dsimp;apply hK;clear hK K;refine b9 fun K16 hK16=>?_;refine gS fun K hK=>?_;simp -dsimp;apply hK;clear hK K;refine d8 rfl (fun hc8=>?_) (fun hc8=>?_)
         ·refine i6 ?_;simp only[zT,reduceIte,Nat.reduceEqDiff];refine hK9 _ _ ?_;refine b7 [2,3,4,5,11,15] (Or.inr (by simp)) ?_;simp only[zP,Nat.reduceEqDiff,reduceIte];refine gR fun K hK=>?_;simp -dsimp [wa];apply hK;clear hK K;simp only[zT,reduceIte,Nat.reduceEqDiff];have hdw0:dw≤0:=by simpa using hc8
          have ha0:a=0:=by
           refine Decidable.byContradiction fun h=>?_;have h1:=hd0 (by omega);have h2:=(hfit (by omega)).2.1;omega
          exact⟨a+1,by omega,by omega,m8 (e8 [some 0,some 1] rfl (by simp) (by simp)) (by simp)⟩
         ·have hdw0:0<dw:=by have:=(by simpa using hc8:¬dw≤0);omega
          have ha0:1≤a:=by
           refine Nat.pos_of_ne_zero fun h=>?_;have:=hd00 h;omega
          have hv1:=hv0 ha0;have hd1:=hd0 ha0;obtain⟨z1,z2,z3⟩:=hfit ha0;have hfit:=show b5e (Pt g (onW g.Wires s.Wires) us p fs fs.length) fs.length a=(List.range fs.length).all (a8J (Pt g (onW g.Wires s.Wires) us p fs fs.length).V (Pt g (onW g.Wires s.Wires) us p fs fs.length).p ((Pt g (onW g.Wires s.Wires) us p fs fs.length).num (u5 a)) ((Pt g (onW g.Wires s.Wires) us p fs fs.length).den (u5 a)) a)from rfl;have hzl:∀k x,p[k]?=some x→nlw[k]?=some ((Pt g (onW g.Wires s.Wires) us p fs fs.length).num (u5 a) x):=fun k x h=>by rw[hv1,List.getElem?_map,h];rfl
          have hnle:∀a',a'=a→(p.map fun k=>(Pt g (onW g.Wires s.Wires) us p fs fs.length).num (u5 a') k)=nlw∧(Pt g (onW g.Wires s.Wires) us p fs fs.length).den (u5 a')=dw:=by rintro a' rfl;exact⟨hv1.symm,hd1.symm⟩
          have hnll:nlw.length=p.length:=by rw[hv1];simp
          rw[←hd1]at z3 hfit;obtain⟨nu,hnu⟩:∃nu,nu=(Pt g (onW g.Wires s.Wires) us p fs fs.length).num (u5 a):=⟨_,rfl⟩;rw[←hnu]at z1 hzl hfit;have hVe:(Pt g (onW g.Wires s.Wires) us p fs fs.length).V=fun(b:Nat)=>(fdI g (at0 fs b)).Volts:=rfl;have hpe:(Pt g (onW g.Wires s.Wires) us p fs fs.length).p=fun(b:Nat)=>(fdI g (at0 fs b)).At.toNat:=rfl;rw[hVe,hpe]at hfit;clear hnu hVe hpe hv1 hd1 hnlw hdw hv0 hd0 hd00;refine e9 ?_;simp only[zT,reduceIte,Nat.reduceEqDiff];refine hK16 _ _ ?_;refine b7 [2,3,4,5,11,15,22,23] (Or.inr (by simp)) ?_;simp only[zP,Nat.reduceEqDiff,reduceIte];refine gS fun K hK=>?_;simp -dsimp;apply hK;clear hK K;refine b9 fun K17 hK17=>?_;refine gS fun K hK=>?_;simp -dsimp;apply hK;clear hK K;refine d7 ?_;refine b7 [2,3,4,5,11,15,22,23,24,25] (Or.inr (by simp)) ?_;simp only[zP,Nat.reduceEqDiff,reduceIte];refine g8 [2,3,4,5,11,15,22,23] (α:=Nat) (fun b=>[(24,Bo ((List.range b).all (a8J (fun(b:Nat)=>(fdI g (at0 fs b)).Volts) (fun(b:Nat)=>(fdI g (at0 fs b)).At.toNat) nu dw a))),(25,I b)]) (fun b=>[some (.els 4 [g.cells]),some (.els 2 [s.cells]),some (.els 1 (nlw.map i9))]) (fun b=>b≤fs.length) (fun b=>fs.length-b) 0 ?_ ?_ ?_
          ·exact Nat.zero_le _
          ·exact m8 (e8 [some 0,some 1,some 2] rfl (by simp) (by simp)) (by simp)
          rintro b b1;simp only[zP,Nat.reduceEqDiff,reduceIte];refine b9 fun K18 hK18=>?_;refine gS fun K hK=>?_;simp -dsimp;apply hK;clear hK K;refine d8 rfl (fun hc9=>?_) (fun hc9=>?_)
          ·have hbl:b<fs.length:=by simpa using hc9
           have wb:=zW b (by omega);have hbit:bits .and .i64 ((a:Int)/2^b) 1=if a.testBit b then 1 else 0:=by have:=V5 a b (by omega);rwa [Int.toNat_natCast]at this
           have hb64:b≤IntKind.i64.bits:=Nat.le_trans (show b≤12 by omega) (by decide);have hvd:-100000000000000000≤(fdI g (at0 fs b)).Volts*dw∧(fdI g (at0 fs b)).Volts*dw≤100000000000000000:=by
            have h:=hfa b hbl;have h1:=Int.mul_nonneg (show 0≤(fdI g (at0 fs b)).Volts by omega) (show 0≤dw by omega);have h2:=Int.mul_le_mul h.2.2.2.2.2.2.2.1 z3 (by omega) (by omega);omega
           have w1:IntKind.i64.wrap ((fdI g (at0 fs b)).Volts*dw)=(fdI g (at0 fs b)).Volts*dw:=i7 (by omega) (by omega);have hzp:=hzl _ _ (x8 (hfa b hbl).2.2.2.2.2.1);have hif:((if a.testBit b=true then(1:Int)else 0)==1)=a.testBit b:=by cases a.testBit b<;>rfl
           refine e9 ?_;simp only[zT,reduceIte,Nat.reduceEqDiff];refine hK18 _ _ ?_;refine b7 [2,3,4,5,11,15,22,23,24,25] (Or.inr (by simp)) ?_;simp only[zP,Nat.reduceEqDiff,reduceIte];refine b9 fun K19 hK19=>?_;refine d7 ?_;refine s4 l6 rfl (by decide) rfl rfl fun K hK=>?_;simp -dsimp [(hfa b hbl).1,(hfa b hbl).2.1,(hfa b hbl).2.2.2.1];refine hK _ _ _ (by decide+kernel) ?_;clear hK K;refine p9 l6 rfl (by decide) rfl rfl fun K hK=>?_;simp -dsimp [hbit,hb64,w1,hzp,hpi b hbl,hif];refine f8 _ (fun hm=>hix b hbl) (by simp) ?_;simp -dsimp [hbit,hb64,w1,hzp,hpi b hbl,hif];refine⟨fun w=>(b2D _ _ _ _ _ w a9X b2M).1,_,fun w=>(b2D _ (.tmp 0) (.tmp 0) _ _ w a9X b2M).2,?_⟩;simp -dsimp;refine hK _ _ _ (by decide+kernel) ?_;clear hK K;simp only[zT,reduceIte,Nat.reduceEqDiff];refine hK19 _ _ ?_;refine b7 [2,3,4,5,11,15,22,23,24,25] (Or.inr (by simp)) ?_;simp only[zP,Nat.reduceEqDiff,reduceIte];refine gR fun K hK=>?_;simp -dsimp [wb];apply hK;clear hK K;simp only[zT,reduceIte,Nat.reduceEqDiff];refine⟨b+1,by omega,by omega,m8 (e8 [some 0,some 1,some 2] rfl ?_ (by simp)) (by simp)⟩;rw[a9A];generalize (List.range b).all (a8J (fun(b:Nat)=>(fdI g (at0 fs b)).Volts) (fun(b:Nat)=>(fdI g (at0 fs b)).At.toNat) nu dw a)=q;unfold a8J
           cases q<;>simp
          ·have hbl:¬b<fs.length:=by simpa using hc9
           have hbe:b=fs.length:=by omega
           rw[hbe,←hfit];refine i6 ?_;simp only[zT,reduceIte,Nat.reduceEqDiff];refine hK17 _ _ ?_;refine b7 [2,3,4,5,11,15,22,23,24] (Or.inr (by simp)) ?_;simp only[zP,Nat.reduceEqDiff,reduceIte];refine gS fun K hK=>?_;simp -dsimp;apply hK;clear hK K;refine d8 rfl (fun hc10=>?_) (fun hc10=>?_)
           ·refine gS fun K hK=>?_;simp -dsimp;apply hK;clear hK K;have hae:a0=a:=by
             rcases Nat.lt_or_ge a a0 with h|h
             ·have:=hal a (by omega) h;rw[this]at hc10;cases hc10
             ·omega
            obtain⟨g1,g2⟩:=hnle a0 hae;have htk:List.take p.length (nlw.map i9)=nlw.map i9:=List.take_of_length_le (by simp;omega);exact k7 (by simp[e1,e2,e3,g1,g2,hnll,htk,y8,n5])
           ·refine e9 ?_;simp only[zT,reduceIte,Nat.reduceEqDiff];refine hK9 _ _ ?_;refine b7 [2,3,4,5,11,15] (Or.inr (by simp)) ?_;simp only[zP,Nat.reduceEqDiff,reduceIte];refine gR fun K hK=>?_;simp -dsimp [wa];apply hK;clear hK K;simp only[zT,reduceIte,Nat.reduceEqDiff];have hae:a0≠a:=by
             rintro rfl;rw[haf]at hc10;cases hc10
            exact⟨a+1,by omega,by omega,m8 (e8 [some 0,some 1] rfl (by simp) (by simp)) (by simp)⟩
     ·exfalso;have h:((a:Nat):Int)<2^fs.length:=by have:=Int.ofNat_lt.2 (show a<2^fs.length by omega);rwa [Int.natCast_pow]at this
      exact absurd h (of_decide_eq_false hc4)
end Go.Cur
end
section
namespace Go.Cur
open Go.AM Go.Proofs
def exG (lim:Int):Gr:=⟨3,[⟨0,1,2,false⟩,⟨1,2,1,true⟩],[⟨0,600,2,lim⟩,⟨2,600,1,30⟩],500⟩
def exS (b:Bool):Sta:=⟨[true,true],[true,b]⟩
def exL:List Ld:=[⟨1,40,0⟩]
theorem a0m:w9 (exG 100) (exS false) exL=true∧w9 (exG 100) (exS true) exL=true∧w9 (exG 39) (exS false) exL=true∧w9 (exG 39) (exS true) exL=true:=by decide+kernel
theorem a8f (lim:Int) (b:Bool):G2 (exG lim) (exS b)=false:=by
 show G2 (exG 0) (exS b)=false
 cases b<;>decide+kernel
theorem b2z (lim:Int) (b:Bool) (fe:List Bool):∀p∈l8 (exG lim) ⟨fe,[true,b]⟩,p.length≤5:=by
 show∀p∈l8 (exG 0) ⟨[],[true,b]⟩,p.length≤5
 cases b<;>decide+kernel
theorem c0a:okS (exG 100) (exS false) (tkK exL (a9v exL))=true∧vlA 3 (vfS (exG 100) (exS false) (tkK exL (a9v exL)))=[⟨580,1⟩,⟨560,1⟩,⟨600,1⟩]∧flA (exG 100) (exS false) (vfS (exG 100) (exS false) (tkK exL (a9v exL)))=[⟨40,1⟩,⟨0,1⟩]:=by decide+kernel
theorem c1I:okS (exG 100) (exS true) (tkK exL (a9v exL))=true∧vlA 3 (vfS (exG 100) (exS true) (tkK exL (a9v exL)))=[⟨1760,3⟩,⟨1720,3⟩,⟨1760,3⟩]:=by decide+kernel
theorem c2O:t5 (exG 39) [true,false] exL [true,true]=⟨[false],[false,true],[⟨4,0,⟨40,1⟩⟩,⟨1,0,⟨0,1⟩⟩]⟩:=by decide+kernel
theorem c1H:a1C [true,false] 2=[1]:=by decide+kernel
def exR (c:List Int):Bool:=rlB (exG 39) (exS false) c exL
theorem b7l:b4B exR [1]=(true,some [1]):=by decide+kernel
end Go.Cur
end
section
namespace Go.Cur
open Go.AM Go.Proofs
def c0c (g:Gr) (s:Sta) (n:Nat):Bool:=decide (g.Wires.length≤100)&&(decide (g.Feeds.length≤20)&&(decide (s.Feeds.length≤20)&&(decide (s.Wires.length≤100)&&(decide (n≤50)&&(decide (g.Nodes≤12)||decide (40<g.Nodes))))))
theorem c1t (g:Gr) (s:Sta) (l:List Ld):d5 Try.prog 14 [g.av,s.av,lL l] (Bo (c0c g s l.length)):=by
 refine d5.of_body Try.func14 rfl (by decide) (by simp[Try.ntmps14]) ?_;simp only[Try.ntmps14,Try.results14];refine aS fun K hK=>?_;simp -dsimp;apply hK;clear hK K;refine aS fun K hK=>?_;simp -dsimp;apply hK;clear hK K;have e:∀n m:Nat,decide ((n:Int)≤m)=decide (n≤m):=fun n m=>decide_eq_decide.2 (by omega);exact g7 (by simp[c0c,←e,Bool.and_assoc])
theorem a3Y (g:Gr) (s:Sta):a1e (l8 g s)= !G2 g s:=by
 unfold a1e G2;rw[List.not_any_eq_all_not]
 congr 1
 funext p
 by_cases h:p.length≤10
 ·simp[h]
 ·simp[h];omega
def b5H (g:Gr) (s:Sta) (l:List Ld):Int:=if w9 g s l=true then(if G2 g s=true then 3 else 0)else 2
theorem b2Z (g:Gr) (s:Sta) (l:List Ld) (hw0:g.Wires.length≤100000) (hf0:g.Feeds.length≤100000) (hl0:l.length≤100000):d5 Try.prog 16 [g.av,s.av,lL l] (I (b5H g s l)):=by
 have hfn:=b4R g s l hw0 hf0 hl0;unfold b5H;refine d5.of_body Try.func16 rfl (by decide) (by simp[Try.ntmps16]) ?_;simp only[Try.ntmps16,Try.results16];refine aS fun K hK=>?_;simp -dsimp;apply hK;clear hK K;refine d4 fun K1 hK1=>?_;refine aS fun K hK=>?_;simp -dsimp;refine d6 _ (hfn) (by simp) ?_;simp -dsimp;apply hK;clear hK K;refine d9 rfl (fun hc0=>?_) (fun hc0=>?_)
 ·refine aS fun K hK=>?_;simp -dsimp;apply hK;clear hK K;have hf:w9 g s l=false:=by simpa using hc0
  exact g7 (by simp[hf])
 ·have hf:w9 g s l=true:=by simpa using hc0
  have hnt:=z9 hf;have hbd:=r7 hnt.gr;have hpl:=L9 g s;have hsm:=a5d (l8 g s) (by omega);rw[a3Y]at hsm;refine f6 ?_;simp only[zT,reduceIte,Nat.reduceEqDiff];refine hK1 _ _ ?_;refine b8 [3,4] ?_;simp only[zP,Nat.reduceEqDiff,reduceIte];refine d4 fun K2 hK2=>?_;refine aS fun K hK=>?_;simp -dsimp;refine d6 _ (T2 g s hnt) (by simp) ?_;simp -dsimp;refine d6 _ (hsm) (by simp) ?_;simp -dsimp;apply hK;clear hK K;refine d9 rfl (fun hc1=>?_) (fun hc1=>?_)
  ·refine aS fun K hK=>?_;simp -dsimp;apply hK;clear hK K;have h:G2 g s=true:=by simpa using hc1
   exact g7 (by simp[hf,h])
  ·refine f6 ?_;simp only[zT,reduceIte,Nat.reduceEqDiff];refine hK2 _ _ ?_;refine b8 [] ?_;simp only[zP,Nat.reduceEqDiff,reduceIte];refine aS fun K hK=>?_;simp -dsimp;apply hK;clear hK K;have h:G2 g s=false:=by simpa using hc1
   exact g7 (by simp[hf,h])
def b7s (g:Gr) (s:Sta) (p:List Nat):Bool:= !((decide (5<p.length)&&decide (p.length≤10))||decide (5<(n8 g s (upN p)).length))
def b7X (g:Gr) (s:Sta):Bool:=(l8 g s).all (b7s g s)
theorem a9x (g:Gr) (s:Sta) (hnt:o8 g s):d5 Try.prog 17 [g.av,s.av] (Bo (b7X g s)):=by
 have hbd:=r7 hnt.gr;have hpl:=L9 g s;have hlen:∀p∈l8 g s,p.length≤40:=fun p hp=>by
  obtain⟨i,hi,rfl⟩:=C8 hp;unfold cp;have:=List.length_filter_le (fun k=>decide (nm (a2T g s) g.Nodes.toNat k=i)) (List.range g.Nodes.toNat);rw[List.length_range]at this;omega
 unfold b7X;have hps:=T2 g s hnt;generalize l8 g s=ps at hpl hlen hps ⊢;refine d5.of_body Try.func17 rfl (by decide) (by simp[Try.ntmps17]) ?_;simp only[Try.ntmps17,Try.results17];refine aS fun K hK=>?_;simp -dsimp;apply hK;clear hK K;refine aS fun K hK=>?_;simp -dsimp;refine d6 _ (hps) (by simp) ?_;simp -dsimp;apply hK;clear hK K;refine d4 fun K1 hK1=>?_;refine aS fun K hK=>?_;simp -dsimp;apply hK;clear hK K;refine e7 ?_;refine b8 [2,3,5,6] ?_;simp only[zP,Nat.reduceEqDiff,reduceIte];refine g9 [2,3,5] (α:=Nat) (fun k=>[(6,I k)]) (fun k=>[some (.els 4 [g.cells]),some (.els 2 [s.cells])]) (fun k=>k≤ps.length∧(ps.take k).all (b7s g s)=true) (fun k=>ps.length-k) 0 ?_ ?_ ?_
 ·exact⟨Nat.zero_le _,rfl⟩
 ·exact e8 [some 0,some 1] rfl (by simp) (by simp)
 rintro k ⟨k1,k2⟩;simp only[zP,Nat.reduceEqDiff,reduceIte];refine d4 fun K2 hK2=>?_;refine aS fun K hK=>?_;simp -dsimp;apply hK;clear hK K;refine d9 rfl (fun hc0=>?_) (fun hc0=>?_)
 ·have hkl:k<ps.length:=by simpa using hc0
  have wk:=zW k (by omega);obtain⟨p,hp⟩:∃p,ps[k]?=some p:=⟨_,List.getElem?_eq_getElem hkl⟩;have hul:=r9 p;have hp40:=hlen p (List.mem_of_getElem? hp);have hfd:=R5 g s (upN p) hnt.sf (by omega) (by omega);have hlt:b7s g s p= !((decide (5<((upN p).length:Int))&&decide (((upN p).length:Int)≤10))||decide (5<((n8 g s (upN p)).length:Int))):=by
   unfold b7s;rw[hul];have e1:decide (5<p.length)=decide ((5:Int)<(p.length:Int)):=decide_eq_decide.2 (by omega);have e2:decide (p.length≤10)=decide ((p.length:Int)≤10):=decide_eq_decide.2 (by omega);have e3:decide (5<(n8 g s (upN p)).length)=decide ((5:Int)<((n8 g s (upN p)).length:Int)):=decide_eq_decide.2 (by omega);rw[e1,e2,e3]
  refine f6 ?_;simp only[zT,reduceIte,Nat.reduceEqDiff];refine hK2 _ _ ?_;refine b8 [2,3,5,6] ?_;simp only[zP,Nat.reduceEqDiff,reduceIte];refine d4 fun K3 hK3=>?_;refine e7 ?_;refine v5 l6 rfl fun K hK=>?_;simp -dsimp [hp,pAV];refine j8 ([iL (upN p)]) (fun _=>by simp[hp,pAV]) ?_;simp -dsimp [hp,pAV];refine j8 ([iL (upN p)]) (fun _=>by simp[hp,pAV]) ?_;simp -dsimp [hp,pAV];refine f8 _ (fun hm=>hfd) (by simp) ?_;simp -dsimp [hp,pAV];refine hK _ _ _ (by decide+kernel) ?_;clear hK K;refine d9 rfl (fun hc1=>?_) (fun hc1=>?_)
  ·refine aS fun K hK=>?_;simp -dsimp;apply hK;clear hK K;have hf:b7s g s p=false:=by rw[hlt,hc1];rfl
   have hall:ps.all (b7s g s)=false:=by rw[List.all_eq_false];exact⟨p,List.mem_of_getElem? hp,by simp[hf]⟩
   exact g7 (by simp[hall])
  ·refine f6 ?_;simp only[zT,reduceIte,Nat.reduceEqDiff];refine hK3 _ _ ?_;refine b8 [2,3,5,6] ?_;simp only[zP,Nat.reduceEqDiff,reduceIte];refine aR fun K hK=>?_;simp -dsimp [wk];apply hK;clear hK K;simp only[zT,reduceIte,Nat.reduceEqDiff];have ht:b7s g s p=true:=by rw[hlt,hc1];rfl
   exact⟨k+1,⟨by omega,by rw[List.take_add_one,hp,List.all_append,k2];simp[ht]⟩,by omega,e8 [some 0,some 1] rfl (by simp) (by simp)⟩
 ·have hke:¬k<ps.length:=by simpa using hc0
  rw[List.take_of_length_le (by omega)]at k2;refine j9 ?_;simp only[zT,reduceIte,Nat.reduceEqDiff];refine hK1 _ _ ?_;refine b8 [] ?_;simp only[zP,Nat.reduceEqDiff,reduceIte];refine aS fun K hK=>?_;simp -dsimp;apply hK;clear hK K;exact g7 (by simp[k2])
theorem b7B (c:List Int) (hc:∀x∈c,x∈[(1:Int)]):y2 (exG 39) (q9 [true,false] c) exL:=by
 have e:q9 [true,false] c=[true,false]∨q9 [true,false] c=[true,true]:=by
  have gen:∀(c:List Int) (b:Bool),(∀x∈c,x∈[(1:Int)])→q9 [true,b] c=[true,false]∨q9 [true,b] c=[true,true]:=by
   intro c
   induction c with
   |nil=>intro b _;cases b<;>simp[q9]
   |cons x c ih=>
    intro b h;have hx:x=1:=by simpa using h x (by simp)
    have:=ih true fun y hy=>h y (by simp[hy]);unfold q9 at this ⊢;rw[List.foldl_cons,hx];exact this
  exact gen c false hc
 have ld:=a5m a0m.2.2.1;have h1:∀b,y2 (exG 39) [true,b] exL:=fun b=>⟨by decide+kernel,rfl,ld,by decide,b2z 39 b []⟩
 rcases e with e|e<;>rw[e]<;>exact h1 _
theorem c2E:∃vs fs,d5 Try.prog 27 [(exG 39).av,(exS false).av,lL exL] (.tup [.agg [fL vs,fL fs,bL [false,true],bL [true,false],bL [false],cL [⟨4,0,⟨40,1⟩⟩,⟨1,0,⟨0,1⟩⟩]],I 0]):=
 ⟨_,_,a2k (exG 39) (exS false) exL a0m.2.2.1 (a8f 39 false) (b7B [] (by simp)) (by simp[exS]) _ c2O⟩
theorem c3q:d5 Try.prog 35 [(exG 39).av,(exS false).av,lL exL] (.tup [iL [1],I 0]):=by
 refine R3 (exG 39) (exS false) exL (by decide) a0m.2.2.1 [1] c1H.symm exR (fun _ c hc hcl=>?_) _ (fun h=>by simp at h) (fun _ _=>by rw[b7l];rfl) (fun _ h=>by rw[b7l]at h;cases h);exact b7j (exG 39) (exS false) c exL (z9 a0m.2.2.1) (fun w hw=>by have:=hc w hw;simp at this;subst this;decide) (b7B c hc) (by omega)
abbrev exW:AV:= .lst 4 [[I 0,I 1,I 2,Bo false],[I 1,I 2,I 1,Bo true]]
abbrev c2a:List AV:=[.lst 1 [[Bo true],[Bo true]], .lst 1 [[Bo true],[Bo false]]]
abbrev exF (lim:Int):Option m5:=some (.els 4 [[I 0,I 600,I 2,I lim],[I 2,I 600,I 1,I 30]])
abbrev c2t:AV:= .lst 3 [[I 1,I 40,I 0]]
theorem b3J:g6 Try.prog 46 [] [] [] (.tup [.agg [I 3,exW, .row 0 0 2,I 500], .agg c2a,c2t]) [] [exF 100,some (.els 4 [[I 3,exW, .row 0 0 2,I 500]]),some (.els 2 [c2a])]:=by
 refine g6.of_bodyG [] Try.func46 rfl (by decide) (by simp[Try.ntmps46]) rfl rfl ?_;intro J hJ;simp only[Try.ntmps46,Try.results46];refine gS fun K hK=>?_;simp -dsimp;apply hK;clear hK K;refine S9 (by decide) ?_;refine gS fun K hK=>?_;simp -dsimp;apply hK;clear hK K;refine gS fun K hK=>?_;simp -dsimp;apply hK;clear hK K;refine o9 (m8 (B5 (T':=[(0, .ptr 0 0 0),(1, .ptr 1 0 0),(2,c2t)]) (H':=[some (.els 4 [[I 3,exW, .row 2 0 2,I 500]]),some (.els 2 [c2a]),exF 100]) [some 0,some 1,some 3] rfl ⟨.inr (by simp), .inr (by simp), .inr (by simp),trivial⟩ (by simp)) (by simp)) ?_;exact k7 ⟨[some 2,some 0,some 1],rfl,by simp,by simp,by simp,by simp[y8,n5]⟩
theorem b1I (g:Gr) (s:Sta) (l:List Ld) (hl:l.length≤1000) (hf:w9 g s l=true) (hlo:G2 g s=false) (hz:∀p∈l8 g s,p.length≤5) (ho:okS g s (tkK l (a9v l))=true) (vs fs:List Fr) (hvs:vlA g.Nodes.toNat (vfS g s (tkK l (a9v l)))=vs) (hfs:flA g s (vfS g s (tkK l (a9v l)))=fs):
  g6 Try.prog 18 [g.av,s.av,lL l] [] [] (.tup [.row 0 0 g.Nodes.toNat, .row 1 0 g.Feeds.length,I 0]) [] [some (.els 2 (vs.map Fr.cells)),some (.els 2 (fs.map Fr.cells))]:=by
 have h:=b6k g s l hl hf hlo (fun p hp=>by have:=hz p hp;omega) (vfS g s (tkK l (a9v l))) fun p hp=>by
  unfold okS at ho;rw[List.all_eq_true]at ho;exact⟨_,_,c1X (z9 hf) hp (Or.inl (hz p hp)) (a4E _ _) (b0X (a5m hf) _) (ho p hp)⟩
 rw[hvs,hfs]at h;exact h
theorem b1t:d5 Try.prog 15 [] (Bo true):=by
 have h1:=b1I (exG 100) (exS false) exL (by decide) a0m.1 (a8f _ _) (b2z 100 false _) c0a.1 _ _ c0a.2.1 c0a.2.2;obtain⟨fs2,hfs2⟩:∃fs2,flA (exG 100) (exS true) (vfS (exG 100) (exS true) (tkK exL (a9v exL)))=fs2:=⟨_,rfl⟩;have h2:=b1I (exG 100) (exS true) exL (by decide) a0m.2.1 (a8f _ _) (b2z 100 true _) c1I.1 _ _ c1I.2 hfs2;obtain⟨vs3,fs3,h3⟩:=c2E;have h4:=c3q;have g1:=(a0A [⟨580,1⟩,⟨560,1⟩,⟨600,1⟩] [⟨580,1⟩,⟨560,1⟩,⟨600,1⟩] (by simp)).wk (args:=[fL [⟨580,1⟩,⟨560,1⟩,⟨600,1⟩], .full 2 [[I 580,I 1],[I 560,I 1],[I 600,I 1]]]) (by rfl);have g2:=(a0A [⟨40,1⟩,⟨0,1⟩] [⟨40,1⟩,⟨0,1⟩] (by simp)).wk (args:=[fL [⟨40,1⟩,⟨0,1⟩], .full 2 [[I 40,I 1],[I 0,I 1]]]) (by rfl);have g3:=(a0A [⟨1760,3⟩,⟨1720,3⟩,⟨1760,3⟩] [⟨1760,3⟩,⟨1720,3⟩,⟨1760,3⟩] (by simp)).wk (args:=[fL [⟨1760,3⟩,⟨1720,3⟩,⟨1760,3⟩], .full 2 [[I 1760,I 3],[I 1720,I 3],[I 1760,I 3]]]) (by rfl);have g4:=(a9Z [1] [1] (by simp)).wk (args:=[iL [1], .full 1 [[I 1]]]) (by rfl);have hm:=b3J;simp only[exG,exS,exL,Gr.av,Sta.av,Gr.cells,Sta.cells,List.map_cons,List.map_nil,Wr.cells,Fd.cells,Ld.cells,Fr.cells,i8,Cu.cells,i9]at h1 h2 h3 h4 g1 g2 g3 g4;refine d5.of_bodyG Try.func15 rfl (by decide) (by simp[Try.ntmps15]) ?_;intro J hJ;simp only[Try.ntmps15,Try.results15];refine gS fun K hK=>?_;simp -dsimp;apply hK;clear hK K;refine gS fun K hK=>?_;simp -dsimp;refine k8 [] [] [some 0,some 1,some 2] (hm) (by decide) rfl (by simp) (by simp) rfl (by simp) ?_;simp -dsimp;apply hK;clear hK K;refine Z8 [4,5,6] [1,2,3] [(1, .iptr [I 3,exW, .lst 4 [[I 0,I 600,I 2,I 100],[I 2,I 600,I 1,I 30]],I 500]),(2, .iptr c2a),(3,c2t)] (⟨.inr (by simp), .inr (by simp), .inr (by simp),trivial⟩) (by decide) (fun T' H'=>Go.AM.m6 T' 4= .row 0 0 3∧Go.AM.m6 T' 5= .row 1 0 2∧Go.AM.m6 T' 6=I 0∧H'=[some (.els 2 [[I 580,I 1],[I 560,I 1],[I 600,I 1]]),some (.els 2 [[I 40,I 1],[I 0,I 1]])]) ?_ ?_
 ·intro J1 hJ1;refine gR fun K hK=>?_;simp -dsimp;refine k8 [] [] [some 0,some 1] (h1) (by decide) rfl (by simp) (by simp) rfl (by simp) ?_;simp -dsimp;apply hK;clear hK K;exact⟨rfl,rfl,by simp⟩
 ·intro T' H' hR;obtain⟨hR,hR5,hR6,rfl⟩:=hR;refine⟨by simp,?_⟩;simp only[List.map_cons,List.map_nil,List.cons_append,List.nil_append,List.length_cons,List.length_nil,Nat.reduceAdd,Nat.zero_add,Option.map_some,b6G,a3A,Go.AM.m6,Nat.reduceEqDiff,reduceIte,hR,hR5,hR6];refine S9 (by decide) ?_;refine gS fun K hK=>?_;simp -dsimp;apply hK;clear hK K;refine Z8 [8,10] [1,2,3,4,5,6] [(1, .iptr [I 3,exW, .lst 4 [[I 0,I 600,I 2,I 100],[I 2,I 600,I 1,I 30]],I 500]),(7, .iptr [.lst 1 [[Bo true],[Bo true]], .lst 1 [[Bo true],[Bo true]]]),(3,c2t)] (⟨.inr (by simp), .inr (by simp), .inr (by simp),trivial⟩) (by decide) (fun T' H'=>Go.AM.m6 T' 8= .row 0 0 3∧Go.AM.m6 T' 10=I 0∧H'=[some (.els 2 [[I 1760,I 3],[I 1720,I 3],[I 1760,I 3]]),some (.els 2 (fs2.map Fr.cells))]) ?_ ?_
  ·intro J1 hJ1;refine gR fun K hK=>?_;simp -dsimp;refine k8 [] [] [some 0,some 1] (h2) (by decide) rfl (by simp) (by simp) rfl (by simp) ?_;simp -dsimp;apply hK;clear hK K;exact⟨rfl,rfl,by simp⟩
  ·intro T' H' hR;obtain⟨hR,hR5,rfl⟩:=hR;refine⟨by simp,?_⟩;simp only[List.map_cons,List.map_nil,List.cons_append,List.nil_append,List.length_cons,List.length_nil,Nat.reduceAdd,Nat.zero_add,Option.map_some,b6G,a3A,Go.AM.m6,Nat.reduceEqDiff,reduceIte,hR,hR5];refine gS fun K hK=>?_;simp -dsimp;apply hK;clear hK K;refine o9 (m8 (B5 (T':=[(1, .ptr 0 0 0),(2, .ptr 1 0 0),(3,c2t),(4,fL [⟨580,1⟩,⟨560,1⟩,⟨600,1⟩]),(5,fL [⟨40,1⟩,⟨0,1⟩]),(6,I 0),(8,fL [⟨1760,3⟩,⟨1720,3⟩,⟨1760,3⟩]),(10,I 0)]) (H':=[some (.els 4 [[I 3,exW, .lst 4 [[I 0,I 600,I 2,I 39],[I 2,I 600,I 1,I 30]],I 500]]),some (.els 2 [c2a])]) [some 3,some 4] rfl ⟨.inr (by simp), .inr (by simp), .inr (by simp), .inr (by simp), .inr (by simp), .inr (by simp), .inr (by simp), .inr (by simp),trivial⟩ (by simp)) (by simp)) ?_
   ·refine gS fun K hK=>?_;simp -dsimp;refine d6 _ (h3) (by simp) ?_;simp -dsimp;apply hK;clear hK K;refine gS fun K hK=>?_;simp -dsimp;refine d6 _ (h4) (by simp) ?_;simp -dsimp;apply hK;clear hK K;refine b9 fun K1 hK1=>?_;refine gS fun K hK=>?_;simp -dsimp;apply hK;clear hK K;refine d8 rfl (fun hc0=>?_) (fun hc0=>?_)
    ·simp at hc0
    ·refine e9 ?_;simp only[zT,reduceIte,Nat.reduceEqDiff];refine hK1 _ _ ?_;refine b7 [4,5,8,11,13] (Or.inr (by simp)) ?_;simp only[zP,Nat.reduceEqDiff,reduceIte];refine gS fun K hK=>?_;simp -dsimp;refine d6 _ (g1) (by simp) ?_;simp -dsimp;refine f8 _ (fun hm=>g2) (by simp) ?_;simp -dsimp;refine f8 _ (fun hm=>g3) (by simp) ?_;simp -dsimp;refine j8 ([I 4,I 0,I 40,I 1]) (fun _=>rfl) ?_;simp -dsimp;refine j8 ([I 1,I 0,I 0,I 1]) (fun _=>rfl) ?_;simp -dsimp;refine f8 _ (fun hm=>g4) (by simp) ?_;simp -dsimp;apply hK;clear hK K;exact k7 (by simp[y8,n5])
end Go.Cur
end
section
namespace Go.Cur
open Go.AM Go.Proofs
theorem a4S {g:Gr} {s:Sta} {n:Nat} (h:c0c g s n=true):g.Wires.length≤100∧g.Feeds.length≤20∧s.Feeds.length≤20∧s.Wires.length≤100∧n≤50∧(g.Nodes≤12∨40<g.Nodes):=by
 simpa [c0c]using h
theorem c0V {g:Gr} {s:Sta} {n:Nat} (h:c0c g s n=true) (hg:grB g=true):V4 g s:=fun p hp=>by
 have h1:=a4S h;have h2:=r7 hg;obtain⟨i,hi,rfl⟩:=C8 hp;unfold cp;have:=List.length_filter_le (fun k=>decide (nm (a2T g s) g.Nodes.toNat k=i)) (List.range g.Nodes.toNat);rw[List.length_range]at this;omega
end Go.Cur
end
section
namespace Go.Cur
open Go.AM Go.Proofs
theorem c0k {m d:Int} (hd:0<d):red (m*d) d=⟨m,1⟩:=by
 unfold red;have e:Int.gcd (m*d) d=d.natAbs:=by
  rw[Int.gcd_eq_natAbs_gcd_natAbs,Int.natAbs_mul];exact Nat.gcd_mul_left_left _ _
 rw[e,Int.natAbs_of_nonneg (Int.le_of_lt hd),Int.mul_ediv_cancel _ (by omega),Int.ediv_self (by omega)]
end Go.Cur
end
section
namespace Go.Cur
open Go.AM Go.Proofs
theorem b3o {l:List Ld} {sv:List Bool} {q:Ld→Bool} {n:Nat} (h:∀i,i<n→bAt sv i=true→q (ldA l i)=false):leL l sv q n<0:=by
 refine Int.not_le.1 fun h0=>?_;obtain⟨h1,h2⟩:=a1Z h0;have h3:=O4 l sv q n;rw[h _ (by omega) h1]at h2
 cases h2
def srv (l:List Ld) (sv:List Bool):List Ld:=(l.zip sv).filterMap fun p=>if p.2=true then some p.1 else none
theorem b9m {l:List Ld} {sv:List Bool} {y:Ld}:y∈srv l sv↔∃i:Nat,l[i]?=some y∧sv[i]?=some true:=by
 unfold srv;rw[List.mem_filterMap];constructor
 ·rintro⟨q,hq,h⟩
  split at h
  ·rename_i hs;obtain⟨i,hi⟩:=List.getElem?_of_mem hq;rw[List.getElem?_zip_eq_some]at hi;simp only[Option.some.injEq]at h;exact⟨i,by rw[hi.1,h],by rw[hi.2,hs]⟩
  ·cases h
 ·rintro⟨i,h1,h2⟩;exact⟨(y,true),List.mem_of_getElem? (List.getElem?_zip_eq_some.2 ⟨h1,h2⟩),rfl⟩
theorem b2p (x:Int):∀(l:List Ld) (sv:List Bool) (c:Int),(l.zip sv).foldl (b1o x) c=((srv l sv).zip (List.replicate (srv l sv).length true)).foldl (b1o x) c
 |[],_,c=>by simp[srv]
 |y::l,[],c=>by simp[srv]
 | y::l,b::sv,c=>by
  have ih:=b2p x l sv
  cases b with
  |false=>
   have e:srv (y::l) (false::sv)=srv l sv:=by simp[srv]
   rw[e,←ih,List.zip_cons_cons,List.foldl_cons]
   congr 1
  |true=>
   have e:srv (y::l) (true::sv)=y::srv l sv:=by simp[srv]
   rw[e,List.length_cons,List.replicate_succ,List.zip_cons_cons,List.zip_cons_cons,List.foldl_cons,List.foldl_cons,ih]
theorem b9H (l:List Ld) (sv:List Bool) (x:Int):igt (tkK (srv l sv) (a9v (srv l sv))) x=igt (tkK l sv) x:=by
 rw[a2G,a2G];exact(b2p x l sv 0).symm
section
variable {g:Gr} {s:Sta} {p:List Nat} {us us':Kvs}
theorem b0K (h:∀x,igt us x=igt us' x):H8 g s us p=H8 g s us' p:=by
 have e1:B3 us p=B3 us' p:=by
  unfold B3;have:(fun x:Nat=>igt us x)=fun x:Nat=>igt us' x:=funext fun x=>h x;exact congrArg (fun f=>sm f p) this
 have e2:T6 us p=T6 us' p:=by
  unfold T6;have:(fun x:Nat=>igt us x==0)=fun x:Nat=>igt us' x==0:=funext fun x=>by rw[h]
  rw[this]
 have e3:ptO g s us p=ptO g s us' p:=by
  unfold ptO Pt;have:(fun x:Nat=>igt us x)=fun x:Nat=>igt us' x:=funext fun x=>h x;rw[this]
 unfold H8;rw[e1,e2,e3]
theorem b1N (h:∀x,igt us x=igt us' x):vfS g s us=vfS g s us':=by
 funext k
 unfold vfS;rw[b0K h]
theorem a0n (hnt:o8 g s) (hp:p∈l8 g s) (h5:p.length≤5) (hus:∀x,-40≤igt us x∧igt us x≤40) (hok:(H8 g s us p).2.2=true):
  0<(H8 g s us p).2.1∧(H8 g s us p).2.1≤2000000000∧∀x∈(H8 g s us p).1,x.natAbs≤7000000000000:=by
 unfold H8 at hok ⊢
 by_cases h:n8 g s (upN p)=[]
 ·rw[if_pos h];refine⟨show(0:Int)<1 by decide,show(1:Int)≤2000000000 by decide,fun x hx=>?_⟩;have:x=0:=(List.mem_replicate.1 hx).2;omega
 ·rw [if_neg h]at hok ⊢
  by_cases h1:B3 us p<0
  ·rw[if_pos h1]at hok;cases hok
  ·rw [if_neg h1]at hok ⊢
   by_cases h2:B3 us p=0
   ·rw[if_pos h2];obtain⟨z1,z2,z3⟩:=b0B (us:=us) hnt hp h5 rfl hus (p.getD 0 0) rfl;change ∀k,((ptO g s us p).num0 (p.getD 0 0) k).natAbs≤_ at z1;change 0<(ptO g s us p).den0 (p.getD 0 0)at z2;change (ptO g s us p).den0 (p.getD 0 0)≤_ at z3;refine⟨z2,by simp only;omega,fun x hx=>?_⟩;obtain⟨k,_,rfl⟩:=List.mem_map.1 hx;have key:∀b,b<(n8 g s (upN p)).length→ -20000000000≤(ptO g s us p).V b*(ptO g s us p).den0 (p.getD 0 0)-(ptO g s us p).num0 (p.getD 0 0) ((ptO g s us p).p b)∧(ptO g s us p).V b*(ptO g s us p).den0 (p.getD 0 0)-(ptO g s us p).num0 (p.getD 0 0) ((ptO g s us p).p b)≤20000000000:=by
     intro b hb;have hf:=H6 hnt rfl hb;have h3:=z1 ((ptO g s us p).p b);have h4:0≤(ptO g s us p).V b∧(ptO g s us p).V b≤1000:=by
      show 0≤(fdI g _).Volts∧(fdI g _).Volts≤1000;omega
     have h5:=Int.mul_nonneg h4.1 (Int.le_of_lt z2);have h6:=Int.mul_le_mul h4.2 z3 (Int.le_of_lt z2) (by omega);omega
    have hpos:0<(n8 g s (upN p)).length:=List.length_pos_iff.2 h;have h3:=P8 (B:=20000000000) ((List.range (n8 g s (upN p)).length).map fun b=>(ptO g s us p).V b*(ptO g s us p).den0 (p.getD 0 0)-(ptO g s us p).num0 (p.getD 0 0) ((ptO g s us p).p b)) _ (key 0 hpos) fun x hx=>by
     obtain⟨b,hb,rfl⟩:=List.mem_map.1 hx;exact key b (List.mem_range.1 hb)
    have h4:=z1 k;omega
   ·rw[if_neg h2];obtain⟨k1,k2,k3,k4⟩:=a1G (P:=ptO g s us p) (a4J hnt hp rfl) (m:=(n8 g s (upN p)).length) rfl (by intro e;exact h (List.length_eq_zero_iff.1 e)) (by rw[a2O];omega);obtain⟨z1,z2,z3⟩:=a2F (us:=us) hnt hp h5 rfl hus _ (a3e k1 k2);refine⟨z2,z3,fun x hx=>?_⟩;obtain⟨k,_,rfl⟩:=List.mem_map.1 hx;exact z1 k
end
end Go.Cur
end
section
namespace Go.Cur
open Go.AM Go.Proofs
theorem a2W {n d k:Int} (hk:0<k):red (n*k) (d*k)=red n d:=by
 unfold red;have e:((Int.gcd (n*k) (d*k):Nat):Int)=(Int.gcd n d:Int)*k:=by
  rw[Int.gcd_mul_right,Int.natCast_mul,Int.natAbs_of_nonneg (Int.le_of_lt hk)]
 rw[e,Int.mul_ediv_mul_of_pos_left _ _ hk,Int.mul_ediv_mul_of_pos_left _ _ hk]
theorem c1N {a d b e:Int} (hd:0<d) (he:0<e) (h:a*e=b*d):red a d=red b e:=by
 rw[←a2W he,h,Int.mul_comm d e,a2W hd]
theorem b6X {d:Int} (hd:0<d):red 0 d=⟨0,1⟩:=by
 have:=c0k (m:=0) hd
 rwa [Int.zero_mul]at this
section
variable {g:Gr} {s:Sta} {us:Kvs} {p:List Nat}
theorem b7b:(pvR g s us p).2.2=(H8 g s us p).2.2:=by
 unfold pvR H8
 split
 ·rfl
 ·split
  ·rfl
  ·split<;>rfl
theorem c1R (hnt:o8 g s) (hp:p∈l8 g s) (h5:p.length≤5) (hus:∀x,-40≤igt us x∧igt us x≤40) (hok:(H8 g s us p).2.2=true):
  (pvR g s us p).1.length=p.length∧0<(pvR g s us p).2.1∧(pvR g s us p).2.1≤2000000000∧(∀x∈(pvR g s us p).1,x.natAbs≤7000000000000)∧∀i,i<p.length→red (at0 (pvR g s us p).1 (i:Nat)) (pvR g s us p).2.1=red (at0 (H8 g s us p).1 (i:Nat)) (H8 g s us p).2.1:=by
 by_cases h:n8 g s (upN p)=[]
 ·have e:pvR g s us p=H8 g s us p:=by unfold pvR H8;rw[if_pos h,if_pos h]
  obtain⟨t1,t2,t3⟩:=a0n hnt hp h5 hus hok;rw[e];refine⟨?_,t1,t2,t3,fun i _=>rfl⟩;unfold H8;rw[if_pos h];simp[a0Y]
 ·by_cases h1:B3 us p<0
  ·unfold H8 at hok;rw[if_neg h,if_pos h1]at hok;cases hok
  ·by_cases h2:B3 us p=0
   ·have e:pvR g s us p=H8 g s us p:=by unfold pvR H8;rw[if_neg h,if_neg h,if_neg h1,if_neg h1,if_pos h2,if_pos h2]
    obtain⟨t1,t2,t3⟩:=a0n hnt hp h5 hus hok;rw[e];refine⟨?_,t1,t2,t3,fun i _=>rfl⟩;unfold H8;rw[if_neg h,if_neg h1,if_pos h2];simp
   ·have hsum:0<sm (ptO g s us p).u (ptO g s us p).ns:=by rw[a2O];omega
    have hm:(n8 g s (upN p)).length≠0:=by intro e;exact h (List.length_eq_zero_iff.1 e)
    have ho:(ptO g s us p).Ok:=a4J hnt hp rfl;obtain⟨k1,k2,k3,k4⟩:=a5C (P:=ptO g s us p) ho (m:=(n8 g s (upN p)).length) rfl hm hsum;obtain⟨d1,d2,hs⟩:=b1H (P:=ptO g s us p) ho (m:=(n8 g s (upN p)).length) rfl hm hsum;obtain⟨z1,z2,z3⟩:=a2F (us:=us) hnt hp h5 rfl hus _ (a3e k1 k2);have e1:pvR g s us p=(p.map fun k=>(ptO g s us p).num (u5 (a0c (ptO g s us p) (n8 g s (upN p)).length)) k,(ptO g s us p).den (u5 (a0c (ptO g s us p) (n8 g s (upN p)).length)),true):=by
     unfold pvR;rw[if_neg h,if_neg h1,if_neg h2]
    have e2:H8 g s us p=(p.map fun k=>(ptO g s us p).num (u5 (X4 (ptO g s us p) (n8 g s (upN p)).length)) k,(ptO g s us p).den (u5 (X4 (ptO g s us p) (n8 g s (upN p)).length)),true):=by
     unfold H8;rw[if_neg h,if_neg h1,if_neg h2]
    rw[e1,e2];refine⟨by simp,z2,z3,fun x hx=>?_,fun i hi=>?_⟩
    ·obtain⟨k,_,rfl⟩:=List.mem_map.1 hx;exact z1 k
    ·have g1:∀f:Nat→Int,at0 (p.map f) (i:Nat)=f (p.getD i 0):=fun f=>a7k (by rw[List.getElem?_map,F4 hi];rfl);simp only[g1];exact c1N d1 d2 (hs _ (a1N hi))
end
theorem ffR {g:Gr} {s:Sta} {vf:Nat→Fr} {f:Nat} {x d:Int} (hd:0<d) (hv:vf (fdI g (f:Int)).At.toNat=red x d) (hs:0<(fdI g (f:Int)).Siem) (hon:bAt s.Feeds f=true):
  red (if 0<(fdI g (f:Int)).Siem*((fdI g (f:Int)).Volts*d-x)then(fdI g (f:Int)).Siem*((fdI g (f:Int)).Volts*d-x)else 0) d=ffF g s vf f:=by
 unfold ffF;simp only[hv];obtain⟨a,b,G,hG,e,ha,hb⟩:=a7Y (n:=x) hd;have er:red x d=⟨a,b⟩:=by
  unfold red;rw[e];have e1:x/G=a:=by rw[ha];exact Int.mul_ediv_cancel_left _ (by omega)
  have e2:d/G=b:=by rw[hb];exact Int.mul_ediv_cancel_left _ (by omega)
  rw[e1,e2]
 have hdd:(fdI g (f:Int)).Siem*((fdI g (f:Int)).Volts*d-x)=(fdI g (f:Int)).Siem*((fdI g (f:Int)).Volts*b-a)*G:=by
  rw[ha,hb,Int.mul_assoc]
  congr 1
  rw[Int.sub_mul,Int.mul_assoc,Int.mul_comm b G,Int.mul_comm a G]
 rw[er,hdd];simp only;generalize (fdI g (f:Int)).Volts*b-a=D;generalize (fdI g (f:Int)).Siem=S at hs
 by_cases h:0<D
 ·have h1:0<S*D:=Int.mul_pos hs h;have h2:0<S*D*G:=Int.mul_pos h1 hG;rw[if_pos h2,if_pos ⟨hon,h⟩,hb,Int.mul_comm G b,a2W hG]
 ·have h1:S*D≤0:=Int.mul_nonpos_of_nonneg_of_nonpos (Int.le_of_lt hs) (by omega);have h2:S*D*G≤0:=Int.mul_nonpos_of_nonpos_of_nonneg h1 (Int.le_of_lt hG);rw[if_neg (by omega),if_neg (fun h3=>h h3.2),b6X hd]
def flR (g:Gr) (s:Sta) (vf:Nat→Fr) (done:List Nat) (fs:List Int):List Fr:=(List.range g.Feeds.length).map fun(f:Nat)=>if (fdI g (f:Int)).At.toNat∈done∨(f:Int)∈fs then ffF g s vf f else⟨0,1⟩
section
variable {g:Gr} {s:Sta} {vf:Nat→Fr} {done:List Nat} {fs:List Int}
theorem a4T:(flR g s vf done fs).length=g.Feeds.length:=by simp[flR]
theorem a8k {i:Nat} (h:i<g.Feeds.length):(flR g s vf done fs)[i]?=some (if (fdI g (i:Int)).At.toNat∈done∨(i:Int)∈fs then ffF g s vf i else⟨0,1⟩):=by
 unfold flR;rw[List.getElem?_map,List.getElem?_range h];rfl
theorem c0b {k:Nat}:(flR g s vf done fs).set k (ffF g s vf k)=flR g s vf done (fs++[(k:Int)]):=by
 refine List.ext_getElem? fun i=>?_
 by_cases hi:i<g.Feeds.length
 ·rw [a8k hi]
  by_cases h:i=k
  ·subst h;rw[List.getElem?_set_self (by rw[a4T];exact hi),if_pos (Or.inr (by simp))]
  ·rw[List.getElem?_set_ne (fun e=>h e.symm),a8k hi];have:((i:Int)∈fs++[(k:Int)])↔(i:Int)∈fs:=by
    rw[List.mem_append,List.mem_singleton];constructor
    ·rintro(h1|h1)
     ·exact h1
     ·omega
    ·exact Or.inl
   simp only[this]
 ·rw[List.getElem?_eq_none (by rw[List.length_set,a4T];omega),List.getElem?_eq_none (by rw[a4T];omega)]
theorem b9f {i:Nat} (h:bAt s.Feeds i=false):ffF g s vf i=⟨0,1⟩:=by
 unfold ffF;simp only;rw[if_neg (by simp[h])]
theorem b5L (hnt:o8 g s) {p:List Nat}:flR g s vf done (n8 g s (upN p))=flR g s vf (done++p) []:=by
 unfold flR;refine List.map_congr_left fun i hi=>?_;rw[List.mem_range]at hi;have hg:g.Feeds[i]?=some (fdI g (i:Int)):=by have:=M7 (g:=g) (i:=(i:Int)) (by omega) (by omega);rwa [Int.toNat_natCast]at this
 have hb:=hnt.feeds _ (List.mem_of_getElem? hg);have hm:(i:Int)∈n8 g s (upN p)↔bAt s.Feeds i=true∧(fdI g (i:Int)).At.toNat∈p:=by
  unfold n8;rw[List.mem_filter,a5D];unfold a1K;rw[Int.toNat_natCast,Bool.and_eq_true,decide_eq_true_eq,W4];constructor
  ·rintro⟨_,h1,_,h2⟩;exact⟨h1,h2⟩
  ·rintro⟨h1,h2⟩;exact⟨⟨by omega,by omega⟩,h1,hb.1,h2⟩
 by_cases h1:(fdI g (i:Int)).At.toNat∈done
 ·rw[if_pos (Or.inl h1),if_pos (Or.inl (List.mem_append_left _ h1))]
 ·by_cases h2:(fdI g (i:Int)).At.toNat∈p
  ·rw[if_pos (Or.inl (List.mem_append_right _ h2))]
   cases h3:bAt s.Feeds i with
   |true=>rw[if_pos (Or.inr (hm.2 ⟨h3,h2⟩))]
   |false=>rw[b9f h3];split<;>rfl
  ·rw[if_neg (by rw[hm];rintro(h|h);exact h1 h;exact h2 h.2),if_neg (by rintro(h|h);exact(List.mem_append.1 h).elim h1 h2;simp at h)]
theorem b9T (h:∀i,i<g.Feeds.length→(fdI g (i:Int)).At.toNat∈done):flR g s vf done []=flA g s vf:=by
 unfold flR flA;exact List.map_congr_left fun i hi=>if_pos (Or.inl (h i (List.mem_range.1 hi)))
end
def fl0 (m i:Nat):List Fr:=(List.range m).map fun j=>if j<i then⟨0,1⟩else⟨0,0⟩
theorem a3d (m i:Nat):(fl0 m i).length=m:=by simp[fl0]
theorem a4K {m i j:Nat} (h:j<m):(fl0 m i)[j]?=some (if j<i then⟨0,1⟩else⟨0,0⟩):=by
 unfold fl0;rw[List.getElem?_map,List.getElem?_range h];rfl
theorem b8y {m k:Nat}:(fl0 m k).set k ⟨0,1⟩=fl0 m (k+1):=by
 refine List.ext_getElem? fun i=>?_
 by_cases hi:i<m
 ·rw[a4K hi]
  by_cases h:k=i
  ·subst h;rw[List.getElem?_set_self (by rw[a3d];exact hi),if_pos (by omega)]
  ·rw[List.getElem?_set_ne h,a4K hi]
   by_cases h2:i<k
   ·rw[if_pos h2,if_pos (by omega)]
   ·rw[if_neg h2,if_neg (by omega)]
 ·rw[List.getElem?_eq_none (by rw[List.length_set,a3d];omega),List.getElem?_eq_none (by rw[a3d];omega)]
theorem b6W (m:Nat):fl0 m 0=List.replicate m ⟨0,0⟩:=by
 refine List.ext_getElem? fun i=>?_
 by_cases hi:i<m
 ·rw[a4K hi,if_neg (by omega),List.getElem?_replicate,if_pos hi]
 ·rw[List.getElem?_eq_none (by rw[a3d];omega),List.getElem?_eq_none (by simp;omega)]
theorem c0e {g:Gr} {s:Sta} {vf:Nat→Fr}:fl0 g.Feeds.length g.Feeds.length=flR g s vf [] []:=by
 unfold fl0 flR;refine List.map_congr_left fun i hi=>?_;rw[if_pos (List.mem_range.1 hi),if_neg (by simp)]
theorem c2I (g:Gr) (s:Sta) (p:List Nat) (us:Kvs) (cu:List Int) (hnt:o8 g s) (hp:p∈l8 g s) (h5:p.length≤5) (hus:∀x,-40≤igt us x∧igt us x≤40) (hcu:∀k∈p,cu[k]?=some (igt us k)):
  d5 Try.prog 51 [g.av,s.av,iL (upN p),iL cu] (.tup [iL (pvR g s us p).1,I (pvR g s us p).2.1,Bo (pvR g s us p).2.2]):=by
 refine b6s g s p us (n8 g s (upN p)) cu rfl hnt hp h5 hus hcu _ _ _ ?_ ?_ ?_ ?_
 ·intro h;unfold pvR;rw[if_pos h];exact⟨rfl,rfl,rfl⟩
 ·intro h h1;unfold pvR;rw[if_neg h,if_pos h1];exact⟨rfl,rfl,rfl⟩
 ·intro h h1;have hr:=b6A g s p us (n8 g s (upN p)) cu rfl hnt (a4u hnt hp (by omega)) hus hcu h (p.getD 0 0) rfl (a2o hnt hp (Or.inl h5) rfl hus _ rfl) _ _ rfl rfl;unfold pvR;rw[if_neg h,if_neg (by omega),if_pos h1];exact⟨hr,rfl⟩
 ·intro h h1;obtain⟨k1,k2,k3,k4⟩:=a5C (P:=ptO g s us p) (a4J hnt hp rfl) (m:=(n8 g s (upN p)).length) rfl (by intro e;exact h (List.length_eq_zero_iff.1 e)) (by rw[a2O];exact h1);unfold pvR;rw[if_neg h,if_neg (by omega),if_neg (by omega)];exact⟨rfl,_,k1,k2,k3,k4,rfl,rfl⟩
theorem a9u (g:Gr) (s:Sta) (l:List Ld) (sv:List Bool) (hnt:o8 g s) (hl:l.length≤1000) (hsl:sv.length=l.length) (ld:c2d g l) (h5:∀p∈l8 g s,p.length≤5):
  d5 Try.prog 19 [g.av,s.av,lL l,bL sv] (if okS g s (tkK l sv)=true then .tup [fL (vlA g.Nodes.toNat (vfS g s (tkK l sv))),fL (flA g s (vfS g s (tkK l sv))),Bo true]else .tup [.v (.slice none 0 0), .v (.slice none 0 0),Bo false]):=by
 have hbd:=r7 hnt.gr;have hus:=b0X ld sv;obtain⟨N,hnn⟩:∃N:Nat,g.Nodes.toNat=N:=⟨g.Nodes.toNat,rfl⟩;have hn0:0≤g.Nodes:=by omega
 have hnN:g.Nodes=(N:Int):=by omega
 rw[hnn];have hcr:=a3q g l sv N hnN (by omega) hl hsl (fun y hy=>by have:=ld.at_ y hy;omega);have hcv:=fun p (hp:p∈l8 g s)=>c2I g s p (tkK l sv) (a1S N l sv) hnt hp (h5 p hp) hus (fun k hk=>by rw[a1I (by have:=Z3 hp hk;omega),a2G]);have hcov:=fun k=>G0 (k:=k) hnt;have hlt:=fun p (hp:p∈l8 g s) k (hk:k∈p)=>Z3 hp hk;rw[hnn]at hcov hlt;have hpo:=fun p (hp:p∈l8 g s)=>c1R (us:=tkK l sv) hnt hp (h5 p hp) hus;have hfl:∀p,(pvR g s (tkK l sv) p).2.2=(H8 g s (tkK l sv) p).2.2:=fun p=>b7b;have hvf:∀p∈l8 g s,(H8 g s (tkK l sv) p).2.2=true→∀i k,p[i]?=some k→vfS g s (tkK l sv) k=red (at0 (pvR g s (tkK l sv) p).1 (i:Nat)) (pvR g s (tkK l sv) p).2.1:=fun p hp hok i k hk=>by
  obtain⟨hi,e⟩:=List.getElem?_eq_some_iff.1 hk;rw[(hpo p hp hok).2.2.2.2 i hi];have hnd:p.Nodup:=by obtain⟨_,_,e⟩:=C8 hp;rw[e];exact I4
  have hix:p.idxOf k=i:=by rw[←e];exact List.Nodup.idxOf_getElem hnd i hi
  unfold vfS;rw[←G1 hp (List.mem_of_getElem? hk),hix]
 have hpl:=L9 g s;have hrp:=T2 g s hnt;have hokS:okS g s (tkK l sv)=(l8 g s).all fun p=>(pvR g s (tkK l sv) p).2.2:=by unfold okS;congr 1;funext p;exact(hfl p).symm
 rw[hokS];generalize vfS g s (tkK l sv)=vf at hvf ⊢;generalize tkK l sv=us at hcv hpo hfl hvf ⊢;generalize a1S N l sv=cu at hcr hcv;have hps:∀p∈l8 g s,p∈l8 g s:=fun _ h=>h;obtain⟨L,hL⟩:∃L,L=l8 g s:=⟨_,rfl⟩;rw[←hL]at hcv hcov hlt hpo hvf hpl hrp ⊢;have f0:C7 N 17:=k9 (by omega) (by omega);have f1:C7 g.Feeds.length 17:=k9 (by omega) (by omega);refine d5.of_body Try.func19 rfl (by decide) (by simp[Try.ntmps19]) ?_;simp only[Try.ntmps19,Try.results19];refine aS fun K hK=>?_;simp -dsimp;apply hK;clear hK K;refine v5 l6 rfl fun K hK=>?_;simp -dsimp [hn0,hnn,f0,f1];refine hK _ _ _ (by decide+kernel) ?_;clear hK K;refine d4 fun K1 hK1=>?_;refine aS fun K hK=>?_;simp -dsimp;apply hK;clear hK K;refine e7 ?_;refine b8 [2,3,4,5,11,12,13] ?_;simp only[zP,Nat.reduceEqDiff,reduceIte];refine g9 [2,3,4,5,11,12] (α:=Nat) (fun i=>[(13,I i)]) (fun i=>[some (.els 4 [g.cells]),some (.els 2 [s.cells]),some (.els 2 ((vlF N vf []).map Fr.cells)),some (.els 2 ((fl0 g.Feeds.length i).map Fr.cells))]) (fun i=>i≤g.Feeds.length) (fun i=>g.Feeds.length-i) 0 ?_ ?_ ?_
 ·exact Nat.zero_le _
 ·exact e8 [some 0,some 1,some 2,some 3] rfl (by simp) (by simp[b3E,b6W])
 rintro i i1;simp only[zP,Nat.reduceEqDiff,reduceIte];refine d4 fun K2 hK2=>?_;refine aS fun K hK=>?_;simp -dsimp;apply hK;clear hK K;refine d9 rfl (fun hc0=>?_) (fun hc0=>?_)
 ·have hil:i<g.Feeds.length:=by simpa using hc0
  have wi:=zW i (by omega);have hst:=b8y (m:=g.Feeds.length) (k:=i);have gfl:=a4K (i:=i) hil;have hfll:=a3d g.Feeds.length i;generalize fl0 g.Feeds.length i=FL at hst gfl hfll ⊢;refine f6 ?_;simp only[zT,reduceIte,Nat.reduceEqDiff];refine hK2 _ _ ?_;refine b8 [2,3,4,5,11,12,13] ?_;simp only[zP,Nat.reduceEqDiff,reduceIte];refine d4 fun K3 hK3=>?_;refine e7 ?_;refine aR fun K hK=>?_;simp -dsimp [hil,hfll,gfl];apply hK;clear hK K;simp only[zT,reduceIte,Nat.reduceEqDiff];refine hK3 _ _ ?_;refine b8 [2,3,4,5,11,12,13] ?_;simp only[zP,Nat.reduceEqDiff,reduceIte];refine aR fun K hK=>?_;simp -dsimp [wi];apply hK;clear hK K;simp only[zT,reduceIte,Nat.reduceEqDiff];exact⟨i+1,by omega,by omega,e8 [some 0,some 1,some 2,some 3] rfl (by simp) (by simp[←hst,List.map_set])⟩
 ·have hie:i=g.Feeds.length:=by have hx:¬i<g.Feeds.length:=(by simpa using hc0);omega
  rw[hie,c0e (s:=s) (vf:=vf)];refine j9 ?_;simp only[zT,reduceIte,Nat.reduceEqDiff];refine hK1 _ _ ?_;refine b8 [2,3,4,5,11,12] ?_;simp only[zP,Nat.reduceEqDiff,reduceIte];refine aS fun K hK=>?_;simp -dsimp;refine d6 _ (hrp) (by simp) ?_;simp -dsimp;apply hK;clear hK K;refine d4 fun K4 hK4=>?_;refine aS fun K hK=>?_;simp -dsimp;apply hK;clear hK K;refine e7 ?_;refine b8 [2,3,4,5,11,12,14,15] ?_;simp only[zP,Nat.reduceEqDiff,reduceIte];refine g9 [2,3,4,5,11,12,14] (α:=Nat) (fun k=>[(15,I k)]) (fun k=>[some (.els 4 [g.cells]),some (.els 2 [s.cells]),some (.els 2 ((vlF N vf (L.take k).flatten).map Fr.cells)),some (.els 2 ((flR g s vf (L.take k).flatten []).map Fr.cells))]) (fun k=>k≤L.length∧((L.take k).all fun p=>(pvR g s us p).2.2)=true) (fun k=>L.length-k) 0 ?_ ?_ ?_
  ·exact⟨Nat.zero_le _,rfl⟩
  ·exact e8 [some 0,some 1,some 2,some 3] rfl (by simp) (by simp)
  rintro k ⟨k1,k2⟩;simp only[zP,Nat.reduceEqDiff,reduceIte];refine d4 fun K5 hK5=>?_;refine aS fun K hK=>?_;simp -dsimp;apply hK;clear hK K;refine d9 rfl (fun hc1=>?_) (fun hc1=>?_)
  ·have hkl:k<L.length:=by simpa using hc1
   have wk:=zW k (by omega);obtain⟨p,hp⟩:∃p,L[k]?=some p:=⟨_,List.getElem?_eq_getElem hkl⟩;have hpm:=List.mem_of_getElem? hp;have hul:=r9 p;have hcvp:=hcv p hpm;have hp5:=h5 p (hps p (hL▸hpm));have hfl2:(L.take (k+1)).flatten=(L.take k).flatten++p:=by rw[List.take_add_one,hp,List.flatten_append];simp
   refine f6 ?_;simp only[zT,reduceIte,Nat.reduceEqDiff];refine hK5 _ _ ?_;refine b8 [2,3,4,5,11,12,14,15] ?_;simp only[zP,Nat.reduceEqDiff,reduceIte];refine d4 fun K6 hK6=>?_;refine e7 ?_;refine v5 l6 rfl fun K hK=>?_;simp -dsimp [hp,pAV];refine d6 _ (hcr) (by simp) ?_;simp -dsimp [hp,pAV];refine d6 _ (hcvp) (by simp) ?_;simp -dsimp [hp,pAV];refine hK _ _ _ (by decide+kernel) ?_;clear hK K;refine d4 fun K7 hK7=>?_;refine aS fun K hK=>?_;simp -dsimp;apply hK;clear hK K;refine d9 rfl (fun hc2=>?_) (fun hc2=>?_)
   ·refine aS fun K hK=>?_;simp -dsimp;apply hK;clear hK K;have hf:(pvR g s us p).2.2=false:=by simpa using hc2
    have hall:(L.all fun p=>(pvR g s us p).2.2)=false:=by rw[List.all_eq_false];exact⟨p,hpm,by simp[hf]⟩
    exact g7 (by simp[hall])
   ·have hok:(pvR g s us p).2.2=true:=by simpa using hc2
    obtain⟨hvl,hd0,hd1,hvb,hve⟩:=hpo p hpm (by rw[←hfl];exact hok);have hvk:=hvf p hpm (by rw[←hfl];exact hok);obtain⟨v,hv⟩:∃v,v=(pvR g s us p).1:=⟨_,rfl⟩;obtain⟨d,hd⟩:∃d,d=(pvR g s us p).2.1:=⟨_,rfl⟩;rw[←hv]at hvl hvb hvk ⊢;rw[←hd]at hd0 hd1 hvk ⊢;refine f6 ?_;simp only[zT,reduceIte,Nat.reduceEqDiff];refine hK7 _ _ ?_;refine b8 [2,3,4,5,11,12,14,15,16,17] ?_;simp only[zP,Nat.reduceEqDiff,reduceIte];refine d4 fun K8 hK8=>?_;refine aS fun K hK=>?_;simp -dsimp;apply hK;clear hK K;refine e7 ?_;refine b8 [2,3,4,5,11,12,14,15,16,17,19] ?_;simp only[zP,Nat.reduceEqDiff,reduceIte];refine g9 [2,3,4,5,11,12,14,15,16,17] (α:=Nat) (fun i=>[(19,I i)]) (fun i=>[some (.els 4 [g.cells]),some (.els 2 [s.cells]),some (.els 2 ((vlF N vf ((L.take k).flatten++p.take i)).map Fr.cells)),some (.els 2 ((flR g s vf (L.take k).flatten []).map Fr.cells))]) (fun i=>i≤p.length) (fun i=>p.length-i) 0 ?_ ?_ ?_
    ·exact Nat.zero_le _
    ·exact e8 [some 0,some 1,some 2,some 3] rfl (by simp) (by simp)
    rintro i i1;simp only[zP,Nat.reduceEqDiff,reduceIte];refine d4 fun K9 hK9=>?_;refine aS fun K hK=>?_;simp -dsimp [hvl];apply hK;clear hK K;refine d9 rfl (fun hc3=>?_) (fun hc3=>?_)
    ·have hil:i<p.length:=by simpa [hvl]using hc3
     obtain⟨x,hx⟩:∃x,p[i]?=some x:=⟨_,List.getElem?_eq_getElem hil⟩;have gk:=F1 hx;have gv:=B9 (l:=v) (k:=i) (by omega);have hkN:=hlt p hpm x (List.mem_of_getElem? hx);have wi:=zW i (by omega);have hnb:=hvb _ (List.mem_of_getElem? gv);have hfr:=b2o (at0 v (i:Nat)) d hd0 (by omega) (by omega) (by omega);have hfk:=hvk i x hx;rw[←hfk]at hfr;have hvls:=a8L N vf ((L.take k).flatten++p.take i);have gvl:=a4F (vf:=vf) (done:=(L.take k).flatten++p.take i) hkN;have hst:=b4o (n:=N) (vf:=vf) (done:=(L.take k).flatten++p.take i) (k:=x);have hpt:p.take (i+1)=p.take i++[x]:=by rw[List.take_add_one,hx];rfl
     rw[List.append_assoc,←hpt]at hst;generalize vlF N vf ((L.take k).flatten++p.take i)=VL at hvls gvl hst ⊢;refine f6 ?_;simp only[zT,reduceIte,Nat.reduceEqDiff];refine hK9 _ _ ?_;refine b8 [2,3,4,5,11,12,14,15,16,17,19] ?_;simp only[zP,Nat.reduceEqDiff,reduceIte];refine d4 fun K10 hK10=>?_;refine e7 ?_;refine E1 l6 rfl fun K hK=>?_;simp -dsimp [hp,pAV,gk,gv,hkN,hvls,gvl];refine d6 _ (hfr) (by simp) ?_;simp -dsimp [hp,pAV,gk,gv,hkN,hvls,gvl];refine hK _ _ _ (by decide+kernel) ?_;clear hK K;simp only[zT,reduceIte,Nat.reduceEqDiff];refine hK10 _ _ ?_;refine b8 [2,3,4,5,11,12,14,15,16,17,19] ?_;simp only[zP,Nat.reduceEqDiff,reduceIte];refine aR fun K hK=>?_;simp -dsimp [wi];apply hK;clear hK K;simp only[zT,reduceIte,Nat.reduceEqDiff];exact⟨i+1,by omega,by omega,e8 [some 0,some 1,some 2,some 3] rfl (by simp) (by simp[←hst,List.map_set])⟩
    ·have hil:¬i<p.length:=by simpa [hvl]using hc3
     have hpt:p.take i=p:=List.take_of_length_le (by omega);rw[hpt,←hfl2];have hfd:=R5 g s (upN p) hnt.sf (by have:=h5 p (hps p (hL▸hpm));omega) (by omega);have hfa:=fun b (hb:b<(n8 g s (upN p)).length)=>H6 hnt (p:=p) rfl hb;have hpr:=b5L (vf:=vf) (done:=(L.take k).flatten) hnt (p:=p);have hF12:=b2q hnt (p:=p) rfl;have hfm:=fun f (hf:f∈n8 g s (upN p))=>a2A hf;generalize n8 g s (upN p)=F at hfd hfa hpr hF12 hfm;refine j9 ?_;simp only[zT,reduceIte,Nat.reduceEqDiff];refine hK8 _ _ ?_;refine b8 [2,3,4,5,11,12,14,15,16,17] ?_;simp only[zP,Nat.reduceEqDiff,reduceIte];refine v5 l6 rfl fun K hK=>?_;simp -dsimp [hp,pAV];refine d6 _ (hfd) (by simp) ?_;simp -dsimp [hp,pAV];refine hK _ _ _ (by decide+kernel) ?_;clear hK K;refine aS fun K hK=>?_;simp -dsimp;apply hK;clear hK K;refine e7 ?_;refine b8 [2,3,4,5,11,12,14,15,16,17,20,21] ?_;simp only[zP,Nat.reduceEqDiff,reduceIte];refine g9 [2,3,4,5,11,12,14,15,16,17,20] (α:=Nat) (fun i=>[(21,I i)]) (fun i=>[some (.els 4 [g.cells]),some (.els 2 [s.cells]),some (.els 2 ((vlF N vf (L.take (k+1)).flatten).map Fr.cells)),some (.els 2 ((flR g s vf (L.take k).flatten (F.take i)).map Fr.cells))]) (fun i=>i≤F.length) (fun i=>F.length-i) 0 ?_ ?_ ?_
     ·exact Nat.zero_le _
     ·exact e8 [some 0,some 1,some 2,some 3] rfl (by simp) (by simp)
     rintro b b1;simp only[zP,Nat.reduceEqDiff,reduceIte];refine d4 fun K11 hK11=>?_;refine aS fun K hK=>?_;simp -dsimp;apply hK;clear hK K;refine d9 rfl (fun hc4=>?_) (fun hc4=>?_)
     ·have hbl:b<F.length:=by simpa using hc4
      have wb:=zW b (by omega);obtain⟨a1,a2,a3,a4,a5,a6,a7,a8,a9,a10⟩:=hfa b hbl;obtain⟨f,hf⟩:∃f:Nat,at0 F (b:Nat)=f:=⟨(at0 F (b:Nat)).toNat,by omega⟩;rw[hf]at a1 a2 a3 a4 a5 a6 a7 a8 a9 a10;rw[Int.toNat_natCast]at a4;have hfn:f<g.Feeds.length:=by omega
      have hix:=R4 (upN p) (fdI g (f:Int)).At (by have:=h5 p (hps p (hL▸hpm));omega);rw[J5 a5 a6]at hix;have hxg:=x8 a6;have hxl:p.idxOf (fdI g (f:Int)).At.toNat<v.length:=by rw[hvl];exact List.idxOf_lt_length_of_mem a6
      have gv:=B9 hxl;have hvx:=hvk _ _ hxg;have hxb:=hvb _ (List.mem_of_getElem? gv);generalize p.idxOf (fdI g (f:Int)).At.toNat=ix at hix hxg hxl gv hvx hxb;generalize at0 v (ix:Nat)=x at gv hvx hxb;have hvd:0≤(fdI g (f:Int)).Volts*d∧(fdI g (f:Int)).Volts*d≤2000000000000:=⟨Int.mul_nonneg (by omega) (by omega),Int.le_trans (Int.mul_le_mul a8 hd1 (by omega) (by omega)) (by omega)⟩;have hon:bAt s.Feeds f=true:=by have:=(hfm _ (List.mem_of_getElem? a1)).2.2.2;rwa [Int.toNat_natCast]at this
      have hff:=ffR (g:=g) (s:=s) (vf:=vf) (f:=f) hd0 hvx (by omega) hon;have w1:IntKind.i64.wrap ((fdI g (f:Int)).Volts*d)=(fdI g (f:Int)).Volts*d:=i7 (by omega) (by omega);have w2:IntKind.i64.wrap ((fdI g (f:Int)).Volts*d-x)=(fdI g (f:Int)).Volts*d-x:=i7 (by omega) (by omega);have hsd:(fdI g (f:Int)).Siem*((fdI g (f:Int)).Volts*d-x)≤40000000000000∧-40000000000000≤(fdI g (f:Int)).Siem*((fdI g (f:Int)).Volts*d-x):=by
       rcases(by omega:(fdI g (f:Int)).Siem=1∨(fdI g (f:Int)).Siem=2∨(fdI g (f:Int)).Siem=3∨(fdI g (f:Int)).Siem=4)with h|h|h|h<;>rw[h]<;>omega
      have w3:IntKind.i64.wrap ((fdI g (f:Int)).Siem*((fdI g (f:Int)).Volts*d-x))=(fdI g (f:Int)).Siem*((fdI g (f:Int)).Volts*d-x):=i7 (by omega) (by omega);have hfr:=b2o (if 0<(fdI g (f:Int)).Siem*((fdI g (f:Int)).Volts*d-x)then(fdI g (f:Int)).Siem*((fdI g (f:Int)).Volts*d-x)else 0) d hd0 (by split<;>omega) (by split<;>omega) (by omega);rw[hff]at hfr;have hsl:=a4T (g:=g) (s:=s) (vf:=vf) (done:=(L.take k).flatten) (fs:=F.take b);have gfl:=a8k (g:=g) (s:=s) (vf:=vf) (done:=(L.take k).flatten) (fs:=F.take b) hfn;have hst:=c0b (g:=g) (s:=s) (vf:=vf) (done:=(L.take k).flatten) (fs:=F.take b) (k:=f);have hFt:F.take (b+1)=F.take b++[(f:Int)]:=by rw[List.take_add_one,a1];rfl
      rw[←hFt]at hst;generalize flR g s vf (L.take k).flatten (F.take b)=FL at hsl gfl hst ⊢;refine f6 ?_;simp only[zT,reduceIte,Nat.reduceEqDiff];refine hK11 _ _ ?_;refine b8 [2,3,4,5,11,12,14,15,16,17,20,21] ?_;simp only[zP,Nat.reduceEqDiff,reduceIte];refine d4 fun K12 hK12=>?_;refine e7 ?_;refine v5 l6 rfl fun K hK=>?_;simp -dsimp [a1,a4];refine hK _ _ _ (by decide+kernel) ?_;clear hK K;refine E1 l6 rfl fun K hK=>?_;simp -dsimp [a1,hp,pAV,gv,w1,w2,w3,hfn,hsl,gfl];refine d6 _ (hix) (by simp) ?_;simp -dsimp [a1,hp,pAV,gv,w1,w2,w3,hfn,hsl,gfl];refine d6 _ (hfr) (by simp) ?_;simp -dsimp [a1,hp,pAV,gv,w1,w2,w3,hfn,hsl,gfl];refine hK _ _ _ (by decide+kernel) ?_;clear hK K;simp only[zT,reduceIte,Nat.reduceEqDiff];refine hK12 _ _ ?_;refine b8 [2,3,4,5,11,12,14,15,16,17,20,21] ?_;simp only[zP,Nat.reduceEqDiff,reduceIte];refine aR fun K hK=>?_;simp -dsimp [wb];apply hK;clear hK K;simp only[zT,reduceIte,Nat.reduceEqDiff];exact⟨b+1,by omega,by omega,e8 [some 0,some 1,some 2,some 3] rfl (by simp) (by simp[←hst,List.map_set])⟩
     ·have hbe:¬b<F.length:=by simpa using hc4
      rw[show F.take b=F from List.take_of_length_le (by omega),hpr,←hfl2];refine j9 ?_;simp only[zT,reduceIte,Nat.reduceEqDiff];refine hK6 _ _ ?_;refine b8 [2,3,4,5,11,12,14,15] ?_;simp only[zP,Nat.reduceEqDiff,reduceIte];refine aR fun K hK=>?_;simp -dsimp [wk];apply hK;clear hK K;simp only[zT,reduceIte,Nat.reduceEqDiff];exact⟨k+1,⟨by omega,by rw[b4l hp,k2,hok];rfl⟩,by omega,e8 [some 0,some 1,some 2,some 3] rfl (by simp) (by simp)⟩
  ·have hkl:¬k<L.length:=by simpa using hc1
   rw[List.take_of_length_le (by omega)]at k2 ⊢;have hva:vlF N vf L.flatten=vlA N vf:=b3F fun k hk=>hcov k hk;have hfa:flR g s vf L.flatten []=flA g s vf:=b9T fun i hi=>by
    have hg:g.Feeds[i]?=some (fdI g (i:Int)):=by have:=M7 (g:=g) (i:=(i:Int)) (by omega) (by omega);rwa [Int.toNat_natCast]at this
    have hb:=hnt.feeds _ (List.mem_of_getElem? hg);exact hcov _ (by omega)
   have hvN:(vlA N vf).length=N:=by simp[vlA]
   have hfN:(flA g s vf).length=g.Feeds.length:=by simp[flA]
   have htv:List.take N ((vlA N vf).map Fr.cells)=(vlA N vf).map Fr.cells:=List.take_of_length_le (by simp;omega);have htf:List.take g.Feeds.length ((flA g s vf).map Fr.cells)=(flA g s vf).map Fr.cells:=List.take_of_length_le (by simp;omega);rw[hva,hfa];refine j9 ?_;simp only[zT,reduceIte,Nat.reduceEqDiff];refine hK4 _ _ ?_;refine b8 [11,12] ?_;simp only[zP,Nat.reduceEqDiff,reduceIte];refine aS fun K hK=>?_;simp -dsimp;apply hK;clear hK K;exact g7 (by simp[k2,hvN,hfN,htv,htf])
end Go.Cur
end
section
namespace Go.Cur
open Go.AM Go.Proofs
theorem b4E (f:Fr) (n:Int) (w:-9223372036854775807≤n*f.Den∧n*f.Den≤9223372036854775807) (w':-9223372036854775807≤f.Num-n*f.Den∧f.Num-n*f.Den≤9223372036854775807):d5 Try.prog 82 [f.av,I n] (Fr.av ⟨f.Num-n*f.Den,f.Den⟩):=by
 have w1:IntKind.i64.wrap (n*f.Den)=n*f.Den:=i7 (by omega) (by omega);have w2:IntKind.i64.wrap (f.Num-n*f.Den)=f.Num-n*f.Den:=i7 (by omega) (by omega);refine d5.of_body Try.func82 rfl (by decide) (by simp[Try.ntmps82]) ?_;simp only[Try.ntmps82,Try.results82];refine aS fun K hK=>?_;simp -dsimp;apply hK;clear hK K;refine aS fun K hK=>?_;simp -dsimp [w1,w2];apply hK;clear hK K;exact g7 (by simp)
structure FrP (a b:Fr):Prop where
 a0:0≤a.Num
 a1:a.Num≤9223372036854775807
 a2:0<a.Den
 a3:a.Den≤9223372036854775807
 b0:0≤b.Num
 b1:b.Num≤9223372036854775807
 b2:0<b.Den
 b3:b.Den≤9223372036854775807
def a6E (a b:Fr):Bool:=decide (b.Num*a.Den<a.Num*b.Den)
theorem b2K {n d m e x y u v:Int} (h:y<x) (k1:d*x+u=n) (hu:0≤u) (k2:e*y+v=m) (hv:v<e) (hd:0<d) (he:0<e):m*d<n*e:=by
 have h1:e*(y+1)≤e*x:=Int.mul_le_mul_of_nonneg_left (by omega) (by omega);rw[Int.mul_add,Int.mul_one]at h1;have h3:m*d<e*x*d:=Int.mul_lt_mul_of_pos_right (by omega) hd;have h4:d*x*e≤n*e:=Int.mul_le_mul_of_nonneg_right (by omega) (by omega);have h5:e*x*d=d*x*e:=by rw[Int.mul_comm (e*x) d,Int.mul_comm e x,Int.mul_assoc]
 omega
theorem b3M {n d m e x u v:Int} (k1:d*x+u=n) (k2:e*x+v=m):m*d<n*e↔v*d<u*e:=by
 have h5:e*x*d=d*x*e:=by rw[Int.mul_comm (e*x) d,Int.mul_comm e x,Int.mul_assoc]
 rw[←k1,←k2,Int.add_mul,Int.add_mul,h5];omega
theorem b8E (a b:Fr) (hp:FrP a b):d5 Try.prog 63 [a.av,b.av] (Bo (a6E a b)):=by
 refine d5.of_body Try.func63 rfl (by decide) (by simp[Try.ntmps63]) ?_;simp only[Try.ntmps63,Try.results63];refine aS fun K hK=>?_;simp -dsimp;apply hK;clear hK K;refine e7 ?_;refine b8 [2,3] ?_;simp only[zP,Nat.reduceEqDiff,reduceIte];refine g9 [2,3] (α:=Fr×Fr) (fun q=>[]) (fun q=>[some (.els 2 [q.1.cells]),some (.els 2 [q.2.cells])]) (fun q=>FrP q.1 q.2∧a6E q.1 q.2=a6E a b) (fun q=>(q.1.Den+q.2.Den).toNat) (a,b) ?_ ?_ ?_
 ·exact⟨hp,rfl⟩
 ·exact e8 [some 0,some 1] rfl (by simp) (by simp)
 rintro⟨x,y⟩ ⟨h,he⟩;simp only at h he ⊢;rw[←he];obtain⟨a0,a1,a2,a3,b0,b1,b2,b3⟩:=h;obtain⟨n,d⟩:=x;obtain⟨m,e⟩:=y;simp only at a0 a1 a2 a3 b0 b1 b2 b3 ⊢;have hd0:¬d=0:=by omega
 have he0:¬e=0:=by omega
 have q1:n.tdiv d=n/d:=Int.tdiv_eq_ediv_of_nonneg a0;have q2:m.tdiv e=m/e:=Int.tdiv_eq_ediv_of_nonneg b0;have k1:=Int.mul_ediv_add_emod n d;have k2:=Int.mul_ediv_add_emod m e;have r1:=Int.emod_nonneg n hd0;have r2:=Int.emod_lt_of_pos n a2;have r3:=Int.emod_nonneg m he0;have r4:=Int.emod_lt_of_pos m b2;have s1:=Int.ediv_nonneg a0 (Int.le_of_lt a2);have s2:=Int.ediv_nonneg b0 (Int.le_of_lt b2);have t1:n/d≤n:=Int.ediv_le_self _ a0;have t2:m/e≤m:=Int.ediv_le_self _ b0;have hmore:a6E ⟨n,d⟩ ⟨m,e⟩=decide (m*d<n*e):=rfl;generalize hx:n/d=x at*
 generalize hy:m/e=y at*
 generalize n % d=u at*
 generalize m % e=v at*
 have w1:IntKind.i64.wrap x=x:=i7 (by omega) (by omega);have w2:IntKind.i64.wrap y=y:=i7 (by omega) (by omega);have w3:IntKind.i64.wrap (x*d)=x*d:=i7 (by rw[Int.mul_comm];omega) (by rw[Int.mul_comm];omega);have w4:IntKind.i64.wrap (y*e)=y*e:=i7 (by rw[Int.mul_comm];omega) (by rw[Int.mul_comm];omega);have e3:n-x*d=u:=by rw[Int.mul_comm];omega
 have e4:m-y*e=v:=by rw[Int.mul_comm];omega
 have w5:IntKind.i64.wrap u=u:=i7 (by omega) (by omega);have w6:IntKind.i64.wrap v=v:=i7 (by omega) (by omega);simp only[zP,Nat.reduceEqDiff,reduceIte];refine e7 ?_;refine v5 l6 rfl fun K hK=>?_;simp -dsimp [hd0,he0,q1,q2,w1,w2];refine hK _ _ _ (by decide+kernel) ?_;clear hK K;refine d4 fun K1 hK1=>?_;refine aS fun K hK=>?_;simp -dsimp;apply hK;clear hK K;refine d9 rfl (fun hc0=>?_) (fun hc0=>?_)
 ·refine aS fun K hK=>?_;simp -dsimp;apply hK;clear hK K;have hne:¬x=y:=by simpa using hc0
  have hr:a6E ⟨n,d⟩ ⟨m,e⟩=decide (y<x):=by
   rw[hmore];refine decide_eq_decide.2 ⟨fun hlt=>?_,fun hlt=>b2K hlt k1 r1 k2 r4 a2 b2⟩
   rcases Int.lt_or_gt_of_ne hne with h|h
   ·have:=b2K h k2 r3 k1 r2 b2 a2;omega
   ·exact h
  exact g7 (by simp[hr])
 ·have heq:x=y:=by simpa using hc0
  refine f6 ?_;simp only[zT,reduceIte,Nat.reduceEqDiff];refine hK1 _ _ ?_;refine b8 [2,3,5,6] ?_;simp only[zP,Nat.reduceEqDiff,reduceIte];refine v5 l6 rfl fun K hK=>?_;simp -dsimp [w3,w4,e3,e4,w5,w6];refine hK _ _ _ (by decide+kernel) ?_;clear hK K;refine d4 fun K2 hK2=>?_;refine aS fun K hK=>?_;simp -dsimp;apply hK;clear hK K;refine d9 rfl (fun hc1=>?_) (fun hc1=>?_)
  ·refine aS fun K hK=>?_;simp -dsimp;apply hK;clear hK K;have hr:a6E ⟨n,d⟩ ⟨m,e⟩=decide (0<u):=by
    rw[hmore];subst heq;refine decide_eq_decide.2 ((b3M k1 k2).trans ?_)
    rcases(by simpa using hc1:u=0∨v=0)with h|h
    ·subst h;have:=Int.mul_nonneg r3 (Int.le_of_lt a2);rw[Int.zero_mul];omega
    ·subst h;rw[Int.zero_mul];refine⟨fun h=>?_,fun h=>Int.mul_pos h b2⟩;refine Int.not_le.1 fun h2=>?_;have:=Int.mul_nonpos_of_nonpos_of_nonneg h2 (Int.le_of_lt b2);omega
   exact g7 (by simp[hr])
  ·refine f6 ?_;simp only[zT,reduceIte,Nat.reduceEqDiff];refine hK2 _ _ ?_;refine b8 [2,3] ?_;simp only[zP,Nat.reduceEqDiff,reduceIte];refine aR fun K hK=>?_;simp -dsimp;apply hK;clear hK K;simp only[zT,reduceIte,Nat.reduceEqDiff];have huv:¬u=0∧¬v=0:=by simpa using hc1
   subst heq;refine⟨(⟨e,v⟩,⟨d,u⟩),⟨⟨by simp only;omega,b3,by simp only;omega,by simp only;omega,by simp only;omega,a3,by simp only;omega,by simp only;omega⟩,?_⟩,by simp only;omega,e8 [some 0,some 1] rfl (by simp) (by simp)⟩;rw[hmore];refine decide_eq_decide.2 (((b3M k1 k2).trans ?_).symm);rw[Int.mul_comm v,Int.mul_comm u]
theorem b0q (l:List Ld) (of:List Bool) (hl:l.length≤1000) (hs:of.length=l.length):d5 Try.prog 81 [lL l,bL of] (I (leL l of (fun _=>true) l.length)):=by
 refine d5.of_body Try.func81 rfl (by decide) (by simp[Try.ntmps81]) ?_;simp only[Try.ntmps81,Try.results81];refine aS fun K hK=>?_;simp -dsimp;apply hK;clear hK K;refine aS fun K hK=>?_;simp -dsimp;apply hK;clear hK K;refine d4 fun K1 hK1=>?_;refine aS fun K hK=>?_;simp -dsimp;apply hK;clear hK K;refine e7 ?_;refine b8 [0,1,5,6] ?_;simp only[zP,Nat.reduceEqDiff,reduceIte];refine g9 [0,1] (α:=Nat) (fun k=>[(5,I (leL l of (fun _=>true) k)),(6,I k)]) (fun k=>[]) (fun k=>k≤l.length) (fun k=>l.length-k) 0 ?_ ?_ ?_
 ·exact Nat.zero_le _
 ·exact j7 (by simp[leL])
 rintro k k1;simp only[zP,Nat.reduceEqDiff,reduceIte];refine d4 fun K2 hK2=>?_;refine aS fun K hK=>?_;simp -dsimp;apply hK;clear hK K;refine d9 rfl (fun hc0=>?_) (fun hc0=>?_)
 ·have hkl:k<l.length:=by simpa using hc0
  have wk:=zW k (by omega);have gl:=t6 hkl;have gb:=s7 (l:=of) (k:=k) (by omega);have hbd:=O4 l of (fun _=>true) k;have hsc:=N1 l of (fun _=>true) k;unfold leS at hsc;generalize leL l of (fun _=>true) k=out at hbd hsc ⊢;refine f6 ?_;simp only[zT,reduceIte,Nat.reduceEqDiff];refine hK2 _ _ ?_;refine b8 [0,1,5,6] ?_;simp only[zP,Nat.reduceEqDiff,reduceIte];refine d4 fun K3 hK3=>?_;refine e7 ?_;refine v5 l6 rfl fun K hK=>?_;simp -dsimp [gb,gl];refine j8 ((ldA l k).cells) (fun _=>by simp[gl]) ?_;simp -dsimp [gb,gl];refine j8 ((ldA l out.toNat).cells) (fun hm=>by simp at hm;rw[List.getElem?_map,t6 (show out.toNat<l.length by omega)];rfl) ?_;simp -dsimp [gb,gl];refine hK _ _ _ (by decide+kernel) ?_;clear hK K;refine d9 rfl (fun hc1=>?_) (fun hc1=>?_)
  ·refine aR fun K hK=>?_;simp -dsimp;apply hK;clear hK K;simp only[zT,reduceIte,Nat.reduceEqDiff];refine hK3 _ _ ?_;refine b8 [0,1,5,6] ?_;simp only[zP,Nat.reduceEqDiff,reduceIte];refine aR fun K hK=>?_;simp -dsimp [wk];apply hK;clear hK K;simp only[zT,reduceIte,Nat.reduceEqDiff];have hcd:bAt of k=true∧true=true∧(out<0∨(ldA l k).Rank≤(ldA l out.toNat).Rank):=by simpa using hc1
   rw[if_pos hcd]at hsc;exact⟨k+1,by omega,by omega,j7 (by simp[hsc])⟩
  ·refine f6 ?_;simp only[zT,reduceIte,Nat.reduceEqDiff];refine hK3 _ _ ?_;refine b8 [0,1,5,6] ?_;simp only[zP,Nat.reduceEqDiff,reduceIte];refine aR fun K hK=>?_;simp -dsimp [wk];apply hK;clear hK K;simp only[zT,reduceIte,Nat.reduceEqDiff];have hcd:¬(bAt of k=true∧true=true∧(out<0∨(ldA l k).Rank≤(ldA l out.toNat).Rank)):=by intro h;have h3:=h.2.2;simp[h.1]at hc1;omega
   rw[if_neg hcd]at hsc;exact⟨k+1,by omega,by omega,j7 (by simp[hsc])⟩
 ·have hke:k=l.length:=by have hn:¬k<l.length:=(by simpa using hc0);omega
  rw[hke];refine j9 ?_;simp only[zT,reduceIte,Nat.reduceEqDiff];refine hK1 _ _ ?_;refine b8 [5] ?_;simp only[zP,Nat.reduceEqDiff,reduceIte];refine aS fun K hK=>?_;simp -dsimp;apply hK;clear hK K;exact g7 (by simp)
end Go.Cur
end
section
namespace Go.Cur
open Go.AM Go.Proofs
section
variable {g:Gr} {wi:List Bool} {l:List Ld}
theorem a6I {z:SS} (h:A3 g wi l z=none):x9 g wi l z=none∧H9 g wi l z=none∧M2 g wi l z=none∧B7 g wi l z=none:=by
 unfold A3 at h
 cases h1:x9 g wi l z with
 |some a=>rw[h1]at h;cases h
 | none=>
  rw[h1]at h
  cases h2:H9 g wi l z with
  |some a=>rw[h2]at h;cases h
  | none=>
   rw[h2]at h
   cases h3:M2 g wi l z with
   |some a=>rw[h3]at h;cases h
   |none=>
    rw[h3]at h
    cases h4:B7 g wi l z with
    |some a=>rw[h4]at h;cases h
    |none=>exact⟨rfl,rfl,rfl,rfl⟩
theorem b4V {z:SS} (h1:x9 g wi l z=none) (h2:H9 g wi l z=none) (h3:M2 g wi l z=none) (h4:B7 g wi l z=none):A3 g wi l z=none:=by
 unfold A3;rw[h1,h2,h3,h4];rfl
theorem a7d {s:Sta} {vf:Nat→Fr} {sv:List Bool} {i:Nat} (hc:a2y g vf l sv i=true) {y:Int} (hy:y∈upN (s6 g s (ldA l i).At.toNat)):∀{n:Nat},i<n→ibt (M0 g s vf l sv n) y=true
 | n+1,hn=>by
  rw[L5];unfold b7P
  rcases Nat.lt_succ_iff_lt_or_eq.1 hn with h|rfl
  ·have:=a7d hc hy h
   split
   ·rw[a1B,this,Bool.or_true]
   ·exact this
  ·rw[if_pos hc,a1B,decide_eq_true hy,Bool.true_or]
theorem a6e {s:Sta} {vf:Nat→Fr} {sv:List Bool}:∀{n:Nat},(∀i,i<n→a2y g vf l sv i=false)→M0 g s vf l sv n=[]
 |0,_=>rfl
 |n+1,h=>by
  rw[L5,a6e fun i hi=>h i (by omega)];unfold b7P;rw[if_neg (by rw[h n (by omega)];decide)]
theorem b5G {s:Sta} (hnt:o8 g s) {x:Int} (h0:0≤x) (h1:x<g.Nodes):x∈upN (s6 g s x.toNat):=by
 rw[W4];refine⟨h0,?_⟩;unfold s6;rw[B4];exact⟨by omega,rfl⟩
theorem b8X (h:y2 g wi l) {z:SS} (hz:ZOk g wi l z) (hl:M2 g wi l z=none) {i:Nat} (hi:i<l.length):a2y g (vfZ g wi l z) l z.sv i=false:=by
 cases hc:a2y g (vfZ g wi l z) l z.sv i with
 |false=>rfl
 | true=>
  exfalso;have hn:b2f g wi l z<0:=by
   unfold M2 at hl
   split at hl
   ·cases hl
   ·omega
  have ha:=h.ld.at_ _ (List.mem_of_getElem? (t6 hi));have hm:=a7d (s:=⟨z.fe,wi⟩) hc (b5G (h.net hz) ha.1 ha.2) hi;have hb:bAt z.sv i=true∧0<(ldA l i).Units:=by
   unfold a2y at hc;simp only[Bool.and_eq_true,decide_eq_true_eq]at hc;exact⟨hc.1,hc.2.1⟩
  have:=a1O hn i hi hb.1;unfold Y2 at this;rw[hm]at this;simp[hb.2]at this
theorem c1O (h:y2 g wi l) {z:SS} (hz:ZOk g wi l z) (hs:A3 g wi l z=none):t5 g wi (srv l z.sv) z.fe=z0 (srv l z.sv) z.fe:=by
 obtain⟨h1,h2,h3,h4⟩:=a6I hs;have hig:∀x,igt (tkK (srv l z.sv) (List.replicate (srv l z.sv).length true)) x=igt (tkK l z.sv) x:=b9H l z.sv;have hvf:vfZ g wi (srv l z.sv) (z0 (srv l z.sv) z.fe)=vfZ g wi l z:=by
  unfold vfZ z0;exact b1N hig
 have hmem:∀i,i<(srv l z.sv).length→∃j,j<l.length∧bAt z.sv j=true∧ldA (srv l z.sv) i=ldA l j:=fun i hi=>by
  obtain⟨j,hj,hb⟩:=b9m.1 (List.mem_of_getElem? (t6 hi));have hjl:=(List.getElem?_eq_some_iff.1 hj).1;refine⟨j,hjl,b7Z hb,?_⟩;have:=t6 hjl;rw[hj]at this;exact Option.some.inj this
 unfold t5;refine H7 (b4V ?_ ?_ ?_ ?_)
 ·unfold x9;rw[Option.map_eq_none_iff,List.find?_eq_none];intro i hi;rw[List.mem_range]at hi;obtain⟨j,hj,hb,e⟩:=hmem i hi;unfold x9 at h1;rw[Option.map_eq_none_iff,List.find?_eq_none]at h1;have:=h1 j (List.mem_range.2 hj);unfold B8 at this ⊢;rw[hb]at this;rw[e];simp only[z0]at this ⊢;intro hd;simp only[Bool.and_eq_true]at hd this;exact this (by simpa using(by simpa using hd:_∧_∧_).2)
 ·have hn:b0U g wi l z<0:=by
   unfold H9 at h2
   split at h2
   ·cases h2
   ·omega
  have hi2:b0U g wi (srv l z.sv) (z0 (srv l z.sv) z.fe)<0:=by
   refine b3o fun i hi _=>?_;obtain⟨j,hj,hb,e⟩:=hmem i hi;have:=a1O hn j hj hb;rw[e];unfold O8 at this ⊢;have es:∀p,B3 (tkK (srv l z.sv) (z0 (srv l z.sv) z.fe).sv) p=B3 (tkK l z.sv) p:=fun p=>by
    unfold B3;have:(fun x:Nat=>igt (tkK (srv l z.sv) (z0 (srv l z.sv) z.fe).sv) x)=fun x:Nat=>igt (tkK l z.sv) x:=funext fun x=>hig x;exact congrArg (fun f=>sm f p) this
   rw[es];exact this
  unfold H9;rw[if_neg (by omega)]
 ·have hi2:b2f g wi (srv l z.sv) (z0 (srv l z.sv) z.fe)<0:=by
   refine b3o fun i hi _=>?_;have:M0 g ⟨(z0 (srv l z.sv) z.fe).fe,wi⟩ (vfZ g wi (srv l z.sv) (z0 (srv l z.sv) z.fe)) (srv l z.sv) (z0 (srv l z.sv) z.fe).sv (srv l z.sv).length=[]:=by
    refine a6e fun i hi=>?_;obtain⟨j,hj,hb,e⟩:=hmem i hi;have:=b8X h hz h3 hj;rw[hvf];unfold a2y at this ⊢;rw[hb,Bool.true_and]at this;rw[e,this,Bool.and_false]
   rw[this];unfold Y2;rw[b3t,Bool.and_false]
  unfold M2;rw[if_neg (by omega)]
 ·have:U9 g wi (srv l z.sv) (z0 (srv l z.sv) z.fe)=U9 g wi l z:=by
   unfold U9;rw[hvf];rfl
  have hn:U9 g wi l z<0:=by
   unfold B7 at h4
   split at h4
   ·cases h4
   ·omega
  unfold B7;rw[this,if_neg (by omega)]
end
end Go.Cur
end
section
namespace Go.Cur
open Go.AM Go.Proofs
theorem c1C {l:List Int} {B:Nat} (h:∀x∈l,x.natAbs≤B) (i:Int):(at0 l i).natAbs≤B:=by
 unfold at0
 cases hi:l[i.toNat]? with
 |none=>simp
 |some x=>exact h x (List.mem_of_getElem? hi)
section
variable {g:Gr} {s:Sta} {us:Kvs}
theorem b7h (hnt:o8 g s) (h5:∀p∈l8 g s,p.length≤5) (hus:∀x,-40≤igt us x∧igt us x≤40) (hok:okS g s us=true) {k:Nat} (hk:k<g.Nodes.toNat):0<(vfS g s us k).Den∧(vfS g s us k).Den≤2000000000∧(vfS g s us k).Num.natAbs≤7000000000000:=by
 obtain⟨p,hp,hkp⟩:=List.mem_flatten.1 (G0 hnt hk);unfold okS at hok;rw[List.all_eq_true]at hok;obtain⟨t1,t2,t3⟩:=a0n hnt hp (h5 p hp) hus (hok p hp);unfold vfS;rw[←G1 hp hkp];have hr:=a6g (n:=at0 (H8 g s us p).1 (p.idxOf k:Nat)) t1;have hb:=c1C t3 (p.idxOf k:Nat);omega
theorem b7d {vf:Nat→Fr} (hnt:o8 g s) (hv:∀k,k<g.Nodes.toNat→0<(vf k).Den∧(vf k).Den≤2000000000∧(vf k).Num.natAbs≤7000000000000) {i:Nat} (hi:i<g.Feeds.length):
  0≤(ffF g s vf i).Num∧(ffF g s vf i).Num≤40000000000000∧1≤(ffF g s vf i).Den∧(ffF g s vf i).Den≤2000000000∧(0<(ffF g s vf i).Num→bAt s.Feeds i=true):=by
 have hg:g.Feeds[i]?=some (fdI g (i:Int)):=by have:=M7 (g:=g) (i:=(i:Int)) (by omega) (by omega);rwa [Int.toNat_natCast]at this
 have hb:=hnt.feeds _ (List.mem_of_getElem? hg);have hvb:=hv (fdI g (i:Int)).At.toNat (by omega);unfold ffF;simp only;generalize vf (fdI g (i:Int)).At.toNat=v at hvb ⊢;have h1:0≤(fdI g (i:Int)).Volts*v.Den∧(fdI g (i:Int)).Volts*v.Den≤2000000000000:=⟨Int.mul_nonneg (by omega) (by omega),Int.le_trans (Int.mul_le_mul hb.2.2.2.1 hvb.2.1 (by omega) (by omega)) (by omega)⟩
 split
 ·rename_i hc;have hd1:(fdI g (i:Int)).Volts*v.Den-v.Num≤9000000000000:=by omega
  generalize (fdI g (i:Int)).Volts*v.Den-v.Num=d at*
  have hr:=a6g (n:=(fdI g (i:Int)).Siem*d) hvb.1;have h2:0≤(fdI g (i:Int)).Siem*d∧(fdI g (i:Int)).Siem*d≤36000000000000:=by
   have hc2:=hc.2
   rcases(by omega:(fdI g (i:Int)).Siem=1∨(fdI g (i:Int)).Siem=2∨(fdI g (i:Int)).Siem=3∨(fdI g (i:Int)).Siem=4)with h|h|h|h<;>rw[h]<;>omega
  have h3:0≤(red ((fdI g (i:Int)).Siem*d) v.Den).Num:=by
   unfold red;exact Int.ediv_nonneg h2.1 (by omega)
  exact⟨h3,by omega,by omega,by omega,fun _=>hc.1⟩
 ·exact⟨by decide,by decide,by decide,by decide,fun h=>absurd h (by decide)⟩
theorem c2i {l:List Ld} (hf:w9 g s l=true) (hll:l.length≤900) (h5:∀p∈l8 g s,p.length≤5):y2 g s.Wires l:=
 ⟨(z9 hf).gr,(z9 hf).sw,a5m hf,hll,h5⟩
end
theorem b0A (g:Gr) (s:Sta) (l:List Ld) (hf:w9 g s l=true) (hlo:G2 g s=false) (h:y2 g s.Wires l) (Z:SS) (hZ:t5 g s.Wires l s.Feeds=Z):
  d5 Try.prog 27 [g.av,s.av,lL l] (.tup [.agg (a7p g s.Wires l Z).cells,I 0]):=by
 by_cases hne:s.Feeds=[]
 ·exact a7H g s l hf hlo h hne Z hZ
 ·exact a2k g s l hf hlo h hne Z hZ
end Go.Cur
end
section
namespace Go.Cur
open Go.AM Go.Proofs
def rwF {α:Type} (n:Nat) (f:Nat→α):List α:=(List.range n).map f
section
variable {α:Type} {n:Nat} {f h:Nat→α}
theorem M4 {k:Nat} (hk:k<n):(rwF n f)[k]?=some (f k):=by
 unfold rwF;rw[List.getElem?_map,List.getElem?_range hk];rfl
theorem N5 (n:Nat) (f:Nat→α):(rwF n f).length=n:=by simp[rwF]
theorem a2S {a:Nat} {v:α}:(rwF n f).set a v=rwF n fun k=>if k=a then v else f k:=by
 refine List.ext_getElem? fun i=>?_
 by_cases hi:i<n
 ·rw[M4 hi]
  by_cases h2:i=a
  ·subst h2;rw[List.getElem?_set_self (by rw[N5];exact hi),if_pos rfl]
  ·rw[List.getElem?_set_ne (fun e=>h2 e.symm),M4 hi,if_neg h2]
 ·rw[List.getElem?_eq_none (by rw[List.length_set,N5];omega),List.getElem?_eq_none (by rw[N5];omega)]
theorem D2 (e:∀k,k<n→f k=h k):rwF n f=rwF n h:=by
 unfold rwF;exact List.map_congr_left fun k hk=>e k (List.mem_range.1 hk)
end
theorem c3f (n:Nat):List.replicate n [AV.v (Value.bool false)]=(rwF n fun _=>false).map i8:=by
 refine List.ext_getElem? fun i=>?_
 by_cases hi:i<n
 ·rw[List.getElem?_replicate,if_pos hi,List.getElem?_map,M4 hi];rfl
 ·rw[List.getElem?_eq_none (by simp;omega),List.getElem?_eq_none (by rw[List.length_map,N5];omega)]
theorem c3z (n:Nat) (f:Nat→Int) (h:∀k,f k=0):List.replicate n [AV.v (Value.int .i64 0)]=(rwF n f).map i9:=c1i n f h
def pix (L:List (List Nat)) (k:Nat):Nat:=L.findIdx fun p=>decide (k∈p)
section
variable {g:Gr} {s:Sta}
theorem b6r {i j k:Nat} {p q:List Nat} (hi:(l8 g s)[i]?=some p) (hj:(l8 g s)[j]?=some q) (hp:k∈p) (hq:k∈q):i=j:=by
 unfold l8 b4W at hi hj;rw[List.getElem?_map,Option.map_eq_some_iff]at hi hj;obtain⟨a,ha,rfl⟩:=hi;obtain⟨b,hb,rfl⟩:=hj;have e:a=b:=by rw[←(B4.1 hp).2,←(B4.1 hq).2]
 subst e;have hn:(P6 (a2T g s) g.Nodes.toNat).Nodup:=by unfold P6;exact List.Pairwise.sublist List.filter_sublist List.nodup_range
 exact(List.getElem?_inj (List.getElem?_eq_some_iff.1 ha).1 hn).1 (by rw[ha,hb])
theorem a9e (hnt:o8 g s) {k:Nat} (hk:k<g.Nodes.toNat):(l8 g s)[pix (l8 g s) k]?=some (s6 g s k):=by
 obtain⟨p,hp,hkp⟩:=List.mem_flatten.1 (G0 hnt hk);have hl:pix (l8 g s) k<(l8 g s).length:=List.findIdx_lt_length_of_exists ⟨p,hp,by simpa using hkp⟩;have hm:k∈(l8 g s)[pix (l8 g s) k]:=by
  have:=List.findIdx_getElem (xs:=l8 g s) (p:=fun p=>decide (k∈p)) (w:=hl);exact of_decide_eq_true this
 rw[List.getElem?_eq_getElem hl];exact congrArg some (G1 (List.getElem_mem hl) hm)
theorem b8g {i k:Nat} {p:List Nat} (hnt:o8 g s) (hp:(l8 g s)[i]?=some p) (hk:k∈p):pix (l8 g s) k=i:=by
 have hpm:=List.mem_of_getElem? hp;have h1:=a9e hnt (Z3 hpm hk);exact b6r h1 hp (by rw[←G1 hpm hk];exact hk) hk
end
theorem b1J {l:List Ld} {of sv:List Bool} {q:Ld→Bool}:∀{n:Nat},(∀i,i<n→bAt of i=(bAt sv i&&q (ldA l i)))→leL l of (fun _=>true) n=leL l sv q n
 |0,_=>rfl
 |n+1,h=>by
  rw[N1,N1,b1J fun i hi=>h i (by omega)];unfold leS;rw[h n (by omega)];generalize leL l sv q n=o
  cases bAt sv n<;>cases q (ldA l n)<;>simp
theorem a9f {g:Gr} {s:Sta} {vf:Nat→Fr} {l:List Ld} {sv:List Bool} (x:Int):∀n,ibt (M0 g s vf l sv n) x=(List.range n).any fun j=>a2y g vf l sv j&&decide (x∈upN (s6 g s (ldA l j).At.toNat))
 |0=>by simp[M0,b3t]
 | n+1=>by
  rw[L5,List.range_succ,List.any_append,←a9f x n];unfold b7P
  cases h:a2y g vf l sv n with
  |true=>
   rw[if_pos rfl,a1B,Bool.or_comm];simp[h]
  |false=>rw[if_neg (by simp)];simp[h]
def paR (N:Nat) (L:List (List Nat)) (done:List Nat):List Int:=rwF N fun x=>((if x∈done then pix L x else 0:Nat):Int)
def suR (us:Kvs) (L:List (List Nat)) (i:Nat) (c:Int):List Int:=rwF L.length fun q=>if q<i then B3 us (L.getD q [])else if q=i then c else 0
def alR (g:Gr) (s:Sta) (L:List (List Nat)) (i:Nat):List Bool:=rwF L.length fun q=>if q<i then decide (0<(n8 g s (upN (L.getD q []))).length)else false
section
variable {g:Gr} {s:Sta} {us:Kvs} {N:Nat} {L:List (List Nat)} {done:List Nat} {i:Nat} {c:Int}
theorem c0v:(paR N L done).length=N:=N5 _ _
theorem b8B:(suR us L i c).length=L.length:=N5 _ _
theorem b9P:(alR g s L i).length=L.length:=N5 _ _
theorem c0w {k:Nat} (hk:k<N) (hd:k∈done):(paR N L done)[k]?=some (pix L k:Int):=by
 unfold paR;rw[M4 hk,if_pos hd]
theorem b8G {k:Nat} (h:pix L k=i):(paR N L done).set k (i:Int)=paR N L (done++[k]):=by
 unfold paR;rw[a2S];refine D2 fun x _=>?_
 by_cases e:x=k
 ·rw[if_pos e,if_pos (by rw[e];simp),e,h]
 ·rw[if_neg e];have:(x∈done++[k])↔x∈done:=by simp[e]
  simp only[this]
theorem c0d (hi:i<L.length):(suR us L i c)[i]?=some c:=by
 unfold suR;rw[M4 hi,if_neg (by omega),if_pos rfl]
theorem b6D {q:Nat} {p:List Nat} (h:L[q]?=some p):(suR us L L.length c)[q]?=some (B3 us p):=by
 have hq:=(List.getElem?_eq_some_iff.1 h).1;unfold suR;rw[M4 hq,if_pos hq];simp[h]
theorem b8K {c':Int}:(suR us L i c).set i c'=suR us L i c':=by
 unfold suR;rw[a2S];refine D2 fun x _=>?_
 by_cases e:x=i
 ·rw[if_pos e,if_neg (by omega),if_pos e]
 ·rw[if_neg e,if_neg e,if_neg e]
theorem b6K {p:List Nat} (h:L[i]?=some p):suR us L i (B3 us p)=suR us L (i+1) 0:=by
 unfold suR;refine D2 fun x _=>?_
 by_cases e:x=i
 ·rw[if_neg (by omega),if_pos e,if_pos (by omega),e];simp[h]
 ·by_cases e2:x<i
  ·rw[if_pos e2,if_pos (by omega)]
  ·rw[if_neg e2,if_neg e,if_neg (by omega)];simp
theorem b9O {p:List Nat} (h:L[i]?=some p):(alR g s L i).set i (decide (0<(n8 g s (upN p)).length))=alR g s L (i+1):=by
 unfold alR;rw[a2S];refine D2 fun x _=>?_
 by_cases e:x=i
 ·rw[if_pos e,if_pos (by omega),e];simp[h]
 ·rw[if_neg e]
  by_cases e2:x<i
  ·rw[if_pos e2,if_pos (by omega)]
  ·rw[if_neg e2,if_neg (by omega)]
theorem b6x {q:Nat} {p:List Nat} (h:L[q]?=some p):(alR g s L L.length)[q]?=some (decide (0<(n8 g s (upN p)).length)):=by
 have hq:=(List.getElem?_eq_some_iff.1 h).1;unfold alR;rw[M4 hq,if_pos hq];simp[h]
theorem b5M:(paR N L []).map i9=List.replicate N [AV.v (Value.int .i64 0)]:=(c3z N _ fun _=>by simp).symm
theorem b5A:(suR us L 0 0).map i9=List.replicate L.length [AV.v (Value.int .i64 0)]:=(c3z _ _ fun k=>by simp).symm
theorem b6p:(alR g s L 0).map i8=List.replicate L.length [AV.v (Value.bool false)]:=by
 rw[c3f];unfold alR;simp
end
def ofR (n:Nat) (f h:Nat→Bool) (i:Nat):List Bool:=rwF n fun q=>if q<i then f q else h q
section
variable {n:Nat} {f h:Nat→Bool} {i:Nat}
theorem a4U:(ofR n f h i).length=n:=N5 _ _
theorem b4Q {b:Bool} (e:b=f i):(ofR n f h i).set i b=ofR n f h (i+1):=by
 unfold ofR;rw[a2S];refine D2 fun x _=>?_
 by_cases e2:x=i
 ·rw[if_pos e2,if_pos (by omega),e2,e]
 ·rw[if_neg e2]
  by_cases e3:x<i
  ·rw[if_pos e3,if_pos (by omega)]
  ·rw[if_neg e3,if_neg (by omega)]
theorem a8p:ofR n f h n=rwF n f:=D2 fun x hx=>if_pos hx
theorem a9Y:ofR n f h 0=rwF n h:=D2 fun x hx=>if_neg (by omega)
theorem b4I (hi:i<n):bAt (rwF n f) i=f i:=b7Z (M4 hi)
end
theorem find_some {n i:Nat} {f:Nat→Bool} (hi:i<n) (h:f i=true) (hn:∀j,j<i→f j=false):(List.range n).find? f=some i:=by
 rw[List.find?_range_eq_some];exact⟨h,List.mem_range.2 hi,fun j hj=>by simp[hn j hj]⟩
theorem b1G {n:Nat} {f:Nat→Bool} (hn:∀j,j<n→f j=false):(List.range n).find? f=none:=by
 rw[List.find?_eq_none];intro j hj;simp[hn j (List.mem_range.1 hj)]
def lwR (m:Nat) (C:Nat→Bool) (kx:Nat→Nat) (i:Nat):List Bool:=rwF m fun q=>(List.range i).any fun j=>C j&&decide (kx j=q)
section
variable {m i:Nat} {C:Nat→Bool} {kx:Nat→Nat}
theorem b9y:(lwR m C kx i).length=m:=N5 _ _
theorem b6Q:(lwR m C kx 0).map i8=List.replicate m [AV.v (Value.bool false)]:=by rw[c3f];rfl
theorem c1T (h:C i=true):(lwR m C kx i).set (kx i) true=lwR m C kx (i+1):=by
 unfold lwR;rw[a2S];refine D2 fun x _=>?_;rw[List.range_succ,List.any_append]
 by_cases e:x=kx i
 ·rw[if_pos e];simp[h,e]
 ·rw[if_neg e];have:decide (kx i=x)=false:=decide_eq_false fun h=>e h.symm;simp[this]
theorem b8Y (h:C i=false):lwR m C kx (i+1)=lwR m C kx i:=by
 unfold lwR;refine D2 fun x _=>?_;rw[List.range_succ,List.any_append];simp[h]
theorem b8U {q:Nat} (hq:q<m):(lwR m C kx i)[q]?=some ((List.range i).any fun j=>C j&&decide (kx j=q)):=M4 hq
end
theorem b8C {g:Gr} {s:Sta} (hnt:o8 g s) {a b:Nat} (ha:a<g.Nodes.toNat) (hb:b<g.Nodes.toNat):b∈s6 g s a↔pix (l8 g s) a=pix (l8 g s) b:=by
 have h1:=a9e (s:=s) hnt ha;have h2:=a9e (s:=s) hnt hb;constructor
 ·intro h;exact(b8g hnt h1 h).symm
 ·intro h;rw[h,h2]at h1;rw[←Option.some.inj h1];unfold s6;rw[B4];exact⟨hb,rfl⟩
theorem a9i {α:Type} {f h:α→Bool}:∀{l:List α},(∀j∈l,f j=h j)→l.any f=l.any h
 |[],_=>rfl
 |x::l,e=>by rw[List.any_cons,List.any_cons,e x (by simp),a9i fun j hj=>e j (by simp[hj])]
theorem b7q {g:Gr} {fs:List Fr}:∀{n:Nat},0≤(trL g fs n).1→(trL g fs n).2=ovr g fs (trL g fs n).1.toNat
 |0,h=>by simp[trL]at h
 |n+1,h=>by
  rw[W9]at h ⊢;unfold trS at h ⊢
  split
  ·simp
  ·rename_i hc;rw[if_neg hc]at h;exact b7q h
def a6h (g:Gr) (s:Sta) (l:List Ld) (sv:List Bool):Option Cu:=
 match (List.range l.length).find? (B8 g s l sv)with
 |some i=>some ⟨1,i,⟨0,1⟩⟩
 |none=>
  if 0≤leL l sv (O8 g s (tkK l sv)) l.length then some ⟨2,leL l sv (O8 g s (tkK l sv)) l.length,⟨(ldA l (leL l sv (O8 g s (tkK l sv)) l.length).toNat).Units,1⟩⟩
  else if 0≤leL l sv (Y2 (M0 g s (vfS g s (tkK l sv)) l sv l.length)) l.length then some ⟨3,leL l sv (Y2 (M0 g s (vfS g s (tkK l sv)) l sv l.length)) l.length,vfS g s (tkK l sv) (ldA l (leL l sv (Y2 (M0 g s (vfS g s (tkK l sv)) l sv l.length)) l.length).toNat).At.toNat⟩
  else if 0≤(trL g (flA g s (vfS g s (tkK l sv))) g.Feeds.length).1 then some ⟨4,(trL g (flA g s (vfS g s (tkK l sv))) g.Feeds.length).1,frA (flA g s (vfS g s (tkK l sv))) (trL g (flA g s (vfS g s (tkK l sv))) g.Feeds.length).1.toNat⟩
  else none
def a7F:Option Cu→AV
 |some c=> .tup [.agg c.cells,Bo true]
 |none=> .tup [.agg (Cu.cells ⟨0,0,⟨0,0⟩⟩),Bo false]
end Go.Cur
end
