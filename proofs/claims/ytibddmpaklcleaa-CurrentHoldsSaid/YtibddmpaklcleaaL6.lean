import Derived.Test.YtibddmpaklcleaaL5
set_option maxRecDepth 100000
set_option maxHeartbeats 8000000
set_option linter.unusedVariables false
set_option linter.unusedSimpArgs false
section
namespace Go.Cur
open Go.AM Go.Proofs
def y2 (wi:List Bool) (ws:List Int):List Bool:=ws.foldl (fun b w=>b.set w.toNat true) wi
theorem a3q {wi:List Bool} {ws:List Int} {k:Nat} {w:Int} (h:ws[k]?=some w):y2 wi (ws.take (k+1))=(y2 wi (ws.take k)).set w.toNat true:=by
 unfold y2;rw[List.take_add_one,h,List.foldl_append];rfl
theorem P5:∀(ws:List Int) (wi:List Bool),(y2 wi ws).length=wi.length
 |[],wi=>rfl
 |w::ws,wi=>by
  have:=P5 ws (wi.set w.toNat true);unfold y2 at this ⊢;rw[List.foldl_cons,this,List.length_set]
def rlB (g:Gr) (s:Sta) (ws:List Int) (l:List Ld):Bool:=decide ((C9 g (y2 s.Wires ws) l s.Feeds).cuts.length=0)
theorem a4B (c:List Cu):((c.length:Int)==0)=decide (c=[]):=by
 cases c with
 |nil=>rfl
 |cons a t=>
  have:¬((a::t).length:Int)=0:=by simp only[List.length_cons];omega
  rw[beq_eq_false_iff_ne.2 this];simp
theorem a1v {g:Gr} {wi:List Bool} {l:List Ld} (h:A9 g wi l) (fe:List Bool):B6 g ⟨fe,wi⟩=false:=by
 unfold B6;rw[List.any_eq_false];intro p hp;have:=h.p5' fe p hp;simp;omega
theorem a7T (g:Gr) (s:Sta) (ws:List Int) (l:List Ld) (hnt:o8 g s) (hw:∀w∈ws,0≤w∧w<s.Wires.length) (h:A9 g (y2 s.Wires ws) l) (hwl:ws.length≤1000) (hne:s.Feeds≠[]) (hwn:s.Wires≠[]):
  d4 Try.prog 60 [net g s,iL ws,lL l] (Bo (rlB g s ws l)):=by
 have hol:=P5 ws s.Wires;have hnt2:o8 g ⟨s.Feeds,y2 s.Wires ws⟩:=⟨hnt.gr,hnt.sf,by rw[hol];exact hnt.sw⟩;have hlg:=W4 g ⟨s.Feeds,y2 s.Wires ws⟩ hnt2 (h.few _);rw[a1v h]at hlg;have hbd:=r6 hnt.gr;have hsf:=hnt.sf;have hsw:=hnt.sw;have hst:=a2y g (y2 s.Wires ws) l s.Feeds h hsf _ rfl;have hrl:rlB g s ws l=decide ((C9 g (y2 s.Wires ws) l s.Feeds).cuts.length=0):=rfl;generalize C9 g (y2 s.Wires ws) l s.Feeds=Z at hst hrl;rw[hrl];have htw:List.take s.Wires.length ((y2 s.Wires ws).map i6)=(y2 s.Wires ws).map i6:=List.take_of_length_le (by simp;omega);refine d4.of_bodyG Try.func60 rfl (by decide) (by simp[Try.ntmps60]) ?_;intro J hJ;simp only[Try.ntmps60,Try.results60];refine gS fun K hK=>?_;simp -dsimp;apply hK;clear hK K;refine q9 k7 rfl (by decide) rfl rfl fun K hK=>?_;simp -dsimp;refine J7 (c0H s.Feeds hne (by omega)) ?_;simp -dsimp;refine J7 (c0H s.Wires hwn (by omega)) ?_;simp -dsimp;refine hK _ _ _ (by decide+kernel) ?_;clear hK K;refine b6 fun K1 hK1=>?_;refine gS fun K hK=>?_;simp -dsimp;apply hK;clear hK K;refine d5 ?_;refine b5 [2,7,29,30,31] (Or.inr (by simp)) ?_;simp only[zP,Nat.reduceEqDiff,reduceIte];refine f5 [2,7,29,30] (α:=Nat) (fun k=>[(31,I k)]) (fun k=>[some (.els 1 (s.Feeds.map i6)),some (.els 1 ((y2 s.Wires (ws.take k)).map i6)),some (.els 6 [[I g.Nodes, .lst 4 (g.Wires.map Wr.cells), .lst 4 (g.Feeds.map Fd.cells),I g.Least, .row 0 0 s.Feeds.length, .row 1 0 s.Wires.length]])]) (fun k=>k≤ws.length) (fun k=>ws.length-k) 0 ?_ ?_ ?_
 ·exact Nat.zero_le _
 ·exact l9 (d8 [some 0,some 1,some 2] rfl (by simp) (by simp[y2])) (by simp)
 rintro k k1;simp only[zP,Nat.reduceEqDiff,reduceIte];refine gS fun K hK=>?_;simp -dsimp;apply hK;clear hK K;refine b6 fun K2 hK2=>?_;refine d6 rfl (fun hc0=>?_) (fun hc0=>?_)
 ·have hkl:k<ws.length:=by simpa using hc0
  have wk:=zW k (by omega);obtain⟨w,hwk⟩:∃w,ws[k]?=some w:=⟨_,List.getElem?_eq_getElem hkl⟩;obtain⟨hw0,hw1⟩:=hw w (List.mem_of_getElem? hwk);have hos:=a3q (wi:=s.Wires) hwk;have hok:=P5 (ws.take k) s.Wires;obtain⟨wn,rfl⟩:∃wn:Nat,w=wn:=⟨w.toNat,by omega⟩;rw[Int.toNat_natCast]at hos;refine d7 ?_;simp only[zT,reduceIte,Nat.reduceEqDiff];refine hK2 _ _ ?_;refine b5 [2,7,29,30,31] (Or.inr (by simp)) ?_;simp only[zP,Nat.reduceEqDiff,reduceIte];refine b6 fun K3 hK3=>?_;refine d5 ?_;refine gS fun K hK=>?_;simp -dsimp [hwk];apply hK;clear hK K;refine gR fun K hK=>?_;simp -dsimp [hok,(by omega:wn<s.Wires.length)];apply hK;clear hK K;simp only[zT,reduceIte,Nat.reduceEqDiff];refine hK3 _ _ ?_;refine b5 [2,7,29,30,31] (Or.inr (by simp)) ?_;simp only[zP,Nat.reduceEqDiff,reduceIte];refine gR fun K hK=>?_;simp -dsimp [wk];apply hK;clear hK K;simp only[zT,reduceIte,Nat.reduceEqDiff];exact⟨k+1,by omega,by omega,l9 (d8 [some 0,some 1,some 2] rfl (by simp) (by simp[hos,List.map_set])) (by simp)⟩
 ·have hke:k=ws.length:=by have hn:¬k<ws.length:=(by simpa using hc0);omega
  subst hke;rw[List.take_of_length_le (Nat.le_refl _)];refine f8 ?_;simp only[zT,reduceIte,Nat.reduceEqDiff];refine hK1 _ _ ?_;refine b5 [2,7] (Or.inr (by simp)) ?_;simp only[zP,Nat.reduceEqDiff,reduceIte];refine o5 (l9 (B9 (T':=[(2,lL l),(7, .ptr 0 0 0)]) (H':=[hMa g s.Feeds (y2 s.Wires ws),some (.els 1 (s.Feeds.map i6))]) [some 2,some 0] rfl ⟨.inr (by simp), .inr (by simp),trivial⟩ (by simp[htw,hol])) (by simp)) ?_
  ·refine gS fun K hK=>?_;simp -dsimp;refine b8 _ (hlg) (by simp) ?_;simp -dsimp;refine i8 [0] [1] [some 0,none,some 1,some 2,some 3,some 4] (hst) (by decide) rfl (by simp) (by simp) rfl (by simp) ?_;simp -dsimp;apply hK;clear hK K;exact i5 (by simp[a4B,y3,m6])
theorem a6A (g:Gr) (s:Sta) (l:List Ld) (hnt:o8 g s) (h:A9 g s.Wires l) (hne:s.Feeds≠[]) (hwe:s.Wires=[]):
  d4 Try.prog 60 [net g s,iL [],lL l] (Bo (rlB g s [] l)):=by
 have hlg:=W4 g ⟨s.Feeds,s.Wires⟩ hnt (h.few _);rw[a1v h]at hlg;have hbd:=r6 hnt.gr;have hsf:=hnt.sf;have hsw:=hnt.sw;have hst:=a2y g s.Wires l s.Feeds h hsf _ rfl;have hrl:rlB g s [] l=decide ((C9 g s.Wires l s.Feeds).cuts.length=0):=rfl;generalize C9 g s.Wires l s.Feeds=Z at hst hrl;rw[hrl];refine d4.of_bodyG Try.func60 rfl (by decide) (by simp[Try.ntmps60]) ?_;intro J hJ;simp only[Try.ntmps60,Try.results60];refine gS fun K hK=>?_;simp -dsimp;apply hK;clear hK K;refine q9 k7 rfl (by decide) rfl rfl fun K hK=>?_;simp -dsimp;refine J7 (c0H s.Feeds hne (by omega)) ?_;simp -dsimp;refine b8 _ (y9 s.Wires (by omega)) (by simp) ?_;simp -dsimp;refine hK _ _ _ (by decide+kernel) ?_;clear hK K;refine b6 fun K1 hK1=>?_;refine gS fun K hK=>?_;simp -dsimp;apply hK;clear hK K;refine d5 ?_;refine b5 [2,7,29,30,31] (Or.inr (by simp)) ?_;simp only[zP,Nat.reduceEqDiff,reduceIte];refine f5 [2,7,29,30] (α:=Nat) (fun k=>[(31,I 0)]) (fun k=>[some (.els 1 (s.Feeds.map i6)),some (.els 6 [[I g.Nodes, .lst 4 (g.Wires.map Wr.cells), .lst 4 (g.Feeds.map Fd.cells),I g.Least, .row 0 0 s.Feeds.length,bL s.Wires]])]) (fun k=>True) (fun k=>0) 0 ?_ ?_ ?_
 ·trivial
 ·exact l9 (d8 [some 0,some 1] rfl (by simp) (by simp)) (by simp)
 rintro k k1;simp only[zP,Nat.reduceEqDiff,reduceIte];refine gS fun K hK=>?_;simp -dsimp;apply hK;clear hK K;refine b6 fun K2 hK2=>?_;refine d6 rfl (fun hc0=>?_) (fun hc0=>?_)
 ·simp at hc0
 ·refine f8 ?_;simp only[zT,reduceIte,Nat.reduceEqDiff];refine hK1 _ _ ?_;refine b5 [2,7] (Or.inr (by simp)) ?_;simp only[zP,Nat.reduceEqDiff,reduceIte];refine o5 (l9 (d8 (T':=[(2,lL l),(7, .ptr 0 0 0)]) (H':=[hMa g s.Feeds s.Wires,some (.els 1 (s.Feeds.map i6))]) [some 1,some 0] rfl (by simp) (by simp)) (by simp)) ?_
  ·refine gS fun K hK=>?_;simp -dsimp;refine b8 _ (hlg) (by simp) ?_;simp -dsimp;refine i8 [0] [1] [some 0,none,some 1,some 2,some 3,some 4] (hst) (by decide) rfl (by simp) (by simp) rfl (by simp) ?_;simp -dsimp;apply hK;clear hK K;exact i5 (by simp[a4B,y3,m6])
theorem a8s (g:Gr) (s:Sta) (ws:List Int) (l:List Ld) (hnt:o8 g s) (hw:∀w∈ws,0≤w∧w<s.Wires.length) (h:A9 g (y2 s.Wires ws) l) (hwl:ws.length≤1000) (hne:s.Feeds=[]) (hwn:s.Wires≠[]):
  d4 Try.prog 60 [net g s,iL ws,lL l] (Bo (rlB g s ws l)):=by
 have hol:=P5 ws s.Wires;have hnt2:o8 g ⟨s.Feeds,y2 s.Wires ws⟩:=⟨hnt.gr,hnt.sf,by rw[hol];exact hnt.sw⟩;have hlg:=W4 g ⟨s.Feeds,y2 s.Wires ws⟩ hnt2 (h.few _);rw[a1v h]at hlg;have hbd:=r6 hnt.gr;have hsf:=hnt.sf;have hsw:=hnt.sw;change d4 _ _ [.iptr [I g.Nodes, .lst 4 (g.Wires.map Wr.cells), .lst 4 (g.Feeds.map Fd.cells),I g.Least,bL s.Feeds,bL (y2 s.Wires ws)]] _ at hlg;rw[hne]at hlg;have hst:=a6H g (y2 s.Wires ws) l s.Feeds h hsf hne _ rfl;have hrl:rlB g s ws l=decide ((C9 g (y2 s.Wires ws) l s.Feeds).cuts.length=0):=rfl;generalize C9 g (y2 s.Wires ws) l s.Feeds=Z at hst hrl;rw[hrl];have htw:List.take s.Wires.length ((y2 s.Wires ws).map i6)=(y2 s.Wires ws).map i6:=List.take_of_length_le (by simp;omega);refine d4.of_bodyG Try.func60 rfl (by decide) (by simp[Try.ntmps60]) ?_;intro J hJ;simp only[Try.ntmps60,Try.results60];refine gS fun K hK=>?_;simp -dsimp;apply hK;clear hK K;refine q9 k7 rfl (by decide) rfl rfl fun K hK=>?_;simp -dsimp;refine b8 _ (y9 s.Feeds (by omega)) (by simp) ?_;simp -dsimp;refine J7 (c0H s.Wires hwn (by omega)) ?_;simp -dsimp;refine hK _ _ _ (by decide+kernel) ?_;clear hK K;refine b6 fun K1 hK1=>?_;refine gS fun K hK=>?_;simp -dsimp;apply hK;clear hK K;refine d5 ?_;refine b5 [2,7,29,30,31] (Or.inr (by simp)) ?_;simp only[zP,Nat.reduceEqDiff,reduceIte];refine f5 [2,7,29,30] (α:=Nat) (fun k=>[(31,I k)]) (fun k=>[some (.els 1 ((y2 s.Wires (ws.take k)).map i6)),some (.els 6 [[I g.Nodes, .lst 4 (g.Wires.map Wr.cells), .lst 4 (g.Feeds.map Fd.cells),I g.Least,bL s.Feeds, .row 0 0 s.Wires.length]])]) (fun k=>k≤ws.length) (fun k=>ws.length-k) 0 ?_ ?_ ?_
 ·exact Nat.zero_le _
 ·exact l9 (d8 [some 0,some 1] rfl (by simp) (by simp[y2])) (by simp)
 rintro k k1;simp only[zP,Nat.reduceEqDiff,reduceIte];refine gS fun K hK=>?_;simp -dsimp;apply hK;clear hK K;refine b6 fun K2 hK2=>?_;refine d6 rfl (fun hc0=>?_) (fun hc0=>?_)
 ·have hkl:k<ws.length:=by simpa using hc0
  have wk:=zW k (by omega);obtain⟨w,hwk⟩:∃w,ws[k]?=some w:=⟨_,List.getElem?_eq_getElem hkl⟩;obtain⟨hw0,hw1⟩:=hw w (List.mem_of_getElem? hwk);have hos:=a3q (wi:=s.Wires) hwk;have hok:=P5 (ws.take k) s.Wires;obtain⟨wn,rfl⟩:∃wn:Nat,w=wn:=⟨w.toNat,by omega⟩;rw[Int.toNat_natCast]at hos;refine d7 ?_;simp only[zT,reduceIte,Nat.reduceEqDiff];refine hK2 _ _ ?_;refine b5 [2,7,29,30,31] (Or.inr (by simp)) ?_;simp only[zP,Nat.reduceEqDiff,reduceIte];refine b6 fun K3 hK3=>?_;refine d5 ?_;refine gS fun K hK=>?_;simp -dsimp [hwk];apply hK;clear hK K;refine gR fun K hK=>?_;simp -dsimp [hok,(by omega:wn<s.Wires.length)];apply hK;clear hK K;simp only[zT,reduceIte,Nat.reduceEqDiff];refine hK3 _ _ ?_;refine b5 [2,7,29,30,31] (Or.inr (by simp)) ?_;simp only[zP,Nat.reduceEqDiff,reduceIte];refine gR fun K hK=>?_;simp -dsimp [wk];apply hK;clear hK K;simp only[zT,reduceIte,Nat.reduceEqDiff];exact⟨k+1,by omega,by omega,l9 (d8 [some 0,some 1] rfl (by simp) (by simp[hos,List.map_set])) (by simp)⟩
 ·have hke:k=ws.length:=by have hn:¬k<ws.length:=(by simpa using hc0);omega
  subst hke;rw[List.take_of_length_le (Nat.le_refl _)];refine f8 ?_;simp only[zT,reduceIte,Nat.reduceEqDiff];refine hK1 _ _ ?_;refine b5 [2,7] (Or.inr (by simp)) ?_;simp only[zP,Nat.reduceEqDiff,reduceIte];refine o5 (l9 (B9 (T':=[(2,lL l),(7, .ptr 0 0 0)]) (H':=[hMb g s.Feeds (y2 s.Wires ws)]) [some 1] rfl ⟨.inr (by simp), .inr (by simp),trivial⟩ (by simp[htw,hol,hne])) (by simp)) ?_
  ·refine gS fun K hK=>?_;simp -dsimp;refine b8 _ (hlg) (by simp) ?_;simp -dsimp;refine i8 [0] [] [some 0,some 1,some 2,some 3] (hst) (by decide) rfl (by simp) (by simp) rfl (by simp) ?_;simp -dsimp;apply hK;clear hK K;exact i5 (by simp[a4B,y3,m6])
theorem a6l (g:Gr) (s:Sta) (l:List Ld) (hnt:o8 g s) (h:A9 g s.Wires l) (hne:s.Feeds=[]) (hwe:s.Wires=[]):
  d4 Try.prog 60 [net g s,iL [],lL l] (Bo (rlB g s [] l)):=by
 have hlg:=W4 g ⟨s.Feeds,s.Wires⟩ hnt (h.few _);rw[a1v h]at hlg;have hbd:=r6 hnt.gr;have hsf:=hnt.sf;have hsw:=hnt.sw;change d4 _ _ [.iptr [I g.Nodes, .lst 4 (g.Wires.map Wr.cells), .lst 4 (g.Feeds.map Fd.cells),I g.Least,bL s.Feeds,bL s.Wires]] _ at hlg;rw[hne]at hlg;have hst:=a6H g s.Wires l s.Feeds h hsf hne _ rfl;have hrl:rlB g s [] l=decide ((C9 g s.Wires l s.Feeds).cuts.length=0):=rfl;generalize C9 g s.Wires l s.Feeds=Z at hst hrl;rw[hrl];refine d4.of_bodyG Try.func60 rfl (by decide) (by simp[Try.ntmps60]) ?_;intro J hJ;simp only[Try.ntmps60,Try.results60];refine gS fun K hK=>?_;simp -dsimp;apply hK;clear hK K;refine q9 k7 rfl (by decide) rfl rfl fun K hK=>?_;simp -dsimp;refine b8 _ (y9 s.Feeds (by omega)) (by simp) ?_;simp -dsimp;refine b8 _ (y9 s.Wires (by omega)) (by simp) ?_;simp -dsimp;refine hK _ _ _ (by decide+kernel) ?_;clear hK K;refine b6 fun K1 hK1=>?_;refine gS fun K hK=>?_;simp -dsimp;apply hK;clear hK K;refine d5 ?_;refine b5 [2,7,29,30,31] (Or.inr (by simp)) ?_;simp only[zP,Nat.reduceEqDiff,reduceIte];refine f5 [2,7,29,30] (α:=Nat) (fun k=>[(31,I 0)]) (fun k=>[some (.els 6 [[I g.Nodes, .lst 4 (g.Wires.map Wr.cells), .lst 4 (g.Feeds.map Fd.cells),I g.Least,bL s.Feeds,bL s.Wires]])]) (fun k=>True) (fun k=>0) 0 ?_ ?_ ?_
 ·trivial
 ·exact l9 (d8 [some 0] rfl (by simp) (by simp)) (by simp)
 rintro k k1;simp only[zP,Nat.reduceEqDiff,reduceIte];refine gS fun K hK=>?_;simp -dsimp;apply hK;clear hK K;refine b6 fun K2 hK2=>?_;refine d6 rfl (fun hc0=>?_) (fun hc0=>?_)
 ·simp at hc0
 ·refine f8 ?_;simp only[zT,reduceIte,Nat.reduceEqDiff];refine hK1 _ _ ?_;refine b5 [2,7] (Or.inr (by simp)) ?_;simp only[zP,Nat.reduceEqDiff,reduceIte];refine o5 (l9 (d8 (T':=[(2,lL l),(7, .ptr 0 0 0)]) (H':=[hMb g s.Feeds s.Wires]) [some 0] rfl (by simp) (by simp[hne])) (by simp)) ?_
  ·refine gS fun K hK=>?_;simp -dsimp;refine b8 _ (hlg) (by simp) ?_;simp -dsimp;refine i8 [0] [] [some 0,some 1,some 2,some 3] (hst) (by decide) rfl (by simp) (by simp) rfl (by simp) ?_;simp -dsimp;apply hK;clear hK K;exact i5 (by simp[a4B,y3,m6])
end Go.Cur
end
section
namespace Go.Cur
open Go.AM Go.Proofs
theorem c1F (g:Gr) (s:Sta) (ws:List Int) (l:List Ld) (hnt:o8 g s) (hw:∀w∈ws,0≤w∧w<s.Wires.length) (h:A9 g (y2 s.Wires ws) l) (hwl:ws.length≤1000):
  d4 Try.prog 60 [net g s,iL ws,lL l] (Bo (rlB g s ws l)):=by
 by_cases hwn:s.Wires=[]
 ·have hws:ws=[]:=by
   cases ws with
   |nil=>rfl
   |cons w ws=>
    have:=hw w (by simp);rw[hwn]at this;simp at this;omega
  subst hws
  by_cases hf:s.Feeds=[]
  ·exact a6l g s l hnt h hf hwn
  ·exact a6A g s l hnt h hf hwn
 ·by_cases hf:s.Feeds=[]
  ·exact a8s g s ws l hnt hw h hwl hf hwn
  ·exact a7T g s ws l hnt hw h hwl hf hwn
def fA:Option (List Int)→AV
 |none=> .v (.slice none 0 0)
 |some c=>iL c
@[simp] theorem c2i (g:List (Option Nat)) (k:Nat) (o:Option (List Int)):m5 g k (fA o)=fA o:=by
 cases o<;>cases k<;>rfl
@[simp] theorem c1h (k:Nat) (o:Option (List Int)):AV.noRef k (fA o)=true:=by
 cases o<;>cases k<;>rfl
theorem b9d (c:List Int):fA (some c)=iL c:=rfl
theorem b3T:fA none= .v (.slice none 0 0):=rfl
def chA (c:List Int):Option (List Int):=if c=[]then none else some c
def chF (rl:List Int→Bool):Nat→List Int→List Int→Option (List Int)→Bool×Option (List Int)
 |0,c,_,_=>(rl c,chA c)
 |d+1,c,r,f=>(List.range r.length).foldl (fun q i=>if q.1=true then q else chF rl d (c++[at0 r (i:Nat)]) (r.drop (i+1)) q.2) (false,f)
def chS (rl:List Int→Bool) (d:Nat) (c r:List Int) (q:Bool×Option (List Int)) (i:Nat):Bool×Option (List Int):=if q.1=true then q else chF rl d (c++[at0 r (i:Nat)]) (r.drop (i+1)) q.2
theorem a9N (rl:List Int→Bool) (d:Nat) (c r:List Int) (f:Option (List Int)):chF rl (d+1) c r f=(List.range r.length).foldl (chS rl d c r) (false,f):=rfl
theorem a5f (rl:List Int→Bool) (d:Nat) (c r:List Int) (q:Bool×Option (List Int)) (hq:q.1=true):∀l:List Nat,l.foldl (chS rl d c r) q=q
 |[]=>rfl
 |i::l=>by
  rw[List.foldl_cons,show chS rl d c r q i=q from if_pos hq];exact a5f rl d c r q hq l
theorem W3 {α:Type} (f:α→Nat→α) (x:α) {i n:Nat} (h:i≤n):(List.range n).foldl f x=((List.range (n-i)).map (fun j=>i+j)).foldl f ((List.range i).foldl f x):=by
 rw[←List.foldl_append]
 congr 1
 rw[show n=i+(n-i)by omega,List.range_add];simp
abbrev chR (g:Gr) (s:Sta) (l:List Ld) (f:Option (List Int)):Hp:=[some (.els 1 [[fA f]]),some (.els 1 [[net g s]]),some (.els 1 [[lL l]]),some (.els 1 [[.clo 59 [.ptr 0 0 0, .ptr 1 0 0, .ptr 2 0 0, .ptr 3 0 0]]])]
theorem c1v (t:List Int) (hne:t≠[]) (hn:t.length≤1000):e9 Try.prog 61 [iL t] [] [] (.row 0 0 t.length) [] [some (.els 1 (t.map i4))]:=by
 have f1:D8 t.length 9:=j7 (by omega) (by omega);refine e9.of_bodyG [] Try.func61 rfl (by decide) (by simp[Try.ntmps61]) rfl rfl ?_;intro J hJ;simp only[Try.ntmps61,Try.results61];refine gS fun K hK=>?_;simp -dsimp;apply hK;clear hK K;refine b6 fun K1 hK1=>?_;refine gS fun K hK=>?_;simp -dsimp [hne];apply hK;clear hK K;refine d6 rfl (fun hc0=>?_) (fun hc0=>?_)
 ·simp at hc0
 ·refine d7 ?_;simp only[zT,reduceIte,Nat.reduceEqDiff];refine hK1 _ _ ?_;refine b5 [0] (Or.inr (by simp)) ?_;simp only[zP,Nat.reduceEqDiff,reduceIte];refine gS fun K hK=>?_;simp -dsimp [hne,f1];apply hK;clear hK K;exact i5 ⟨[some 0],rfl,by simp,by simp,by simp,by simp[y3,m6]⟩
theorem b1M (g:Gr) (s:Sta) (l:List Ld) (rl:List Int→Bool) (c r:List Int) (f:Option (List Int)) (hc:c≠[]) (hrl:d4 Try.prog 60 [net g s,iL c,lL l] (Bo (rl c))):
  e9 Try.prog 59 [.row 4 0 c.length,iL r,I 0, .ptr 0 0 0, .ptr 1 0 0, .ptr 2 0 0, .ptr 3 0 0] (chR g s l f) [some (.els 1 (c.map i4))] (Bo (rl c)) (chR g s l (some c)) []:=by
 have htc:List.take c.length (c.map i4)=c.map i4:=List.take_of_length_le (by simp);refine e9.of_bodyG [3,4,5,6] Try.func59 rfl (by decide) (by simp[Try.ntmps59]) rfl rfl ?_;intro J hJ;simp only[Try.ntmps59,Try.results59];refine gS fun K hK=>?_;simp -dsimp;apply hK;clear hK K;refine b6 fun K1 hK1=>?_;refine gS fun K hK=>?_;simp -dsimp;apply hK;clear hK K;refine d6 rfl (fun hc0=>?_) (fun hc0=>?_)
 ·refine gS fun K hK=>?_;simp -dsimp;apply hK;clear hK K;refine gS fun K hK=>?_;simp -dsimp [htc];refine b8 _ (hrl) (by simp) ?_;simp -dsimp [htc];apply hK;clear hK K;refine o5 (l9 (B9 (T':=[(3, .ptr 0 0 0),(4, .ptr 1 0 0),(5, .ptr 2 0 0),(6, .ptr 3 0 0),(10,Bo (rl c))]) (H':=chR g s l (some c)) [some 0,some 1,some 2,some 3] rfl ⟨.inr (by simp), .inr (by simp), .inr (by simp), .inr (by simp), .inr (by simp),trivial⟩ (by simp[htc,b9d])) (by simp)) ?_;exact i5 ⟨[some 0,some 1,some 2,some 3],rfl,by simp,by simp,by simp,by simp[y3,m6]⟩
 ·simp at hc0
theorem b0u (g:Gr) (s:Sta) (l:List Ld) (rl:List Int→Bool) (r:List Int) (f:Option (List Int)) (hrl:d4 Try.prog 60 [net g s, .v (.slice none 0 0),lL l] (Bo (rl []))):
  e9 Try.prog 59 [.v (.slice none 0 0),iL r,I 0, .ptr 0 0 0, .ptr 1 0 0, .ptr 2 0 0, .ptr 3 0 0] (chR g s l f) [] (Bo (rl [])) (chR g s l none) []:=by
 refine e9.of_bodyG [3,4,5,6] Try.func59 rfl (by decide) (by simp[Try.ntmps59]) rfl rfl ?_;intro J hJ;simp only[Try.ntmps59,Try.results59];refine gS fun K hK=>?_;simp -dsimp;apply hK;clear hK K;refine b6 fun K1 hK1=>?_;refine gS fun K hK=>?_;simp -dsimp;apply hK;clear hK K;refine d6 rfl (fun hc0=>?_) (fun hc0=>?_)
 ·refine gS fun K hK=>?_;simp -dsimp;apply hK;clear hK K;refine gS fun K hK=>?_;simp -dsimp;refine b8 _ (hrl) (by simp) ?_;simp -dsimp;apply hK;clear hK K;exact i5 ⟨[some 0,some 1,some 2,some 3],rfl,by simp,by simp[b3T],by simp,by simp[y3,m6]⟩
 ·simp at hc0
theorem b1E (g:Gr) (s:Sta) (l:List Ld) (rl:List Int→Bool) (d:Nat) (c r:List Int) (f:Option (List Int)) (hd:d≤100) (hc:c≠[]) (hcl:c.length≤900) (hr:r.length≤1000)
  (hb:∀(i:Nat) (f:Option (List Int)),i<r.length→e9 Try.prog 59 [.row 4 0 (c++[at0 r i]).length,iL (r.drop (i+1)),I d, .ptr 0 0 0, .ptr 1 0 0, .ptr 2 0 0, .ptr 3 0 0] (chR g s l f) [some (.els 1 ((c++[at0 r i]).map i4))] (Bo (chF rl d (c++[at0 r i]) (r.drop (i+1)) f).1) (chR g s l (chF rl d (c++[at0 r i]) (r.drop (i+1)) f).2) []):
  e9 Try.prog 59 [.row 4 0 c.length,iL r,I (d+1:Nat), .ptr 0 0 0, .ptr 1 0 0, .ptr 2 0 0, .ptr 3 0 0] (chR g s l f) [some (.els 1 (c.map i4))] (Bo (chF rl (d+1) c r f).1) (chR g s l (chF rl (d+1) c r f).2) []:=by
 have htc:List.take c.length (c.map i4)=c.map i4:=List.take_of_length_le (by simp);have f1:D8 (c.length+1) 9:=j7 (by omega) (by omega);rw[a9N];refine e9.of_bodyG [3,4,5,6] Try.func59 rfl (by decide) (by simp[Try.ntmps59]) rfl rfl ?_;intro J hJ;simp only[Try.ntmps59,Try.results59];refine gS fun K hK=>?_;simp -dsimp;apply hK;clear hK K;refine b6 fun K1 hK1=>?_;refine gS fun K hK=>?_;simp -dsimp;apply hK;clear hK K;refine d6 rfl (fun hc0=>?_) (fun hc0=>?_)
 ·exfalso;simp at hc0;omega
 ·refine d7 ?_;simp only[zT,reduceIte,Nat.reduceEqDiff];refine hK1 _ _ ?_;refine b5 [0,1,2,3,4,5,6] (Or.inr (by simp)) ?_;simp only[zP,Nat.reduceEqDiff,reduceIte];refine b6 fun K2 hK2=>?_;refine gS fun K hK=>?_;simp -dsimp;apply hK;clear hK K;refine d5 ?_;refine b5 [0,1,2,3,4,5,6,20,21,22] (Or.inr (by simp)) ?_;simp only[zP,Nat.reduceEqDiff,reduceIte];refine f5 [0,1,2,3,4,5,6,20,21] (α:=Nat×Option (List Int)) (fun x=>[(22,I x.1)]) (fun x=>chR g s l x.2++[some (.els 1 (c.map i4))]) (fun x=>x.1≤r.length∧(List.range x.1).foldl (chS rl d c r) (false,f)=(false,x.2)) (fun x=>r.length-x.1) (0,f) ?_ ?_ ?_
  ·exact⟨Nat.zero_le _,rfl⟩
  ·exact l9 (d8 [some 0,some 1,some 2,some 3,some 4] rfl (by simp) (by simp)) (by simp)
  rintro⟨i,fi⟩ ⟨k1,k2⟩;simp only at k1 k2 ⊢;simp only[zP,Nat.reduceEqDiff,reduceIte];refine gS fun K hK=>?_;simp -dsimp;apply hK;clear hK K;refine b6 fun K3 hK3=>?_;refine d6 rfl (fun hc1=>?_) (fun hc1=>?_)
  ·have hil:i<r.length:=by simpa using hc1
   have wi:=zW i (by omega);have wd:IntKind.i64.wrap (d:Int)=(d:Int):=f6 (by omega) (by omega);have gr:=A5 hil;have hcall:=hb i fi hil;have hst:(List.range (i+1)).foldl (chS rl d c r) (false,f)=chF rl d (c++[at0 r i]) (r.drop (i+1)) fi:=by rw[List.range_succ,List.foldl_append,k2];rfl
   generalize chF rl d (c++[at0 r i]) (r.drop (i+1)) fi=q at hcall hst;refine d7 ?_;simp only[zT,reduceIte,Nat.reduceEqDiff];refine hK3 _ _ ?_;refine b5 [0,1,2,3,4,5,6,20,21,22] (Or.inr (by simp)) ?_;simp only[zP,Nat.reduceEqDiff,reduceIte];refine b6 fun K4 hK4=>?_;refine d5 ?_;refine gS fun K hK=>?_;simp -dsimp [gr];apply hK;clear hK K;refine q9 k7 rfl (by decide) rfl rfl fun K hK=>?_;simp -dsimp [htc,wi,wd,f1,(by omega:(0:Int)≤(i:Int)+1),(by omega:i+1≤r.length)];refine D2 [] [] [none,none,none,none,none,some 0] (c1v c hc (by omega)) (by decide) rfl (by simp) (by simp) rfl (by simp) (by simp) (by simp) ?_;simp -dsimp [htc,wi,wd,f1,(by omega:(0:Int)≤(i:Int)+1),(by omega:i+1≤r.length)];refine i8 [0,1,2,3] [6] [some 0,some 1,some 2,some 3,none,none,none] (hcall) (by decide) rfl (by simp) (by simp) rfl (by simp) ?_;simp -dsimp [htc,wi,wd,f1,(by omega:(0:Int)≤(i:Int)+1),(by omega:i+1≤r.length)];refine hK _ _ _ (by decide+kernel) ?_;clear hK K;refine d6 rfl (fun hc2=>?_) (fun hc2=>?_)
   ·refine gS fun K hK=>?_;simp -dsimp;apply hK;clear hK K;have hfin:(List.range r.length).foldl (chS rl d c r) (false,f)=q:=by rw[W3 _ _ (show i+1≤r.length by omega),hst];exact a5f _ _ _ _ _ hc2 _
    rw[hfin];exact i5 ⟨[some 0,some 1,some 2,some 3],rfl,by simp,by simp,by simp,by simp[y3,m6,hc2]⟩
   ·refine d7 ?_;simp only[zT,reduceIte,Nat.reduceEqDiff];refine hK4 _ _ ?_;refine b5 [0,1,2,3,4,5,6,20,21,22] (Or.inr (by simp)) ?_;simp only[zP,Nat.reduceEqDiff,reduceIte];refine gR fun K hK=>?_;simp -dsimp [wi];apply hK;clear hK K;simp only[zT,reduceIte,Nat.reduceEqDiff];exact⟨(i+1,q.2),⟨by simp only;omega,by rw[hst];exact Prod.ext hc2 rfl⟩,by simp only;omega,l9 (d8 [some 0,some 1,some 2,some 3,some 4] rfl (by simp) (by simp)) (by simp)⟩
  ·have hie:i=r.length:=by have hn:¬i<r.length:=(by simpa using hc1);omega
   subst hie;refine f8 ?_;simp only[zT,reduceIte,Nat.reduceEqDiff];refine hK2 _ _ ?_;refine b5 [3,4,5,6] (Or.inr (by simp)) ?_;simp only[zP,Nat.reduceEqDiff,reduceIte];refine gS fun K hK=>?_;simp -dsimp;apply hK;clear hK K;rw[k2];exact i5 ⟨[some 0,some 1,some 2,some 3],rfl,by simp,by simp,by simp,by simp[y3,m6]⟩
theorem a7S:d4 Try.prog 61 [.v (.slice none 0 0)] (.v (.slice none 0 0)):=by
 refine d4.of_body Try.func61 rfl (by decide) (by simp[Try.ntmps61]) ?_;simp only[Try.ntmps61,Try.results61];refine aS fun K hK=>?_;simp -dsimp;apply hK;clear hK K;refine b9 fun K1 hK1=>?_;refine aS fun K hK=>?_;simp -dsimp;apply hK;clear hK K;refine d9 rfl (fun hc0=>?_) (fun hc0=>?_)
 ·refine aS fun K hK=>?_;simp -dsimp;apply hK;clear hK K;exact f7 (by simp)
 ·simp at hc0
theorem b0E (g:Gr) (s:Sta) (l:List Ld) (rl:List Int→Bool) (d:Nat) (r:List Int) (f:Option (List Int)) (hd:d≤100) (hr:r.length≤1000)
  (hb:∀(i:Nat) (f:Option (List Int)),i<r.length→e9 Try.prog 59 [.row 4 0 [at0 r i].length,iL (r.drop (i+1)),I d, .ptr 0 0 0, .ptr 1 0 0, .ptr 2 0 0, .ptr 3 0 0] (chR g s l f) [some (.els 1 ([at0 r i].map i4))] (Bo (chF rl d [at0 r i] (r.drop (i+1)) f).1) (chR g s l (chF rl d [at0 r i] (r.drop (i+1)) f).2) []):
  e9 Try.prog 59 [.v (.slice none 0 0),iL r,I (d+1:Nat), .ptr 0 0 0, .ptr 1 0 0, .ptr 2 0 0, .ptr 3 0 0] (chR g s l f) [] (Bo (chF rl (d+1) [] r f).1) (chR g s l (chF rl (d+1) [] r f).2) []:=by
 have f1:D8 1 9:=j7 (by omega) (by omega);rw[a9N];refine e9.of_bodyG [3,4,5,6] Try.func59 rfl (by decide) (by simp[Try.ntmps59]) rfl rfl ?_;intro J hJ;simp only[Try.ntmps59,Try.results59];refine gS fun K hK=>?_;simp -dsimp;apply hK;clear hK K;refine b6 fun K1 hK1=>?_;refine gS fun K hK=>?_;simp -dsimp;apply hK;clear hK K;refine d6 rfl (fun hc0=>?_) (fun hc0=>?_)
 ·exfalso;simp at hc0;omega
 ·refine d7 ?_;simp only[zT,reduceIte,Nat.reduceEqDiff];refine hK1 _ _ ?_;refine b5 [0,1,2,3,4,5,6] (Or.inr (by simp)) ?_;simp only[zP,Nat.reduceEqDiff,reduceIte];refine b6 fun K2 hK2=>?_;refine gS fun K hK=>?_;simp -dsimp;apply hK;clear hK K;refine d5 ?_;refine b5 [0,1,2,3,4,5,6,20,21,22] (Or.inr (by simp)) ?_;simp only[zP,Nat.reduceEqDiff,reduceIte];refine f5 [0,1,2,3,4,5,6,20,21] (α:=Nat×Option (List Int)) (fun x=>[(22,I x.1)]) (fun x=>chR g s l x.2) (fun x=>x.1≤r.length∧(List.range x.1).foldl (chS rl d [] r) (false,f)=(false,x.2)) (fun x=>r.length-x.1) (0,f) ?_ ?_ ?_
  ·exact⟨Nat.zero_le _,rfl⟩
  ·exact l9 (d8 [some 0,some 1,some 2,some 3] rfl (by simp) (by simp)) (by simp)
  rintro⟨i,fi⟩ ⟨k1,k2⟩;simp only at k1 k2 ⊢;simp only[zP,Nat.reduceEqDiff,reduceIte];refine gS fun K hK=>?_;simp -dsimp;apply hK;clear hK K;refine b6 fun K3 hK3=>?_;refine d6 rfl (fun hc1=>?_) (fun hc1=>?_)
  ·have hil:i<r.length:=by simpa using hc1
   have wi:=zW i (by omega);have wd:IntKind.i64.wrap (d:Int)=(d:Int):=f6 (by omega) (by omega);have gr:=A5 hil;have hcall:=hb i fi hil;have hst:(List.range (i+1)).foldl (chS rl d [] r) (false,f)=chF rl d [at0 r i] (r.drop (i+1)) fi:=by rw[List.range_succ,List.foldl_append,k2];rfl
   generalize chF rl d [at0 r i] (r.drop (i+1)) fi=q at hcall hst;refine d7 ?_;simp only[zT,reduceIte,Nat.reduceEqDiff];refine hK3 _ _ ?_;refine b5 [0,1,2,3,4,5,6,20,21,22] (Or.inr (by simp)) ?_;simp only[zP,Nat.reduceEqDiff,reduceIte];refine b6 fun K4 hK4=>?_;refine d5 ?_;refine gS fun K hK=>?_;simp -dsimp [gr];apply hK;clear hK K;refine q9 k7 rfl (by decide) rfl rfl fun K hK=>?_;simp -dsimp [wi,wd,(by omega:(0:Int)≤(i:Int)+1),(by omega:i+1≤r.length),f1];refine b8 _ (a7S) (by simp) ?_;simp -dsimp [wi,wd,(by omega:(0:Int)≤(i:Int)+1),(by omega:i+1≤r.length),f1];refine i8 [0,1,2,3] [4] [some 0,some 1,some 2,some 3,none] (hcall) (by decide) rfl (by simp) (by simp) rfl (by simp) ?_;simp -dsimp [wi,wd,(by omega:(0:Int)≤(i:Int)+1),(by omega:i+1≤r.length),f1];refine hK _ _ _ (by decide+kernel) ?_;clear hK K;refine d6 rfl (fun hc2=>?_) (fun hc2=>?_)
   ·refine gS fun K hK=>?_;simp -dsimp;apply hK;clear hK K;have hfin:(List.range r.length).foldl (chS rl d [] r) (false,f)=q:=by rw[W3 _ _ (show i+1≤r.length by omega),hst];exact a5f _ _ _ _ _ hc2 _
    rw[hfin];exact i5 ⟨[some 0,some 1,some 2,some 3],rfl,by simp,by simp,by simp,by simp[y3,m6,hc2]⟩
   ·refine d7 ?_;simp only[zT,reduceIte,Nat.reduceEqDiff];refine hK4 _ _ ?_;refine b5 [0,1,2,3,4,5,6,20,21,22] (Or.inr (by simp)) ?_;simp only[zP,Nat.reduceEqDiff,reduceIte];refine gR fun K hK=>?_;simp -dsimp [wi];apply hK;clear hK K;simp only[zT,reduceIte,Nat.reduceEqDiff];exact⟨(i+1,q.2),⟨by simp only;omega,by rw[hst];exact Prod.ext hc2 rfl⟩,by simp only;omega,l9 (d8 [some 0,some 1,some 2,some 3] rfl (by simp) (by simp)) (by simp)⟩
  ·have hie:i=r.length:=by have hn:¬i<r.length:=(by simpa using hc1);omega
   subst hie;refine f8 ?_;simp only[zT,reduceIte,Nat.reduceEqDiff];refine hK2 _ _ ?_;refine b5 [3,4,5,6] (Or.inr (by simp)) ?_;simp only[zP,Nat.reduceEqDiff,reduceIte];refine gS fun K hK=>?_;simp -dsimp;apply hK;clear hK K;rw[k2];exact i5 ⟨[some 0,some 1,some 2,some 3],rfl,by simp,by simp,by simp,by simp[y3,m6]⟩
theorem c2g (g:Gr) (s:Sta) (l:List Ld) (rl:List Int→Bool) (off:List Int) (hol:off.length≤6) (hrl:∀c:List Int,(∀x∈c,x∈off)→c.length≤900→d4 Try.prog 60 [net g s,iL c,lL l] (Bo (rl c))):
  ∀(d:Nat) (c r:List Int) (f:Option (List Int)),c≠[]→(∀x∈c,x∈off)→(∀x∈r,x∈off)→r.length≤6→c.length+d≤100→
   e9 Try.prog 59 [.row 4 0 c.length,iL r,I d, .ptr 0 0 0, .ptr 1 0 0, .ptr 2 0 0, .ptr 3 0 0] (chR g s l f) [some (.els 1 (c.map i4))] (Bo (chF rl d c r f).1) (chR g s l (chF rl d c r f).2) []
 |0,c,r,f,hc,hco,hro,hr,hcd=>by
  have e:chA c=some c:=if_neg hc;show e9 _ _ _ _ _ (Bo (rl c)) (chR g s l (chA c)) [];rw[e];exact b1M g s l rl c r f hc (hrl c hco (by omega))
 |d+1,c,r,f,hc,hco,hro,hr,hcd=>by
  refine b1E g s l rl d c r f (by omega) hc (by omega) (by omega) fun i f' hi=>?_;refine c2g g s l rl off hol hrl d (c++[at0 r i]) (r.drop (i+1)) f' (by simp) (fun x hx=>?_) (fun x hx=>hro x (List.mem_of_mem_drop hx)) (by simp;omega) (by simp;omega)
  rcases List.mem_append.1 hx with h|h
  ·exact hco x h
  ·rw[List.mem_singleton.1 h];exact hro _ (List.mem_of_getElem? (A5 hi))
theorem c1A (g:Gr) (s:Sta) (l:List Ld) (rl:List Int→Bool) (off:List Int) (hol:off.length≤6) (hrl:∀c:List Int,(∀x∈c,x∈off)→c.length≤900→d4 Try.prog 60 [net g s,iL c,lL l] (Bo (rl c))) (d:Nat) (f:Option (List Int)) (hd:d≤6):
  e9 Try.prog 59 [.v (.slice none 0 0),iL off,I d, .ptr 0 0 0, .ptr 1 0 0, .ptr 2 0 0, .ptr 3 0 0] (chR g s l f) [] (Bo (chF rl d [] off f).1) (chR g s l (chF rl d [] off f).2) []:=by
 cases d with
 | zero=>
  refine b0u g s l rl off f ?_;refine d4.argR (hrl [] (by simp) (by simp)) rfl fun i c c' h1 h2 w S y h=>?_
  match i,h1,h2 with
  |0,h1,h2=>
   simp only[List.getElem?_cons_zero,Option.some.injEq]at h1 h2;rw[←h2,h1];exact h
  |1,h1,h2=>
   simp only[List.getElem?_cons_succ,List.getElem?_cons_zero,Option.some.injEq]at h1 h2;rw[←h2];rw[←h1]at h;exact b3j h
  |2,h1,h2=>
   simp only[List.getElem?_cons_succ,List.getElem?_cons_zero,Option.some.injEq]at h1 h2;rw[←h2,h1];exact h
  |i+3,h1,h2=>simp at h1
 |succ d=>
  refine b0E g s l rl d off f (by omega) (by omega) fun i f' hi=>?_;refine c2g g s l rl off hol hrl d [at0 off i] (off.drop (i+1)) f' (by simp) (fun x hx=>?_) (fun x hx=>List.mem_of_mem_drop hx) (by simp;omega) (by simp;omega);rw[List.mem_singleton.1 hx];exact List.mem_of_getElem? (A5 hi)
def c1l (wi:List Bool) (s:List Int) (i:Nat):List Int:=if bAt wi i=true then s else s++[(i:Int)]
def b0V (wi:List Bool) (n:Nat):List Int:=(List.range n).foldl (c1l wi) []
theorem a5G (wi:List Bool) (n:Nat):b0V wi (n+1)=c1l wi (b0V wi n) n:=by
 unfold b0V;rw[List.range_succ,List.foldl_append];rfl
theorem a4s (wi:List Bool):∀n,(b0V wi n).length≤n
 |0=>by simp[b0V]
 |n+1=>by
  have:=a4s wi n;rw[a5G];unfold c1l
  split
  ·omega
  ·simp;omega
def c1b (rl:List Int→Bool) (off:List Int) (q:Bool×Option (List Int)) (k:Nat):Bool×Option (List Int):=if q.1=true then q else chF rl k [] off q.2
def b5U (rl:List Int→Bool) (off:List Int):Bool×Option (List Int):=(List.range (off.length+1)).foldl (c1b rl off) (false,none)
theorem a2f (rl:List Int→Bool) (off:List Int) (q:Bool×Option (List Int)) (hq:q.1=true):∀l:List Nat,l.foldl (c1b rl off) q=q
 |[]=>rfl
 |i::l=>by
  rw[List.foldl_cons,show c1b rl off q i=q from if_pos hq];exact a2f rl off q hq l
theorem b0P (g:Gr) (s:Sta) (l:List Ld) (hl:l.length≤1000) (hf:t4 g s l=true) (off:List Int) (hoff:off=b0V s.Wires s.Wires.length) (rl:List Int→Bool)
  (hrl:off.length≤6→∀c:List Int,(∀x∈c,x∈off)→c.length≤900→d4 Try.prog 60 [net g s,iL c,lL l] (Bo (rl c))) (res:AV)
  (h6:6<off.length→res= .tup [.v (.slice none 0 0),I 2]) (ht:off.length≤6→(b5U rl off).1=true→res= .tup [fA (b5U rl off).2,I 0]) (hn:off.length≤6→(b5U rl off).1=false→res= .tup [.v (.slice none 0 0),I 4]):
  d4 Try.prog 35 [g.av,s.av,lL l] res:=by
 have hb:=O2 g s l hl hf;have hnt:=t6 hf;have hbd:=r6 hnt.gr;have hsw:=hnt.sw;have hlo:off.length≤s.Wires.length:=by rw[hoff];exact a4s _ _
 refine d4.of_bodyG Try.func35 rfl (by decide) (by simp[Try.ntmps35]) ?_;intro J hJ;simp only[Try.ntmps35,Try.results35];refine gS fun K hK=>?_;simp -dsimp;apply hK;clear hK K;refine gS fun K hK=>?_;simp -dsimp;refine b8 _ (hb) (by simp) ?_;simp -dsimp;apply hK;clear hK K;refine b6 fun K1 hK1=>?_;refine gS fun K hK=>?_;simp -dsimp;apply hK;clear hK K;refine d6 rfl (fun hc0=>?_) (fun hc0=>?_)
 ·simp at hc0
 ·refine d7 ?_;simp only[zT,reduceIte,Nat.reduceEqDiff];refine hK1 _ _ ?_;refine b5 [4,5,8] (Or.inr (by simp)) ?_;simp only[zP,Nat.reduceEqDiff,reduceIte];refine gS fun K hK=>?_;simp -dsimp;apply hK;clear hK K;refine b6 fun K2 hK2=>?_;refine gS fun K hK=>?_;simp -dsimp;apply hK;clear hK K;refine d5 ?_;refine b5 [5,8,10,26,27,28] (Or.inr (by simp)) ?_;simp only[zP,Nat.reduceEqDiff,reduceIte];refine f5 [5,8,26,27] (α:=Nat) (fun k=>[(10, .row 4 0 (b0V s.Wires k).length),(28,I k)]) (fun k=>[some (.els 4 [g.cells]),some (.els 2 [s.cells]),some (.els 1 [[lL l]]),some (.els 1 [[net g s]]),some (.els 1 ((b0V s.Wires k).map i4))]) (fun k=>k≤s.Wires.length) (fun k=>s.Wires.length-k) 0 ?_ ?_ ?_
  ·exact Nat.zero_le _
  ·exact l9 ((z7 10 1 (by simp)).trans (d8 [some 0,some 1,some 2,some 3,some 4] rfl (by simp[b0V]) (by simp[b0V]))) (by simp)
  rintro k k1;simp only[zP,Nat.reduceEqDiff,reduceIte];refine gS fun K hK=>?_;simp -dsimp;apply hK;clear hK K;refine b6 fun K3 hK3=>?_;refine d6 rfl (fun hc1=>?_) (fun hc1=>?_)
  ·have hkl:k<s.Wires.length:=by simpa using hc1
   have wk:=zW k (by omega);have gb:=v8 (l:=s.Wires) (k:=k) hkl;have hos:=a5G s.Wires k;unfold c1l at hos;have hol:=a4s s.Wires k;have f1:D8 ((b0V s.Wires k).length+1) 9:=j7 (by omega) (by omega);refine d7 ?_;simp only[zT,reduceIte,Nat.reduceEqDiff];refine hK3 _ _ ?_;refine b5 [5,8,10,26,27,28] (Or.inr (by simp)) ?_;simp only[zP,Nat.reduceEqDiff,reduceIte];refine b6 fun K4 hK4=>?_;refine d5 ?_;refine gS fun K hK=>?_;simp -dsimp [gb];apply hK;clear hK K;refine gS fun K hK=>?_;simp -dsimp;apply hK;clear hK K;refine d6 rfl (fun hc2=>?_) (fun hc2=>?_)
   ·have hbf:bAt s.Wires k=false:=by simpa using hc2
    refine gR fun K hK=>?_;simp -dsimp [f1];apply hK;clear hK K;simp only[zT,reduceIte,Nat.reduceEqDiff];refine hK4 _ _ ?_;refine b5 [5,8,10,26,27,28] (Or.inr (by simp)) ?_;simp only[zP,Nat.reduceEqDiff,reduceIte];refine gR fun K hK=>?_;simp -dsimp [wk];apply hK;clear hK K;simp only[zT,reduceIte,Nat.reduceEqDiff];rw[if_neg (by simp[hbf])]at hos;exact⟨k+1,by omega,by omega,l9 (d8 [some 0,some 1,some 2,some 3,some 5] rfl (by simp[hos]) (by simp[hos])) (by simp)⟩
   ·have hbt:bAt s.Wires k=true:=by simpa using hc2
    refine d7 ?_;simp only[zT,reduceIte,Nat.reduceEqDiff];refine hK4 _ _ ?_;refine b5 [5,8,10,26,27,28] (Or.inr (by simp)) ?_;simp only[zP,Nat.reduceEqDiff,reduceIte];refine gR fun K hK=>?_;simp -dsimp [wk];apply hK;clear hK K;simp only[zT,reduceIte,Nat.reduceEqDiff];rw[if_pos hbt]at hos;exact⟨k+1,by omega,by omega,l9 (d8 [some 0,some 1,some 2,some 3,some 4] rfl (by simp[hos]) (by simp[hos])) (by simp)⟩
  ·have hke:k=s.Wires.length:=by have hn:¬k<s.Wires.length:=(by simpa using hc1);omega
   subst hke;rw[←hoff];have hto:List.take off.length (off.map i4)=off.map i4:=List.take_of_length_le (by simp);refine f8 ?_;simp only[zT,reduceIte,Nat.reduceEqDiff];refine hK2 _ _ ?_;refine b5 [5,8,10] (Or.inr (by simp)) ?_;simp only[zP,Nat.reduceEqDiff,reduceIte];refine b6 fun K5 hK5=>?_;refine o5 (l9 (B9 (T':=[(5, .ptr 0 0 0),(8, .ptr 1 0 0),(10,iL off)]) (H':=[some (.els 1 [[lL l]]),some (.els 1 [[net g s]])]) [some 2,some 3] rfl ⟨.inr (by simp), .inr (by simp), .inr (by simp[hto]),trivial⟩ (by simp)) (by simp)) ?_
   ·refine gS fun K hK=>?_;simp -dsimp;apply hK;clear hK K;refine d6 rfl (fun hc3=>?_) (fun hc3=>?_)
    ·refine gS fun K hK=>?_;simp -dsimp;apply hK;clear hK K;have h6':6<off.length:=by have:=(by simpa using hc3:(6:Int)<off.length);omega
     exact i5 (by simp[h6 h6',y3,m6])
    ·have hl6:off.length≤6:=by have:=(by simpa using hc3:(off.length:Int)≤6);omega
     have hch:=c1A g s l rl off hl6 (hrl hl6);have wo:IntKind.i64.wrap ((off.length:Int)+1)=(off.length:Int)+1:=f6 (by omega) (by omega);refine d7 ?_;simp only[zT,reduceIte,Nat.reduceEqDiff];refine hK5 _ _ ?_;refine b5 [5,8,10] (Or.inr (by simp)) ?_;simp only[zP,Nat.reduceEqDiff,reduceIte];refine gS fun K hK=>?_;simp -dsimp;apply hK;clear hK K;refine gS fun K hK=>?_;simp -dsimp;apply hK;clear hK K;refine gS fun K hK=>?_;simp -dsimp;apply hK;clear hK K;refine b6 fun K6 hK6=>?_;refine gS fun K hK=>?_;simp -dsimp [wo];apply hK;clear hK K;refine d5 ?_;refine b5 [10,13,14,46,47] (Or.inr (by simp)) ?_;simp only[zP,Nat.reduceEqDiff,reduceIte];refine f5 [10,13,14,46] (α:=Nat×Option (List Int)) (fun x=>[(47,I x.1)]) (fun x=>[some (.els 1 [[lL l]]),some (.els 1 [[net g s]]),some (.els 1 [[fA x.2]]),some (.els 1 [[.clo 59 [.ptr 2 0 0, .ptr 1 0 0, .ptr 0 0 0, .ptr 3 0 0]]])]) (fun x=>x.1≤off.length+1∧(List.range x.1).foldl (c1b rl off) (false,none)=(false,x.2)) (fun x=>off.length+1-x.1) (0,none) ?_ ?_ ?_
     ·exact⟨Nat.zero_le _,rfl⟩
     ·exact l9 (d8 [some 0,some 1,some 2,some 3] rfl (by simp) (by simp[b3T])) (by simp)
     rintro⟨k,f⟩ ⟨k1,k2⟩;simp only at k1 k2 ⊢;simp only[zP,Nat.reduceEqDiff,reduceIte];refine gS fun K hK=>?_;simp -dsimp;apply hK;clear hK K;refine b6 fun K7 hK7=>?_;refine d6 rfl (fun hc4=>?_) (fun hc4=>?_)
     ·have hko:k≤off.length:=by have:=(by simpa using hc4:(k:Int)<off.length+1);omega
      have wk:=zW k (by omega);have hcall:=hch k f (by omega);have hst:(List.range (k+1)).foldl (c1b rl off) (false,none)=chF rl k [] off f:=by rw[List.range_succ,List.foldl_append,k2];rfl
      generalize chF rl k [] off f=q at hcall hst;refine d7 ?_;simp only[zT,reduceIte,Nat.reduceEqDiff];refine hK7 _ _ ?_;refine b5 [10,13,14,46,47] (Or.inr (by simp)) ?_;simp only[zP,Nat.reduceEqDiff,reduceIte];refine b6 fun K8 hK8=>?_;refine d5 ?_;refine gS fun K hK=>?_;simp -dsimp;apply hK;clear hK K;refine gS fun K hK=>?_;simp -dsimp;refine i8 [2,1,0,3] [] [some 2,some 1,some 0,some 3] (hcall) (by decide) rfl (by simp) (by simp) rfl (by simp) ?_;simp -dsimp;apply hK;clear hK K;refine d6 rfl (fun hc5=>?_) (fun hc5=>?_)
      ·obtain⟨o,ho⟩:∃o,q.2=o:=⟨_,rfl⟩;rw[ho]
       rcases o with _|cc
       ·refine gS fun K hK=>?_;simp -dsimp [fA];apply hK;clear hK K;have hfin:b5U rl off=q:=by unfold b5U;rw[W3 _ _ (show k+1≤off.length+1 by omega),hst];exact a2f _ _ _ hc5 _
        have hr:=ht hl6 (by rw[hfin];exact hc5);rw[hfin]at hr;exact i5 (by simp[hr,ho,fA,y3,m6])
       ·refine gS fun K hK=>?_;simp -dsimp [fA];apply hK;clear hK K;have hfin:b5U rl off=q:=by unfold b5U;rw[W3 _ _ (show k+1≤off.length+1 by omega),hst];exact a2f _ _ _ hc5 _
        have hr:=ht hl6 (by rw[hfin];exact hc5);rw[hfin]at hr;exact i5 (by simp[hr,ho,fA,y3,m6])
      ·refine d7 ?_;simp only[zT,reduceIte,Nat.reduceEqDiff];refine hK8 _ _ ?_;refine b5 [10,13,14,46,47] (Or.inr (by simp)) ?_;simp only[zP,Nat.reduceEqDiff,reduceIte];refine gR fun K hK=>?_;simp -dsimp [wk];apply hK;clear hK K;simp only[zT,reduceIte,Nat.reduceEqDiff];exact⟨(k+1,q.2),⟨by simp only;omega,by rw[hst];exact Prod.ext hc5 rfl⟩,by simp only;omega,l9 (d8 [some 0,some 1,some 2,some 3] rfl (by simp) (by simp)) (by simp)⟩
     ·have hko:k=off.length+1:=by have:=(by simpa using hc4:(off.length:Int)+1≤k);omega
      subst hko;refine f8 ?_;simp only[zT,reduceIte,Nat.reduceEqDiff];refine hK6 _ _ ?_;refine b5 [] (Or.inr (by simp)) ?_;simp only[zP,Nat.reduceEqDiff,reduceIte];refine gS fun K hK=>?_;simp -dsimp;apply hK;clear hK K;have hr:=hn hl6 (by unfold b5U;rw[k2]);exact i5 (by simp[hr,y3,m6])
end Go.Cur
end
section
namespace Go.Cur
open Go.AM Go.Proofs
theorem b7h (n:Nat) (hn:n≤1000):d4 Try.prog 20 [I n] (bL (List.replicate n true)):=by
 have f0:D8 n 2:=j7 (by omega) (by omega);refine d4.of_body Try.func20 rfl (by decide) (by simp[Try.ntmps20]) ?_;simp only[Try.ntmps20,Try.results20];refine aS fun K hK=>?_;simp -dsimp;apply hK;clear hK K;refine aS fun K hK=>?_;simp -dsimp [f0];apply hK;clear hK K;refine b9 fun K1 hK1=>?_;refine aS fun K hK=>?_;simp -dsimp;apply hK;clear hK K;refine e7 ?_;refine b7 [0,3,4] ?_;simp only[zP,Nat.reduceEqDiff,reduceIte];refine g7 [0,3] (α:=Nat) (fun k=>[(4,I k)]) (fun k=>[some (.els 1 ((svK n k).map i6))]) (fun k=>k≤n) (fun k=>n-k) 0 ?_ ?_ ?_
 ·exact Nat.zero_le _
 ·exact d8 [some 0] rfl (by simp) (by simp[a5l,i6])
 rintro k k1;simp only[zP,Nat.reduceEqDiff,reduceIte];refine b9 fun K2 hK2=>?_;refine aS fun K hK=>?_;simp -dsimp;apply hK;clear hK K;refine d9 rfl (fun hc0=>?_) (fun hc0=>?_)
 ·have hkl:k<n:=by simpa using hc0
  have wk:=zW k (by omega);have hsl:=a8d (n:=n) (k:=k) k1;have hst:=a7B hkl;refine e8 ?_;simp only[zT,reduceIte,Nat.reduceEqDiff];refine hK2 _ _ ?_;refine b7 [0,3,4] ?_;simp only[zP,Nat.reduceEqDiff,reduceIte];refine b9 fun K3 hK3=>?_;refine e7 ?_;refine aR fun K hK=>?_;simp -dsimp [hkl,hsl];apply hK;clear hK K;simp only[zT,reduceIte,Nat.reduceEqDiff];refine hK3 _ _ ?_;refine b7 [0,3,4] ?_;simp only[zP,Nat.reduceEqDiff,reduceIte];refine aR fun K hK=>?_;simp -dsimp [wk];apply hK;clear hK K;simp only[zT,reduceIte,Nat.reduceEqDiff];exact⟨k+1,by omega,by omega,d8 [some 0] rfl (by simp) (by simp[←hst,List.map_set,i6])⟩
 ·have hke:k=n:=by have hn:¬k<n:=(by simpa using hc0);omega
  subst hke;have htk:List.take k ((List.replicate k true).map i6)=(List.replicate k true).map i6:=List.take_of_length_le (by simp);refine j0 ?_;simp only[zT,reduceIte,Nat.reduceEqDiff];refine hK1 _ _ ?_;refine b7 [3] ?_;simp only[zP,Nat.reduceEqDiff,reduceIte];refine aS fun K hK=>?_;simp -dsimp;apply hK;clear hK K;exact f7 (by rw[a7j];simp[htk])
theorem N3 (l:List Int) (x:Int) (hn:l.length≤100000):d4 Try.prog 53 [iL l,I x] (I (J3 l fun y=>decide (x=y))):=by
 refine d4.of_body Try.func53 rfl (by decide) (by simp[Try.ntmps53]) ?_;simp only[Try.ntmps53,Try.results53];refine aS fun K hK=>?_;simp -dsimp;apply hK;clear hK K;refine b9 fun K1 hK1=>?_;refine aS fun K hK=>?_;simp -dsimp;apply hK;clear hK K;refine e7 ?_;refine b7 [0,1,5] ?_;simp only[zP,Nat.reduceEqDiff,reduceIte];refine g7 [0,1] (α:=Nat) (fun k=>[(5,I k)]) (fun k=>[]) (fun k=>k≤l.length∧((l.take k).any fun y=>decide (x=y))=false) (fun k=>l.length-k) 0 ?_ ?_ ?_
 ·exact⟨Nat.zero_le _,rfl⟩
 ·exact i7 (by simp)
 rintro k ⟨k1,k2⟩;simp only[zP,Nat.reduceEqDiff,reduceIte];refine b9 fun K2 hK2=>?_;refine aS fun K hK=>?_;simp -dsimp;apply hK;clear hK K;refine d9 rfl (fun hc0=>?_) (fun hc0=>?_)
 ·have hkl:k<l.length:=by simpa using hc0
  have wk:=zW k (by omega);obtain⟨y,hy⟩:∃y,l[k]?=some y:=⟨_,List.getElem?_eq_getElem hkl⟩;refine e8 ?_;simp only[zT,reduceIte,Nat.reduceEqDiff];refine hK2 _ _ ?_;refine b7 [0,1,5] ?_;simp only[zP,Nat.reduceEqDiff,reduceIte];refine b9 fun K3 hK3=>?_;refine e7 ?_;refine aS fun K hK=>?_;simp -dsimp [hy];apply hK;clear hK K;refine d9 rfl (fun hc1=>?_) (fun hc1=>?_)
  ·refine aS fun K hK=>?_;simp -dsimp;apply hK;clear hK K;have hxy:x=y:=by have:y=x:=(by simpa using hc1);exact this.symm
   exact f7 (by simp[a0d hy (by simp[hxy]) k2])
  ·refine e8 ?_;simp only[zT,reduceIte,Nat.reduceEqDiff];refine hK3 _ _ ?_;refine b7 [0,1,5] ?_;simp only[zP,Nat.reduceEqDiff,reduceIte];refine aR fun K hK=>?_;simp -dsimp [wk];apply hK;clear hK K;simp only[zT,reduceIte,Nat.reduceEqDiff];have hxy:¬x=y:=by intro h;simp[h]at hc1
   exact⟨k+1,⟨by omega,by rw[List.take_add_one,hy,List.any_append,k2];simp[hxy]⟩,by omega,d8 [] rfl (by simp) (by simp)⟩
 ·have hkl:¬k<l.length:=by simpa using hc0
  rw[List.take_of_length_le (by omega)]at k2;refine j0 ?_;simp only[zT,reduceIte,Nat.reduceEqDiff];refine hK1 _ _ ?_;refine b7 [] ?_;simp only[zP,Nat.reduceEqDiff,reduceIte];refine aS fun K hK=>?_;simp -dsimp;apply hK;clear hK K;exact f7 (by simp[L8 k2])
theorem b4x (l:List Int) (x:Int):decide (0≤J3 l fun y=>decide (x=y))=decide (x∈l):=by rw[a5Z,b6B]
theorem R6 (g:Gr) (s:Sta) (part:List Int) (hs:s.Feeds.length=g.Feeds.length) (hp:part.length≤1000) (hn:g.Feeds.length≤1000):d4 Try.prog 25 [g.av,s.av,iL part] (iL (m9 g s part)):=by
 unfold m9;refine d4.of_body Try.func25 rfl (by decide) (by simp[Try.ntmps25]) ?_;simp only[Try.ntmps25,Try.results25];refine aS fun K hK=>?_;simp -dsimp;apply hK;clear hK K;refine aS fun K hK=>?_;simp -dsimp;apply hK;clear hK K;refine b9 fun K1 hK1=>?_;refine aS fun K hK=>?_;simp -dsimp;apply hK;clear hK K;refine e7 ?_;refine b7 [2,3,4,7,8] ?_;simp only[zP,Nat.reduceEqDiff,reduceIte];refine g7 [2,3,4] (α:=Nat) (fun k=>[(7, .row 2 0 ((upI k).filter (a1D g s part)).length),(8,I k)]) (fun k=>[some (.els 4 [g.cells]),some (.els 2 [s.cells]),some (.els 1 (((upI k).filter (a1D g s part)).map i4))]) (fun k=>k≤g.Feeds.length) (fun k=>g.Feeds.length-k) 0 ?_ ?_ ?_
 ·exact Nat.zero_le _
 ·exact(z7 7 1 (by simp)).trans (i7 (by simp[upI]))
 rintro k k1;simp only[zP,Nat.reduceEqDiff,reduceIte];refine b9 fun K2 hK2=>?_;refine aS fun K hK=>?_;simp -dsimp;apply hK;clear hK K;refine d9 rfl (fun hc0=>?_) (fun hc0=>?_)
 ·have hkl:k<g.Feeds.length:=by simpa using hc0
  have wk:=zW k (by omega);have hfl:((upI k).filter (a1D g s part)).length≤k:=by have:=List.length_filter_le (a1D g s part) (upI k);rw[I6]at this;omega
  have hfs:(upI (k+1)).filter (a1D g s part)=(upI k).filter (a1D g s part)++if a1D g s part k then [(k:Int)]else []:=by rw[a4u,List.filter_append];cases hq:a1D g s part k<;>simp[hq]
  have f1:D8 (((upI k).filter (a1D g s part)).length+1) 9:=j7 (by omega) (by omega);have gb:=v8 (l:=s.Feeds) (k:=k) (by omega);have gf:g.Feeds[k]?=some (fdI g k):=by have:=O6 (g:=g) (i:=(k:Int)) (by omega) (by omega);rwa [Int.toNat_natCast]at this
  have hon:a1D g s part k=(bAt s.Feeds k&&decide (0≤J3 part fun y=>decide ((fdI g k).At=y))):=by rw[b4x];unfold a1D;rw[Int.toNat_natCast]
  have hix:=N3 part (fdI g k).At (by omega);generalize (upI k).filter (a1D g s part)=L at hfs hfl f1 ⊢;generalize (J3 part fun y=>decide ((fdI g k).At=y))=ix at hon hix;refine e8 ?_;simp only[zT,reduceIte,Nat.reduceEqDiff];refine hK2 _ _ ?_;refine b7 [2,3,4,7,8] ?_;simp only[zP,Nat.reduceEqDiff,reduceIte];refine b9 fun K3 hK3=>?_;refine e7 ?_;refine aS fun K hK=>?_;simp -dsimp [gb,gf,hs];refine l4 (fdI g k).cells (fun _=>by simp[gf]) ?_;simp -dsimp [gb,gf,hs];refine g6 _ (fun hm=>hix) (by simp) ?_;simp -dsimp [gb,gf,hs];apply hK;clear hK K;refine d9 rfl (fun hc1=>?_) (fun hc1=>?_)
  ·refine aR fun K hK=>?_;simp -dsimp [f1];apply hK;clear hK K;simp only[zT,reduceIte,Nat.reduceEqDiff];refine hK3 _ _ ?_;refine b7 [2,3,4,7,8] ?_;simp only[zP,Nat.reduceEqDiff,reduceIte];refine aR fun K hK=>?_;simp -dsimp [wk];apply hK;clear hK K;simp only[zT,reduceIte,Nat.reduceEqDiff];have hb:a1D g s part k=true:=by rw[hon];simpa using hc1
   exact⟨k+1,by omega,by omega,d8 [some 0,some 1,some 3] rfl (by simp[hfs,hb]) (by simp[hfs,hb])⟩
  ·refine e8 ?_;simp only[zT,reduceIte,Nat.reduceEqDiff];refine hK3 _ _ ?_;refine b7 [2,3,4,7,8] ?_;simp only[zP,Nat.reduceEqDiff,reduceIte];refine aR fun K hK=>?_;simp -dsimp [wk];apply hK;clear hK K;simp only[zT,reduceIte,Nat.reduceEqDiff];have hb:a1D g s part k=false:=by rw[hon];simpa using hc1
   exact⟨k+1,by omega,by omega,d8 [some 0,some 1,some 2] rfl (by simp[hfs,hb]) (by simp[hfs,hb])⟩
 ·have hke:k=g.Feeds.length:=by have hn:¬k<g.Feeds.length:=(by simpa using hc0);omega
  subst hke;refine j0 ?_;simp only[zT,reduceIte,Nat.reduceEqDiff];refine hK1 _ _ ?_;refine b7 [7] ?_;simp only[zP,Nat.reduceEqDiff,reduceIte];refine aS fun K hK=>?_;simp -dsimp;apply hK;clear hK K;exact f7 (by simp)
def a1e (n:Nat) (l:List Ld) (sv:List Bool):List Int:=(List.range n).map fun(k:Nat)=>cur l sv k
theorem W0 {n:Nat} {l:List Ld} {sv:List Bool} {k:Nat} (h:k<n):(a1e n l sv)[k]?=some (cur l sv k):=by
 unfold a1e;rw[List.getElem?_map,List.getElem?_range h];rfl
theorem a8C {l:List Ld} {sv:List Bool} {k:Nat} {f:Ld} {b:Bool} (hl:l[k]?=some f) (hs:sv[k]?=some b) (x:Int):cur (l.take (k+1)) (sv.take (k+1)) x=b4k x (cur (l.take k) (sv.take k) x) (f,b):=by
 have hk:=(List.getElem?_eq_some_iff.1 hl).1;have hk2:=(List.getElem?_eq_some_iff.1 hs).1;unfold cur;rw[List.take_add_one,List.take_add_one,hl,hs,List.zip_append (by simp;omega)];simp
theorem b4P {n:Nat} {l:List Ld} {sv:List Bool} {k a:Nat} {f:Ld} (hl:l[k]?=some f) (hs:sv[k]?=some true) (ha:f.At=a):(a1e n (l.take k) (sv.take k)).set a f.Units=a1e n (l.take (k+1)) (sv.take (k+1)):=by
 refine List.ext_getElem? fun i=>?_
 by_cases hi:i<n
 ·rw[W0 hi,a8C hl hs];unfold b4k
  by_cases h:i=a
  ·subst h;rw[List.getElem?_set_self (by simp[a1e];omega),if_pos ⟨rfl,ha⟩]
  ·rw[List.getElem?_set_ne (fun e=>h e.symm),W0 hi,if_neg (fun e=>h (by have:=e.2;simp only at this;omega))]
 ·rw[List.getElem?_eq_none (by simp[a1e];omega),List.getElem?_eq_none (by simp[a1e];omega)]
theorem c1k (n:Nat) (f:Nat→Int) (h:∀k,f k=0):List.replicate n [AV.v (Value.int .i64 0)]=((List.range n).map f).map i4:=by
 refine List.ext_getElem? fun i=>?_
 by_cases hi:i<n
 ·rw[List.getElem?_replicate,if_pos hi,List.getElem?_map,List.getElem?_map,List.getElem?_range hi];simp[h]
 ·rw[List.getElem?_eq_none (by simp;omega),List.getElem?_eq_none (by simp;omega)]
theorem a2j (g:Gr) (l:List Ld) (sv:List Bool) (n:Nat) (hg:g.Nodes=n) (hn:n≤1000) (hl:l.length≤1000) (hs:sv.length=l.length) (hat:∀y∈l,0≤y.At∧y.At<n):d4 Try.prog 22 [g.av,lL l,bL sv] (iL (a1e n l sv)):=by
 have f0:D8 n 9:=j7 (by omega) (by omega);have hz:List.replicate n [AV.v (Value.int .i64 0)]=(a1e n [] []).map i4:=c1k n _ fun k=>rfl;refine d4.of_body Try.func22 rfl (by decide) (by simp[Try.ntmps22]) ?_;simp only[Try.ntmps22,Try.results22];refine aS fun K hK=>?_;simp -dsimp;apply hK;clear hK K;refine aS fun K hK=>?_;simp -dsimp [hg,f0];apply hK;clear hK K;refine b9 fun K1 hK1=>?_;refine aS fun K hK=>?_;simp -dsimp;apply hK;clear hK K;refine e7 ?_;refine b7 [1,2,7,8] ?_;simp only[zP,Nat.reduceEqDiff,reduceIte];refine g7 [1,2,7] (α:=Nat) (fun k=>[(8,I k)]) (fun k=>[some (.els 4 [g.cells]),some (.els 1 ((a1e n (l.take k) (sv.take k)).map i4))]) (fun k=>k≤l.length) (fun k=>l.length-k) 0 ?_ ?_ ?_
 ·exact Nat.zero_le _
 ·exact d8 [some 0,some 1] rfl (by simp) (by simp[hg,hz])
 rintro k k1;simp only[zP,Nat.reduceEqDiff,reduceIte];refine b9 fun K2 hK2=>?_;refine aS fun K hK=>?_;simp -dsimp;apply hK;clear hK K;refine d9 rfl (fun hc0=>?_) (fun hc0=>?_)
 ·have hkl:k<l.length:=by simpa using hc0
  have wk:=zW k (by omega);have gl:=E7 hkl;have gb:=v8 (l:=sv) (k:=k) (by omega);have hne:¬sv=[]:=by intro e;rw[e]at hs;simp at hs;omega
  have hya:=hat _ (List.mem_of_getElem? gl);obtain⟨a,ha⟩:∃a:Nat,(ldA l k).At=a:=⟨(ldA l k).At.toNat,by omega⟩;have han:a<n:=by omega
  have hcl:(a1e n (l.take k) (sv.take k)).length=n:=by simp[a1e]
  have hks:k<sv.length:=by omega
  have hbe:sv[k]=bAt sv k:=Option.some.inj (by rw[←List.getElem?_eq_getElem hks];exact gb);refine e8 ?_;simp only[zT,reduceIte,Nat.reduceEqDiff];refine hK2 _ _ ?_;refine b7 [1,2,7,8] ?_;simp only[zP,Nat.reduceEqDiff,reduceIte];refine b9 fun K3 hK3=>?_;refine e7 ?_;refine aS fun K hK=>?_;simp -dsimp [gb,hks,hbe];apply hK;clear hK K;refine d9 rfl (fun hc1=>?_) (fun hc1=>?_)
  ·have hb:sv[k]?=some true:=by rw[gb,hc1]
   have hst:=b4P (n:=n) gl hb ha;refine F4 k7 rfl fun K hK=>?_;simp -dsimp [gl,ha,hcl,han];refine hK _ _ _ (by decide+kernel) ?_;clear hK K;simp only[zT,reduceIte,Nat.reduceEqDiff];refine hK3 _ _ ?_;refine b7 [1,2,7,8] ?_;simp only[zP,Nat.reduceEqDiff,reduceIte];refine aR fun K hK=>?_;simp -dsimp [wk];apply hK;clear hK K;simp only[zT,reduceIte,Nat.reduceEqDiff];exact⟨k+1,by omega,by omega,d8 [some 0,some 1] rfl (by simp) (by simp[←hst,List.map_set,i4])⟩
  ·refine e8 ?_;simp only[zT,reduceIte,Nat.reduceEqDiff];refine hK3 _ _ ?_;refine b7 [1,2,7,8] ?_;simp only[zP,Nat.reduceEqDiff,reduceIte];refine aR fun K hK=>?_;simp -dsimp [wk];apply hK;clear hK K;simp only[zT,reduceIte,Nat.reduceEqDiff];have hb:sv[k]?=some false:=by rw[gb,hc1]
   have hst:a1e n (l.take k) (sv.take k)=a1e n (l.take (k+1)) (sv.take (k+1)):=by unfold a1e;refine List.map_congr_left fun i _=>?_;rw[a8C gl hb];simp[b4k]
   exact⟨k+1,by omega,by omega,d8 [some 0,some 1] rfl (by simp) (by simp[←hst])⟩
 ·have hke:k=l.length:=by have hn:¬k<l.length:=(by simpa using hc0);omega
  subst hke;have htl:List.take n ((a1e n l sv).map i4)=(a1e n l sv).map i4:=List.take_of_length_le (by rw[List.length_map];simp[a1e]);rw[List.take_of_length_le (Nat.le_refl _),List.take_of_length_le (by omega)];have hcl2:(a1e n l sv).length=n:=by simp[a1e]
  refine j0 ?_;simp only[zT,reduceIte,Nat.reduceEqDiff];refine hK1 _ _ ?_;refine b7 [7] ?_;simp only[zP,Nat.reduceEqDiff,reduceIte];refine aS fun K hK=>?_;simp -dsimp;apply hK;clear hK K;exact f7 (by simp[htl,hcl2])
def a9I (ps:List (List Nat)):Bool:=ps.all fun p=>decide (p.length≤10)
theorem b4Z (ps:List (List Nat)) (hn:ps.length≤100000):d4 Try.prog 34 [.lst 1 (ps.map pAV)] (Bo (a9I ps)):=by
 unfold a9I;refine d4.of_body Try.func34 rfl (by decide) (by simp[Try.ntmps34]) ?_;simp only[Try.ntmps34,Try.results34];refine aS fun K hK=>?_;simp -dsimp;apply hK;clear hK K;refine b9 fun K1 hK1=>?_;refine aS fun K hK=>?_;simp -dsimp;apply hK;clear hK K;refine e7 ?_;refine b7 [0,3] ?_;simp only[zP,Nat.reduceEqDiff,reduceIte];refine g7 [0] (α:=Nat) (fun k=>[(3,I k)]) (fun k=>[]) (fun k=>k≤ps.length∧((ps.take k).all fun p=>decide (p.length≤10))=true) (fun k=>ps.length-k) 0 ?_ ?_ ?_
 ·exact⟨Nat.zero_le _,rfl⟩
 ·exact i7 (by simp)
 rintro k ⟨k1,k2⟩;simp only[zP,Nat.reduceEqDiff,reduceIte];refine b9 fun K2 hK2=>?_;refine aS fun K hK=>?_;simp -dsimp;apply hK;clear hK K;refine d9 rfl (fun hc0=>?_) (fun hc0=>?_)
 ·have hkl:k<ps.length:=by simpa using hc0
  have wk:=zW k (by omega);obtain⟨p,hp⟩:∃p,ps[k]?=some p:=⟨_,List.getElem?_eq_getElem hkl⟩;have hul:=o9 p;refine e8 ?_;simp only[zT,reduceIte,Nat.reduceEqDiff];refine hK2 _ _ ?_;refine b7 [0,3] ?_;simp only[zP,Nat.reduceEqDiff,reduceIte];refine b9 fun K3 hK3=>?_;refine e7 ?_;refine aS fun K hK=>?_;simp -dsimp [hp,pAV];apply hK;clear hK K;refine d9 rfl (fun hc1=>?_) (fun hc1=>?_)
  ·refine aS fun K hK=>?_;simp -dsimp;apply hK;clear hK K;have hf:(ps.all fun p=>decide (p.length≤10))=false:=by
    rw[List.all_eq_false];exact⟨p,List.mem_of_getElem? hp,by have:=(by simpa using hc1:(10:Int)<(upN p).length);simp;omega⟩
   exact f7 (by simp[hf])
  ·refine e8 ?_;simp only[zT,reduceIte,Nat.reduceEqDiff];refine hK3 _ _ ?_;refine b7 [0,3] ?_;simp only[zP,Nat.reduceEqDiff,reduceIte];refine aR fun K hK=>?_;simp -dsimp [wk];apply hK;clear hK K;simp only[zT,reduceIte,Nat.reduceEqDiff];exact⟨k+1,⟨by omega,by rw[List.take_add_one,hp,List.all_append,k2];have:=(by simpa using hc1:((upN p).length:Int)≤10);simp;omega⟩,by omega,d8 [] rfl (by simp) (by simp)⟩
 ·have hkl:¬k<ps.length:=by simpa using hc0
  rw[List.take_of_length_le (by omega)]at k2;refine j0 ?_;simp only[zT,reduceIte,Nat.reduceEqDiff];refine hK1 _ _ ?_;refine b7 [] ?_;simp only[zP,Nat.reduceEqDiff,reduceIte];refine aS fun K hK=>?_;simp -dsimp;apply hK;clear hK K;exact f7 (by simp[k2])
end Go.Cur
end
section
namespace Go.Cur
open Go.AM Go.Proofs
def O0:List Int→Int→Int
 |[],_=>0
 |a::l,x=>(if a=x then 1 else 0)+O0 l x
theorem a0x (x:Int):∀l,0≤O0 l x∧O0 l x≤l.length
 |[]=>by simp[O0]
 |a::l=>by
  have:=a0x x l;simp only[O0,List.length_cons]
  split<;>omega
theorem G8 (x:Int):∀(a b:List Int),O0 (a++b) x=O0 a x+O0 b x
 |[],b=>by simp[O0]
 |w::a,b=>by simp only[List.cons_append,O0,G8 x a b];omega
theorem V0 {x:Int}:∀{l:List Int},O0 l x=0↔x∉l
 |[]=>by simp[O0]
 |a::l=>by
  have h1:=V0 (x:=x) (l:=l);have h2:=a0x x l;simp only[O0,List.mem_cons,not_or]
  by_cases h:a=x
  ·simp[h];omega
  ·rw[if_neg h,←h1];exact⟨fun e=>⟨fun k=>h k.symm,by omega⟩,fun e=>by omega⟩
theorem b3m {x:Int} {l:List Int} (k:Nat):O0 (l.take k) x≤O0 l x:=by
 have h:=G8 x (l.take k) (l.drop k);rw[List.take_append_drop]at h;have:=a0x x (l.drop k);omega
theorem a1N (x:Int) (l:List Wr) (k:Nat):deg (l.take k) x≤deg l x:=by
 have h:=R3 x (l.take k) (l.drop k);rw[List.take_append_drop]at h;have:=a6N x (l.drop k);omega
def fdR (g:Gr) (f:Fd):Bool:=inr f.At 0 (g.Nodes-1)&&inr f.Volts 1 1000&&inr f.Siem 1 4&&inr f.Limit 0 2000
def fAt (l:List Fd):List Int:=l.map fun f=>f.At
theorem b6u {l:List Fd} {x:Int}:(l.any fun f=>decide (f.At=x))=decide (x∈fAt l):=by
 unfold fAt;rw[Bool.eq_iff_iff];simp
@[simp] theorem c2f:fAt []=[]:=rfl
theorem a4o {l:List Fd} {k:Nat} {f:Fd} (h:l[k]?=some f):fAt (l.take (k+1))=fAt (l.take k)++[f.At]:=by
 unfold fAt;rw[List.take_add_one,h];simp
theorem b5T (l:List Fd) (k:Nat):fAt (l.take k)=(fAt l).take k:=by unfold fAt;rw[List.map_take]
theorem b6j {g:Gr}:∀{k:Nat},k≤g.Feeds.length→a8j g k=true→∀x,O0 (fAt (g.Feeds.take k)) x≤1
 |0,_,_,x=>by simp[O0]
 |k+1,hk,h,x=>by
  simp only[a8j,Bool.and_eq_true]at h;have ih:=b6j (k:=k) (by omega) h.1 x;obtain⟨f,hf⟩:∃f,g.Feeds[k]?=some f:=⟨_,List.getElem?_eq_getElem (by omega)⟩;have h2:=h.2;rw[hf]at h2;simp only[fdB,Bool.and_eq_true,b6u,Bool.not_eq_true',decide_eq_false_iff_not]at h2;have e:=a4o hf;rw[e,G8];simp only[O0]
  by_cases hx:f.At=x
  ·have:=V0.2 h2.2;rw[hx]at this;rw[this,if_pos hx];omega
  ·rw[if_neg hx];omega
theorem b7J {g:Gr} (h:grB g=true) (x:Int):O0 (fAt g.Feeds) x≤1:=by
 simp only[grB,Bool.and_eq_true]at h;have:=b6j (Nat.le_refl _) h.2 x
 rwa [List.take_length]at this
theorem c0u {g:Gr} (h1:grH g=true) (h2:∀(k:Nat) w,g.Wires[k]?=some w→wrB g w=true) (h3:∀(k:Nat) f,g.Feeds[k]?=some f→fdR g f=true) (h4:∀k:Nat,(k:Int)<g.Nodes→deg g.Wires k≤3∧O0 (fAt g.Feeds) k≤1):grB g=true:=by
 have a:∀k,k≤g.Wires.length→a7E g k=true:=by
  intro k
  induction k with
  |zero=>intro _;rfl
  |succ k ih=>
   intro hk;obtain⟨w,hw⟩:∃w,g.Wires[k]?=some w:=⟨_,List.getElem?_eq_getElem (by omega)⟩;have hwb:=h2 k w hw;have hwb2:=hwb;simp only[wrB,Bool.and_eq_true,u5]at hwb2;simp only[a7E,ih (by omega),hw,hwb,wrD,Bool.true_and,Bool.and_eq_true,decide_eq_true_eq];have e1:=h4 w.A.toNat (by omega);have e2:=h4 w.B.toNat (by omega);rw[Int.toNat_of_nonneg (by omega)]at e1 e2;exact⟨Int.le_trans (a1N _ _ _) e1.1,Int.le_trans (a1N _ _ _) e2.1⟩
 have b:∀k,k≤g.Feeds.length→a8j g k=true:=by
  intro k
  induction k with
  |zero=>intro _;rfl
  | succ k ih=>
   intro hk;obtain⟨f,hf⟩:∃f,g.Feeds[k]?=some f:=⟨_,List.getElem?_eq_getElem (by omega)⟩;have hfb:=h3 k f hf;have hfb2:=hfb;simp only[fdR,Bool.and_eq_true,u5]at hfb2;have hany:((g.Feeds.take k).any fun x=>decide (x.At=f.At))=false:=by
    rw[b6u,decide_eq_false_iff_not,←V0];have e1:=(h4 f.At.toNat (by omega)).2;rw[Int.toNat_of_nonneg (by omega)]at e1;have e2:=a4o hf;have e3:=b3m (x:=f.At) (l:=fAt g.Feeds) (k+1);rw[←b5T,e2,G8]at e3;simp only[O0,if_true]at e3;have:=a0x f.At (fAt (g.Feeds.take k));omega
   simp only[a8j,ih (by omega),hf,fdB,hany,Bool.true_and,Bool.not_false,Bool.and_true];exact hfb
 simp only[grB,h1,a _ (Nat.le_refl _),b _ (Nat.le_refl _),Bool.and_self]
def a5y (n:Nat) (l:List Wr):List Int:=(List.range n).map fun(k:Nat)=>deg l k
theorem X1 {n:Nat} {l:List Wr} {k:Nat} (h:k<n):(a5y n l)[k]?=some (deg l k):=by
 unfold a5y;rw[List.getElem?_map,List.getElem?_range h];rfl
theorem a9x (n:Nat) (l:List Wr):(a5y n l).length=n:=by simp[a5y]
theorem b5x {n:Nat} {l:List Wr} {k a b:Nat} {w:Wr} (hw:l[k]?=some w) (ha:w.A=a) (hb:w.B=b) (hab:a≠b):((a5y n (l.take k)).set a (deg (l.take k) a+1)).set b (deg (l.take k) b+1)=a5y n (l.take (k+1)):=by
 have e:l.take (k+1)=l.take k++[w]:=by rw[List.take_add_one,hw];rfl
 refine List.ext_getElem? fun i=>?_
 by_cases hi:i<n
 ·rw[X1 hi,e,R3];simp only[deg,ha,hb]
  by_cases h1:i=b
  ·subst h1;rw[List.getElem?_set_self (by simp[a5y];omega),if_neg (by omega),if_pos rfl]
   all_goals exact congrArg some (by omega)
  ·rw[List.getElem?_set_ne (fun e=>h1 e.symm)]
   by_cases h2:i=a
   ·subst h2;rw[List.getElem?_set_self (by simp[a5y];omega),if_pos rfl,if_neg (by omega)]
    all_goals exact congrArg some (by omega)
   ·rw[List.getElem?_set_ne (fun e=>h2 e.symm),X1 hi,if_neg (by omega),if_neg (by omega)]
    all_goals exact congrArg some (by omega)
 ·rw[List.getElem?_eq_none (by simp[a5y];omega),List.getElem?_eq_none (by simp[a5y];omega)]
def a3a (n:Nat) (l:List Int):List Int:=(List.range n).map fun(k:Nat)=>O0 l k
theorem Y7 {n:Nat} {l:List Int} {k:Nat} (h:k<n):(a3a n l)[k]?=some (O0 l k):=by
 unfold a3a;rw[List.getElem?_map,List.getElem?_range h];rfl
theorem a5m (n:Nat) (l:List Int):(a3a n l).length=n:=by simp[a3a]
theorem a9y {n:Nat} {l:List Int} {a:Nat}:(a3a n l).set a (O0 l a+1)=a3a n (l++[(a:Int)]):=by
 refine List.ext_getElem? fun i=>?_
 by_cases hi:i<n
 ·rw[Y7 hi,G8];simp only[O0]
  by_cases h2:i=a
  ·subst h2;rw[List.getElem?_set_self (by simp[a3a];omega),if_pos rfl]
   all_goals exact congrArg some (by omega)
  ·rw[List.getElem?_set_ne (fun e=>h2 e.symm),Y7 hi,if_neg (by omega)]
   all_goals exact congrArg some (by omega)
 ·rw[List.getElem?_eq_none (by simp[a3a];omega),List.getElem?_eq_none (by simp[a3a];omega)]
theorem b8n (g:Gr) (hw0:g.Wires.length≤100000) (hf0:g.Feeds.length≤100000):d4 Try.prog 41 [g.av] (Bo (grB g)):=by
 refine d4.of_body Try.func41 rfl (by decide) (by simp[Try.ntmps41]) ?_;simp only[Try.ntmps41,Try.results41];refine aS fun K hK=>?_;simp -dsimp;apply hK;clear hK K;refine b9 fun K1 hK1=>?_;refine aS fun K hK=>?_;simp -dsimp;refine b8 _ (U2 g.Nodes 1 40) (by simp) ?_;simp -dsimp;refine g6 _ (fun hm=>U2 g.Least 0 1000) (by simp) ?_;simp -dsimp;apply hK;clear hK K;refine d9 rfl (fun hc0=>?_) (fun hc0=>?_)
 ·refine aS fun K hK=>?_;simp -dsimp;apply hK;clear hK K;have hf:grH g=false:=by
   cases hh:grH g with
   |false=>rfl
   |true=>
    simp only[grH,Bool.and_eq_true,decide_eq_true_eq]at hh;have h1:(g.Wires.length:Int)≤80:=by omega
    have h2:(g.Feeds.length:Int)≤12:=by omega
    simp[hh.1.1.1,hh.2]at hc0;omega
  exact f7 (by simp[grB,hf])
 ·have hH:grH g=true:=by
   simp at hc0;simp only[grH,hc0.1.1.1,hc0.2,Bool.and_eq_true,decide_eq_true_eq,and_true,true_and];omega
  have hN:=hH;simp only[grH,Bool.and_eq_true,decide_eq_true_eq,u5]at hN;obtain⟨n,hn⟩:∃n:Nat,g.Nodes=n:=⟨g.Nodes.toNat,by omega⟩;have f0:D8 n 9:=j7 (by omega) (by omega);have wn:IntKind.i64.wrap ((n:Int)-1)=(n:Int)-1:=f6 (by omega) (by omega);have hz1:List.replicate n [AV.v (Value.int .i64 0)]=(a5y n []).map i4:=c1k n _ fun k=>rfl;have hz2:(a3a n []).map i4=(a5y n []).map i4:=rfl;refine e8 ?_;simp only[zT,reduceIte,Nat.reduceEqDiff];refine hK1 _ _ ?_;refine b7 [1] ?_;simp only[zP,Nat.reduceEqDiff,reduceIte];refine v6 k7 rfl fun K hK=>?_;simp -dsimp [hn,f0];refine hK _ _ _ (by decide+kernel) ?_;clear hK K;refine b9 fun K2 hK2=>?_;refine aS fun K hK=>?_;simp -dsimp;apply hK;clear hK K;refine e7 ?_;refine b7 [1,3,4,5] ?_;simp only[zP,Nat.reduceEqDiff,reduceIte];refine g7 [1,3,4] (α:=Nat) (fun k=>[(5,I k)]) (fun k=>[some (.els 4 [g.cells]),some (.els 1 ((a5y n (g.Wires.take k)).map i4)),some (.els 1 ((a3a n []).map i4))]) (fun k=>k≤g.Wires.length∧∀i w,i<k→g.Wires[i]?=some w→wrB g w=true) (fun k=>g.Wires.length-k) 0 ?_ ?_ ?_
  ·exact⟨Nat.zero_le _,fun i w h=>by omega⟩
  ·exact d8 [some 0,some 1,some 2] rfl (by simp) (by simp[hn,hz1,hz2])
  rintro k ⟨k1,k2⟩;simp only[zP,Nat.reduceEqDiff,reduceIte];refine b9 fun K3 hK3=>?_;refine aS fun K hK=>?_;simp -dsimp;apply hK;clear hK K;refine d9 rfl (fun hc1=>?_) (fun hc1=>?_)
  ·have hkl:k<g.Wires.length:=by simpa using hc1
   obtain⟨w,hw⟩:∃w,g.Wires[k]?=some w:=⟨_,List.getElem?_eq_getElem hkl⟩;have wk:=zW k (by omega);refine e8 ?_;simp only[zT,reduceIte,Nat.reduceEqDiff];refine hK3 _ _ ?_;refine b7 [1,3,4,5] ?_;simp only[zP,Nat.reduceEqDiff,reduceIte];refine b9 fun K4 hK4=>?_;refine e7 ?_;refine aS fun K hK=>?_;simp -dsimp [hw];apply hK;clear hK K;refine b9 fun K5 hK5=>?_;refine aS fun K hK=>?_;simp -dsimp [hn,wn];refine b8 _ (U2 _ _ _) (by simp) ?_;simp -dsimp [hn,wn];refine g6 _ (fun hm=>U2 w.B 0 ((n:Int)-1)) (by simp) ?_;simp -dsimp [hn,wn];refine g6 _ (fun hm=>U2 w.Siem 1 4) (by simp) ?_;simp -dsimp [hn,wn];apply hK;clear hK K;refine d9 rfl (fun hc2=>?_) (fun hc2=>?_)
   ·have hwr:wrB g w= !(!inr w.A 0 ((n:Int)-1)|| !inr w.B 0 ((n:Int)-1)||w.A==w.B|| !inr w.Siem 1 4):=by
     simp only[wrB,a6T,hn]
     cases inr w.A 0 ((n:Int)-1)<;>cases inr w.B 0 ((n:Int)-1)<;>cases decide (w.A=w.B)<;>cases inr w.Siem 1 4<;>rfl
    refine aS fun K hK=>?_;simp -dsimp;apply hK;clear hK K;have hwf:wrB g w=false:=by rw[hwr,hc2];rfl
    exact f7 (by simp[b8A hw (by rw[hwf];rfl)])
   ·have hwr:wrB g w= !(!inr w.A 0 ((n:Int)-1)|| !inr w.B 0 ((n:Int)-1)||w.A==w.B|| !inr w.Siem 1 4):=by
     simp only[wrB,a6T,hn]
     cases inr w.A 0 ((n:Int)-1)<;>cases inr w.B 0 ((n:Int)-1)<;>cases decide (w.A=w.B)<;>cases inr w.Siem 1 4<;>rfl
    have hwo:wrB g w=true:=by rw[hwr,hc2];rfl
    have hwb:=hwo;simp only[wrB,Bool.and_eq_true,u5,Bool.not_eq_true',decide_eq_false_iff_not,hn]at hwb;obtain⟨a,ha⟩:∃a:Nat,w.A=a:=⟨w.A.toNat,by omega⟩;obtain⟨b,hb⟩:∃b:Nat,w.B=b:=⟨w.B.toNat,by omega⟩;have han:a<n:=by omega
    have hbn:b<n:=by omega
    have hab:a≠b:=by omega
    have hst:=b5x (n:=n) hw ha hb hab;have ga:=X1 (l:=g.Wires.take k) han;have gb:=X1 (l:=g.Wires.take k) hbn;have hd:=fun x=>a6N x (g.Wires.take k);have hlt:(g.Wires.take k).length≤k:=by rw[List.length_take];omega
    have hdl:=a9x n (g.Wires.take k);have wa:IntKind.i64.wrap (deg (g.Wires.take k) a+1)=deg (g.Wires.take k) a+1:=by have:=hd a;exact f6 (by omega) (by omega)
    have wb:IntKind.i64.wrap (deg (g.Wires.take k) b+1)=deg (g.Wires.take k) b+1:=by have:=hd b;exact f6 (by omega) (by omega)
    generalize a5y n (g.Wires.take k)=dr at hst ga gb hdl ⊢;have hal:a<dr.length:=by omega
    have hbl:b<dr.length:=by omega
    have hga:dr[a]=deg (g.Wires.take k) a:=Option.some.inj (by rw[←List.getElem?_eq_getElem hal];exact ga);have hgb:dr[b]=deg (g.Wires.take k) b:=Option.some.inj (by rw[←List.getElem?_eq_getElem hbl];exact gb);refine e8 ?_;simp only[zT,reduceIte,Nat.reduceEqDiff];refine hK5 _ _ ?_;refine b7 [1,3,4,5,6] ?_;simp only[zP,Nat.reduceEqDiff,reduceIte];refine aS fun K hK=>?_;simp -dsimp [ha,hal,han,hga,wa];apply hK;clear hK K;refine aR fun K hK=>?_;simp -dsimp [hb,hbl,hbn,hgb,wb,hab];apply hK;clear hK K;simp only[zT,reduceIte,Nat.reduceEqDiff];refine hK4 _ _ ?_;refine b7 [1,3,4,5] ?_;simp only[zP,Nat.reduceEqDiff,reduceIte];refine aR fun K hK=>?_;simp -dsimp [wk];apply hK;clear hK K;simp only[zT,reduceIte,Nat.reduceEqDiff];refine⟨k+1,⟨by omega,fun i w' hi hw'=>?_⟩,by omega,d8 [some 0,some 1,some 2] rfl (by simp) (by simp[←hst,List.map_set,i4,hn])⟩
    rcases Nat.lt_succ_iff_lt_or_eq.1 hi with h|h
    ·exact k2 i w' h hw'
    ·subst h;rw[hw]at hw';rw[←Option.some.inj hw'];exact hwo
  ·have hke:k=g.Wires.length:=by have hx:¬k<g.Wires.length:=(by simpa using hc1);omega
   subst hke;rw[List.take_of_length_le (Nat.le_refl _)];refine j0 ?_;simp only[zT,reduceIte,Nat.reduceEqDiff];refine hK2 _ _ ?_;refine b7 [1,3,4] ?_;simp only[zP,Nat.reduceEqDiff,reduceIte];refine b9 fun K6 hK6=>?_;refine aS fun K hK=>?_;simp -dsimp;apply hK;clear hK K;refine e7 ?_;refine b7 [1,3,4,7] ?_;simp only[zP,Nat.reduceEqDiff,reduceIte];refine g7 [1,3,4] (α:=Nat) (fun k=>[(7,I k)]) (fun k=>[some (.els 4 [g.cells]),some (.els 1 ((a5y n g.Wires).map i4)),some (.els 1 ((a3a n (fAt (g.Feeds.take k))).map i4))]) (fun k=>k≤g.Feeds.length∧∀i f,i<k→g.Feeds[i]?=some f→fdR g f=true) (fun k=>g.Feeds.length-k) 0 ?_ ?_ ?_
   ·exact⟨Nat.zero_le _,fun i w h=>by omega⟩
   ·exact d8 [some 0,some 1,some 2] rfl (by simp) (by simp)
   rintro i ⟨i1,i2⟩;simp only[zP,Nat.reduceEqDiff,reduceIte];refine b9 fun K7 hK7=>?_;refine aS fun K hK=>?_;simp -dsimp;apply hK;clear hK K;refine d9 rfl (fun hc3=>?_) (fun hc3=>?_)
   ·have hil:i<g.Feeds.length:=by simpa using hc3
    obtain⟨f,hf⟩:∃f,g.Feeds[i]?=some f:=⟨_,List.getElem?_eq_getElem hil⟩;have wi:=zW i (by omega);refine e8 ?_;simp only[zT,reduceIte,Nat.reduceEqDiff];refine hK7 _ _ ?_;refine b7 [1,3,4,7] ?_;simp only[zP,Nat.reduceEqDiff,reduceIte];refine b9 fun K8 hK8=>?_;refine e7 ?_;refine aS fun K hK=>?_;simp -dsimp [hf];apply hK;clear hK K;refine b9 fun K9 hK9=>?_;refine aS fun K hK=>?_;simp -dsimp [hn,wn];refine b8 _ (U2 _ _ _) (by simp) ?_;simp -dsimp [hn,wn];refine g6 _ (fun hm=>U2 f.Volts 1 1000) (by simp) ?_;simp -dsimp [hn,wn];refine g6 _ (fun hm=>U2 f.Siem 1 4) (by simp) ?_;simp -dsimp [hn,wn];refine g6 _ (fun hm=>U2 f.Limit 0 2000) (by simp) ?_;simp -dsimp [hn,wn];apply hK;clear hK K;refine d9 rfl (fun hc4=>?_) (fun hc4=>?_)
    ·have hfd:fdR g f= !(!inr f.At 0 ((n:Int)-1)|| !inr f.Volts 1 1000|| !inr f.Siem 1 4|| !inr f.Limit 0 2000):=by
      simp only[fdR,hn]
      cases inr f.At 0 ((n:Int)-1)<;>cases inr f.Volts 1 1000<;>cases inr f.Siem 1 4<;>cases inr f.Limit 0 2000<;>rfl
     refine aS fun K hK=>?_;simp -dsimp;apply hK;clear hK K;have hff:fdR g f=false:=by rw[hfd,hc4];rfl
     have hfb:fdB g (g.Feeds.take i) f=false:=by
      have:fdB g (g.Feeds.take i) f=(fdR g f&& !((g.Feeds.take i).any fun x=>decide (x.At=f.At))):=rfl;rw[this,hff];rfl
     exact f7 (by simp[c0L hf hfb])
    ·have hfd:fdR g f= !(!inr f.At 0 ((n:Int)-1)|| !inr f.Volts 1 1000|| !inr f.Siem 1 4|| !inr f.Limit 0 2000):=by
      simp only[fdR,hn]
      cases inr f.At 0 ((n:Int)-1)<;>cases inr f.Volts 1 1000<;>cases inr f.Siem 1 4<;>cases inr f.Limit 0 2000<;>rfl
     have hfo:fdR g f=true:=by rw[hfd,hc4];rfl
     have hfb:=hfo;simp only[fdR,Bool.and_eq_true,u5,hn]at hfb;obtain⟨a,ha⟩:∃a:Nat,f.At=a:=⟨f.At.toNat,by omega⟩;have han:a<n:=by omega
     have hst:=a9y (n:=n) (l:=fAt (g.Feeds.take i)) (a:=a);have e2:fAt (g.Feeds.take (i+1))=fAt (g.Feeds.take i)++[(a:Int)]:=by rw[a4o hf,ha]
     rw[←e2]at hst;have ga:=Y7 (l:=fAt (g.Feeds.take i)) han;have hd:=a0x (a:Int) (fAt (g.Feeds.take i));have hlt:(fAt (g.Feeds.take i)).length≤i:=by unfold fAt;rw[List.length_map,List.length_take];omega
     have hdl:=a5m n (fAt (g.Feeds.take i));have wa:IntKind.i64.wrap (O0 (fAt (g.Feeds.take i)) a+1)=O0 (fAt (g.Feeds.take i)) a+1:=f6 (by omega) (by omega);generalize O0 (fAt (g.Feeds.take i)) a=ca at hst ga wa;generalize a3a n (fAt (g.Feeds.take i))=cr at hst ga hdl ⊢;have hal:a<cr.length:=by omega
     have hga:cr[a]=ca:=Option.some.inj (by rw[←List.getElem?_eq_getElem hal];exact ga);refine e8 ?_;simp only[zT,reduceIte,Nat.reduceEqDiff];refine hK9 _ _ ?_;refine b7 [1,3,4,7,8] ?_;simp only[zP,Nat.reduceEqDiff,reduceIte];refine aR fun K hK=>?_;simp -dsimp [ha,hal,han,hga,wa];apply hK;clear hK K;simp only[zT,reduceIte,Nat.reduceEqDiff];refine hK8 _ _ ?_;refine b7 [1,3,4,7] ?_;simp only[zP,Nat.reduceEqDiff,reduceIte];refine aR fun K hK=>?_;simp -dsimp [wi];apply hK;clear hK K;simp only[zT,reduceIte,Nat.reduceEqDiff];refine⟨i+1,⟨by omega,fun j w' hj hw'=>?_⟩,by omega,d8 [some 0,some 1,some 2] rfl (by simp) (by simp[←hst,List.map_set,i4,hn])⟩
     rcases Nat.lt_succ_iff_lt_or_eq.1 hj with h|h
     ·exact i2 j w' h hw'
     ·subst h;rw[hf]at hw';rw[←Option.some.inj hw'];exact hfo
   ·have hie:i=g.Feeds.length:=by have hx:¬i<g.Feeds.length:=(by simpa using hc3);omega
    subst hie;rw[List.take_of_length_le (Nat.le_refl _)];refine j0 ?_;simp only[zT,reduceIte,Nat.reduceEqDiff];refine hK6 _ _ ?_;refine b7 [1,3,4] ?_;simp only[zP,Nat.reduceEqDiff,reduceIte];refine b9 fun K10 hK10=>?_;refine aS fun K hK=>?_;simp -dsimp;apply hK;clear hK K;refine e7 ?_;refine b7 [1,3,4,9] ?_;simp only[zP,Nat.reduceEqDiff,reduceIte];refine g7 [1,3,4] (α:=Nat) (fun k=>[(9,I k)]) (fun k=>[some (.els 4 [g.cells]),some (.els 1 ((a5y n g.Wires).map i4)),some (.els 1 ((a3a n (fAt g.Feeds)).map i4))]) (fun k=>k≤n∧∀j:Nat,j<k→deg g.Wires j≤3∧O0 (fAt g.Feeds) j≤1) (fun k=>n-k) 0 ?_ ?_ ?_
    ·exact⟨Nat.zero_le _,fun i h=>by omega⟩
    ·exact d8 [some 0,some 1,some 2] rfl (by simp) (by simp)
    rintro j ⟨j1,j2⟩;simp only[zP,Nat.reduceEqDiff,reduceIte];refine b9 fun K11 hK11=>?_;refine aS fun K hK=>?_;simp -dsimp [hn];apply hK;clear hK K;refine d9 rfl (fun hc5=>?_) (fun hc5=>?_)
    ·have hjn:j<n:=by simpa using hc5
     have wj:=zW j (by omega);have ga:=X1 (l:=g.Wires) hjn;have gb:=Y7 (l:=fAt g.Feeds) hjn;have hdl:=a9x n g.Wires;have hcl:=a5m n (fAt g.Feeds);have hal:j<(a5y n g.Wires).length:=by omega
     have hbl:j<(a3a n (fAt g.Feeds)).length:=by omega
     have hga:(a5y n g.Wires)[j]=deg g.Wires j:=Option.some.inj (by rw[←List.getElem?_eq_getElem hal];exact ga);have hgb:(a3a n (fAt g.Feeds))[j]=O0 (fAt g.Feeds) j:=Option.some.inj (by rw[←List.getElem?_eq_getElem hbl];exact gb);refine e8 ?_;simp only[zT,reduceIte,Nat.reduceEqDiff];refine hK11 _ _ ?_;refine b7 [1,3,4,9] ?_;simp only[zP,Nat.reduceEqDiff,reduceIte];refine b9 fun K12 hK12=>?_;refine e7 ?_;refine aS fun K hK=>?_;simp -dsimp [hal,hbl,hjn,hga,hgb];apply hK;clear hK K;refine d9 rfl (fun hc6=>?_) (fun hc6=>?_)
     ·refine aS fun K hK=>?_;simp -dsimp;apply hK;clear hK K;have hf:grB g=false:=by
       cases h:grB g with
       |false=>rfl
       |true=>
        have h1:=b7g h (j:Int);have h2:=b7J h (j:Int);simp at hc6;omega
      exact f7 (by simp[hf])
     ·refine e8 ?_;simp only[zT,reduceIte,Nat.reduceEqDiff];refine hK12 _ _ ?_;refine b7 [1,3,4,9] ?_;simp only[zP,Nat.reduceEqDiff,reduceIte];refine aR fun K hK=>?_;simp -dsimp [wj];apply hK;clear hK K;simp only[zT,reduceIte,Nat.reduceEqDiff];refine⟨j+1,⟨by omega,fun q hq=>?_⟩,by omega,d8 [some 0,some 1,some 2] rfl (by simp) (by simp[hn])⟩
      rcases Nat.lt_succ_iff_lt_or_eq.1 hq with h|h
      ·exact j2 q h
      ·subst h;simp at hc6;omega
    ·have hje:¬j<n:=by simpa using hc5
     refine j0 ?_;simp only[zT,reduceIte,Nat.reduceEqDiff];refine hK10 _ _ ?_;refine b7 [] ?_;simp only[zP,Nat.reduceEqDiff,reduceIte];refine aS fun K hK=>?_;simp -dsimp;apply hK;clear hK K;have ht:grB g=true:=c0u hH (fun k w hw=>k2 k w (List.getElem?_eq_some_iff.1 hw).1 hw) (fun k f hf=>i2 k f (List.getElem?_eq_some_iff.1 hf).1 hf) (fun k hk=>j2 k (by omega));exact f7 (by simp[ht])
theorem b5J (g:Gr) (s:Sta) (hw0:g.Wires.length≤100000):d4 Try.prog 43 [g.av,s.av] (Bo (stB g s)):=by
 refine d4.of_body Try.func43 rfl (by decide) (by simp[Try.ntmps43]) ?_;simp only[Try.ntmps43,Try.results43];refine aS fun K hK=>?_;simp -dsimp;apply hK;clear hK K;refine b9 fun K1 hK1=>?_;refine aS fun K hK=>?_;simp -dsimp;apply hK;clear hK K;refine d9 rfl (fun hc0=>?_) (fun hc0=>?_)
 ·refine aS fun K hK=>?_;simp -dsimp;apply hK;clear hK K;have hf:stB g s=false:=by
   cases hh:stB g s with
   |false=>rfl
   |true=>
    simp only[stB,Bool.and_eq_true,decide_eq_true_eq]at hh;simp[hh.1.1,hh.1.2]at hc0
  exact f7 (by simp[hf])
 ·have hl:s.Feeds.length=g.Feeds.length∧s.Wires.length=g.Wires.length:=by simp at hc0;omega
  refine e8 ?_;simp only[zT,reduceIte,Nat.reduceEqDiff];refine hK1 _ _ ?_;refine b7 [2,3] ?_;simp only[zP,Nat.reduceEqDiff,reduceIte];refine b9 fun K2 hK2=>?_;refine aS fun K hK=>?_;simp -dsimp;apply hK;clear hK K;refine e7 ?_;refine b7 [2,3,5] ?_;simp only[zP,Nat.reduceEqDiff,reduceIte];refine g7 [2,3] (α:=Nat) (fun k=>[(5,I k)]) (fun k=>[some (.els 4 [g.cells]),some (.els 2 [s.cells])]) (fun k=>k≤g.Wires.length∧a6a g s k=true) (fun k=>g.Wires.length-k) 0 ?_ ?_ ?_
  ·exact⟨Nat.zero_le _,rfl⟩
  ·exact d8 [some 0,some 1] rfl (by simp) (by simp)
  rintro k ⟨k1,k2⟩;simp only[zP,Nat.reduceEqDiff,reduceIte];refine b9 fun K3 hK3=>?_;refine aS fun K hK=>?_;simp -dsimp;apply hK;clear hK K;refine d9 rfl (fun hc1=>?_) (fun hc1=>?_)
  ·have hkl:k<g.Wires.length:=by simpa using hc1
   obtain⟨w,hw⟩:∃w,g.Wires[k]?=some w:=⟨_,List.getElem?_eq_getElem hkl⟩;have wk:=zW k (by omega);have gb:=v8 (l:=s.Wires) (k:=k) (by omega);refine e8 ?_;simp only[zT,reduceIte,Nat.reduceEqDiff];refine hK3 _ _ ?_;refine b7 [2,3,5] ?_;simp only[zP,Nat.reduceEqDiff,reduceIte];refine b9 fun K4 hK4=>?_;refine e7 ?_;refine aS fun K hK=>?_;simp -dsimp [hw,gb,hl.2];refine l4 (i6 (bAt s.Wires k)) (fun _=>by simp[gb]) ?_;simp -dsimp [hw,gb,hl.2];apply hK;clear hK K;refine d9 rfl (fun hc2=>?_) (fun hc2=>?_)
   ·refine aS fun K hK=>?_;simp -dsimp;apply hK;clear hK K;have hfl:(w.Sw||bAt s.Wires k)=false:=by cases hw1:w.Sw<;>cases hb1:bAt s.Wires k<;>simp[hw1,hb1]at hc2 ⊢
    have h1:a6a g s (k+1)=false:=by simp only[a6a,hw,hfl,Bool.and_false]
    have h2:=a7X h1 (g.Wires.length-(k+1));rw[show k+1+(g.Wires.length-(k+1))=g.Wires.length by omega]at h2;exact f7 (by simp[stB,h2])
   ·refine e8 ?_;simp only[zT,reduceIte,Nat.reduceEqDiff];refine hK4 _ _ ?_;refine b7 [2,3,5] ?_;simp only[zP,Nat.reduceEqDiff,reduceIte];refine aR fun K hK=>?_;simp -dsimp [wk];apply hK;clear hK K;simp only[zT,reduceIte,Nat.reduceEqDiff];refine⟨k+1,⟨by omega,?_⟩,by omega,d8 [some 0,some 1] rfl (by simp) (by simp)⟩;simp only[a6a,k2,hw,Bool.true_and]
    cases hw1:w.Sw<;>cases hb1:bAt s.Wires k<;>simp[hw1,hb1]at hc2 ⊢
  ·have hke:k=g.Wires.length:=by have hx:¬k<g.Wires.length:=(by simpa using hc1);omega
   subst hke;refine j0 ?_;simp only[zT,reduceIte,Nat.reduceEqDiff];refine hK2 _ _ ?_;refine b7 [] ?_;simp only[zP,Nat.reduceEqDiff,reduceIte];refine aS fun K hK=>?_;simp -dsimp;apply hK;clear hK K;exact f7 (by simp[stB,hl.1,hl.2,k2])
def lAt (l:List Ld):List Int:=l.map fun f=>f.At
@[simp] theorem c1O:lAt []=[]:=rfl
theorem b8s {l:List Ld} {x:Int}:(l.any fun f=>decide (f.At=x))=decide (x∈lAt l):=by
 unfold lAt;rw[Bool.eq_iff_iff];simp
theorem b4E (g:Gr) (l:List Ld) (n:Nat) (hn:g.Nodes=n) (hn1:0<n) (hn0:n≤1000) (hl0:l.length≤100000):d4 Try.prog 58 [g.av,lL l] (Bo (a2T g l l.length)):=by
 have f0:D8 n 9:=j7 (by omega) (by omega);have wn:IntKind.i64.wrap ((n:Int)-1)=(n:Int)-1:=f6 (by omega) (by omega);have hz:List.replicate n [AV.v (Value.int .i64 0)]=(a3a n []).map i4:=c1k n _ fun k=>rfl;refine d4.of_body Try.func58 rfl (by decide) (by simp[Try.ntmps58]) ?_;simp only[Try.ntmps58,Try.results58];refine aS fun K hK=>?_;simp -dsimp;apply hK;clear hK K;refine aS fun K hK=>?_;simp -dsimp [hn,f0];apply hK;clear hK K;refine b9 fun K1 hK1=>?_;refine aS fun K hK=>?_;simp -dsimp;apply hK;clear hK K;refine e7 ?_;refine b7 [1,2,5,6] ?_;simp only[zP,Nat.reduceEqDiff,reduceIte];refine g7 [1,2,5] (α:=Nat) (fun k=>[(6,I k)]) (fun k=>[some (.els 4 [g.cells]),some (.els 1 ((a3a n (lAt (l.take k))).map i4))]) (fun k=>k≤l.length∧a2T g l k=true) (fun k=>l.length-k) 0 ?_ ?_ ?_
 ·exact⟨Nat.zero_le _,rfl⟩
 ·exact d8 [some 0,some 1] rfl (by simp) (by simp[hn,hz])
 rintro k ⟨k1,k2⟩;simp only[zP,Nat.reduceEqDiff,reduceIte];refine b9 fun K2 hK2=>?_;refine aS fun K hK=>?_;simp -dsimp;apply hK;clear hK K;refine d9 rfl (fun hc0=>?_) (fun hc0=>?_)
 ·have hkl:k<l.length:=by simpa using hc0
  have wk:=zW k (by omega);obtain⟨f,hf⟩:∃f,l[k]?=some f:=⟨_,List.getElem?_eq_getElem hkl⟩;have hfd:ldB g (l.take k) f= !(!inr f.At 0 ((n:Int)-1)|| !inr f.Units (-40) 40|| !inr f.Rank 0 100|| !decide (O0 (lAt (l.take k)) f.At=0)):=by
   have e:((l.take k).any fun x=>decide (x.At=f.At))= !decide (O0 (lAt (l.take k)) f.At=0):=by
    rw[b8s,←decide_not];exact decide_eq_decide.2 (by rw[V0,Decidable.not_not])
   simp only[ldB,hn,e]
   cases inr f.At 0 ((n:Int)-1)<;>cases inr f.Units (-40) 40<;>cases inr f.Rank 0 100<;>cases decide (O0 (lAt (l.take k)) f.At=0)<;>rfl
  have hcn:=a0x f.At (lAt (l.take k));have hlt:(lAt (l.take k)).length≤k:=by unfold lAt;rw[List.length_map,List.length_take];omega
  have hcl:=a5m n (lAt (l.take k));have hn0l:0<(a3a n (lAt (l.take k))).length:=by omega
  have hend:ldB g (l.take k) f=false→a2T g l l.length=false:=fun h=>by
   have h1:a2T g l (k+1)=false:=by simp only[a2T,hf,h,Bool.and_false]
   have h2:=a8h h1 (l.length-(k+1))
   rwa [show k+1+(l.length-(k+1))=l.length by omega]at h2
  refine e8 ?_;simp only[zT,reduceIte,Nat.reduceEqDiff];refine hK2 _ _ ?_;refine b7 [1,2,5,6] ?_;simp only[zP,Nat.reduceEqDiff,reduceIte];refine b9 fun K3 hK3=>?_;refine e7 ?_;refine b9 fun K4 hK4=>?_;have hcase:inr f.At 0 ((n:Int)-1)=true→0≤f.At∧f.At.toNat<n:=fun h=>by rw[u5]at h;omega
  obtain⟨iA,hiA⟩:∃iA,iA=inr f.At 0 ((n:Int)-1):=⟨_,rfl⟩
  cases iA
  all_goals have hin:=hiA.symm
  rotate_left
  obtain⟨hA0,hat⟩:=hcase hin;have hal:f.At.toNat<(a3a n (lAt (l.take k))).length:=by omega
  have hga:(a3a n (lAt (l.take k)))[f.At.toNat]=O0 (lAt (l.take k)) f.At:=Option.some.inj (by rw[←List.getElem?_eq_getElem hal,Y7 hat,Int.toNat_of_nonneg hA0])
  rotate_left
  ·refine v6 k7 rfl fun K hK=>?_;simp -dsimp [hf,hn,wn,hin,hn0l,hn1];refine b8 _ (U2 _ _ _) (by simp) ?_;simp -dsimp [hf,hn,wn,hin,hn0l,hn1];refine l4 ((⟨0,0,0⟩:Ld).cells) (fun hm=>by simp[hin]at hm) ?_;simp -dsimp [hf,hn,wn,hin,hn0l,hn1];refine g6 _ (fun hm=>U2 0 (-40) 40) (by simp) ?_;simp -dsimp [hf,hn,wn,hin,hn0l,hn1];refine l4 ((⟨0,0,0⟩:Ld).cells) (fun hm=>by simp[hin]at hm) ?_;simp -dsimp [hf,hn,wn,hin,hn0l,hn1];refine g6 _ (fun hm=>U2 0 0 100) (by simp) ?_;simp -dsimp [hf,hn,wn,hin,hn0l,hn1];refine l4 ((⟨0,0,0⟩:Ld).cells) (fun hm=>by simp[hin]at hm) ?_;simp -dsimp [hf,hn,wn,hin,hn0l,hn1];refine hK _ _ _ (by decide+kernel) ?_;clear hK K;refine d9 rfl (fun hc1=>?_) (fun hc1=>?_)
   ·refine aS fun K hK=>?_;simp -dsimp;apply hK;clear hK K;exact f7 (by simp[hend (by rw[hfd,hin];rfl)])
   ·simp[hin]at hc1
  ·refine v6 k7 rfl fun K hK=>?_;simp -dsimp [hf,hn,wn,hin,hA0,hat,hal,hga];refine b8 _ (U2 _ _ _) (by simp) ?_;simp -dsimp [hf,hn,wn,hin,hA0,hat,hal,hga];refine l4 f.cells (fun _=>by simp[hf]) ?_;simp -dsimp [hf,hn,wn,hin,hA0,hat,hal,hga];refine g6 _ (fun hm=>U2 f.Units (-40) 40) (by simp) ?_;simp -dsimp [hf,hn,wn,hin,hA0,hat,hal,hga];refine l4 f.cells (fun _=>by simp[hf]) ?_;simp -dsimp [hf,hn,wn,hin,hA0,hat,hal,hga];refine g6 _ (fun hm=>U2 f.Rank 0 100) (by simp) ?_;simp -dsimp [hf,hn,wn,hin,hA0,hat,hal,hga];refine l4 f.cells (fun _=>by simp[hf]) ?_;simp -dsimp [hf,hn,wn,hin,hA0,hat,hal,hga];refine hK _ _ _ (by decide+kernel) ?_;clear hK K;refine d9 rfl (fun hc1=>?_) (fun hc1=>?_)
   ·refine aS fun K hK=>?_;simp -dsimp;apply hK;clear hK K;have hlf:ldB g (l.take k) f=false:=by
     rw[hfd,hin]
     cases h1:inr f.Units (-40) 40<;>cases h2:inr f.Rank 0 100<;>simp[h1,h2]at hc1 ⊢
     omega
    exact f7 (by simp[hend hlf])
   ·have hlt2:ldB g (l.take k) f=true:=by
     rw[hfd,hin]
     cases h1:inr f.Units (-40) 40<;>cases h2:inr f.Rank 0 100<;>simp[h1,h2]at hc1 ⊢
     omega
    have hst:=a9y (n:=n) (l:=lAt (l.take k)) (a:=f.At.toNat);rw[Int.toNat_of_nonneg hA0]at hst;have hsn:lAt (l.take (k+1))=lAt (l.take k)++[f.At]:=by unfold lAt;rw[List.take_add_one,hf];simp
    rw[←hsn]at hst;have wa:IntKind.i64.wrap (O0 (lAt (l.take k)) f.At+1)=O0 (lAt (l.take k)) f.At+1:=f6 (by omega) (by omega);refine e8 ?_;simp only[zT,reduceIte,Nat.reduceEqDiff];refine hK4 _ _ ?_;refine b7 [1,2,5,6] ?_;simp only[zP,Nat.reduceEqDiff,reduceIte];refine aR fun K hK=>?_;simp -dsimp [hf,hA0,hat,hal,hga,wa];apply hK;clear hK K;simp only[zT,reduceIte,Nat.reduceEqDiff];refine hK3 _ _ ?_;refine b7 [1,2,5,6] ?_;simp only[zP,Nat.reduceEqDiff,reduceIte];refine aR fun K hK=>?_;simp -dsimp [wk];apply hK;clear hK K;simp only[zT,reduceIte,Nat.reduceEqDiff];refine⟨k+1,⟨by omega,?_⟩,by omega,d8 [some 0,some 1] rfl (by simp) (by simp[←hst,List.map_set,i4,hn])⟩;simp only[a2T,k2,hf,hlt2,Bool.and_self]
 ·have hke:k=l.length:=by have hx:¬k<l.length:=(by simpa using hc0);omega
  subst hke;refine j0 ?_;simp only[zT,reduceIte,Nat.reduceEqDiff];refine hK1 _ _ ?_;refine b7 [] ?_;simp only[zP,Nat.reduceEqDiff,reduceIte];refine aS fun K hK=>?_;simp -dsimp;apply hK;clear hK K;exact f7 (by simp[k2])
theorem b8x (g:Gr) (s:Sta) (l:List Ld) (hw0:g.Wires.length≤100000) (hf0:g.Feeds.length≤100000) (hl0:l.length≤100000):d4 Try.prog 32 [g.av,s.av,lL l] (Bo (t4 g s l)):=by
 have hg:=b8n g hw0 hf0;have hs:=b5J g s hw0;have hl:grB g=true→d4 Try.prog 58 [g.av,lL l] (Bo (a2T g l l.length)):=fun h=>by
  have hbd:=r6 h;exact b4E g l g.Nodes.toNat (by omega) (by omega) (by omega) hl0
 refine d4.of_body Try.func32 rfl (by decide) (by simp[Try.ntmps32]) ?_;simp only[Try.ntmps32,Try.results32];refine aS fun K hK=>?_;simp -dsimp;apply hK;clear hK K;refine aS fun K hK=>?_;simp -dsimp;refine b8 _ (hg) (by simp) ?_;simp -dsimp;refine g6 _ (fun hm=>hs) (by simp) ?_;simp -dsimp;refine g6 _ (fun hm=>hl (by simp at hm;exact hm.1)) (by simp) ?_;simp -dsimp;apply hK;clear hK K;exact f7 (by simp[t4])
end Go.Cur
end
section
namespace Go.Cur
open Go.AM Go.Proofs
def nmS (n:Nat) (f:Nat→Nat):List Int:=(List.range n).map fun(k:Nat)=>((f k:Nat):Int)
theorem a0A {n:Nat} {f:Nat→Nat} {k:Nat} (h:k<n):(nmS n f)[k]?=some ((f k:Nat):Int):=by
 unfold nmS;rw[List.getElem?_map,List.getElem?_range h];rfl
theorem a8i (n:Nat) (f:Nat→Nat):(nmS n f).length=n:=by simp[nmS]
theorem a7e {n:Nat} {f:Nat→Nat} {a v:Nat}:(nmS n f).set a (v:Int)=nmS n fun k=>if k=a then v else f k:=by
 refine List.ext_getElem? fun i=>?_
 by_cases hi:i<n
 ·rw[a0A hi]
  by_cases h2:i=a
  ·subst h2;rw[List.getElem?_set_self (by simp[nmS];omega),if_pos rfl]
  ·rw[List.getElem?_set_ne (fun e=>h2 e.symm),a0A hi,if_neg h2]
 ·rw[List.getElem?_eq_none (by simp[nmS];omega),List.getElem?_eq_none (by simp[nmS];omega)]
theorem a1S {n:Nat} {f h:Nat→Nat} (e:∀k,k<n→f k=h k):nmS n f=nmS n h:=by
 unfold nmS;exact List.map_congr_left fun k hk=>by rw[e k (List.mem_range.1 hk)]
theorem c0U {l:List Wr} {b:List Bool} {k:Nat} {w:Wr} {c:Bool} (hl:l[k]?=some w) (hb:b[k]?=some c):onW (l.take (k+1)) (b.take (k+1))=onW (l.take k) (b.take k)++if c=true then [⟨w.A.toNat,w.B.toNat,w.Siem⟩]else []:=by
 have hk:=(List.getElem?_eq_some_iff.1 hl).1;have hk2:=(List.getElem?_eq_some_iff.1 hb).1;unfold onW;rw[List.take_add_one,List.take_add_one,hl,hb,List.zip_append (by simp;omega),List.filterMap_append]
 cases c<;>simp
theorem b6d (E:List (Nat×Nat)) (e:Nat×Nat) (f:Nat→Nat):nmR (E++[e]) f=nmE (nmR E f) e:=by
 unfold nmR;rw[List.foldl_append];rfl
def hdL (E:List (Nat×Nat)) (n i:Nat):List (List Nat):=((List.range i).filter fun j=>decide (nm E n j=j)).map (cp E n)
theorem b6f (E:List (Nat×Nat)) (n i:Nat):hdL E n (i+1)=hdL E n i++if nm E n i=i then [cp E n i]else []:=by
 unfold hdL;rw[List.range_succ,List.filter_append,List.map_append]
 by_cases h:nm E n i=i<;>simp[h]
theorem b7u (E:List (Nat×Nat)) (n i:Nat):(hdL E n i).length≤i:=by
 unfold hdL;rw[List.length_map];have:=List.length_filter_le (fun j=>decide (nm E n j=j)) (List.range i);simpa using this
def ptL (E:List (Nat×Nat)) (n i k:Nat):List Nat:=(List.range k).filter fun q=>decide (nm E n q=i)
theorem a8W (E:List (Nat×Nat)) (n i:Nat):ptL E n i i=[]:=by
 unfold ptL;rw[List.filter_eq_nil_iff];intro q hq;have:=b7s (E:=E) (n:=n) (k:=q);rw[List.mem_range]at hq;simp;omega
theorem b4R (E:List (Nat×Nat)) (n i k:Nat):ptL E n i (k+1)=ptL E n i k++if nm E n k=i then [k]else []:=by
 unfold ptL;rw[List.range_succ,List.filter_append]
 by_cases h:nm E n k=i<;>simp[h]
theorem b9h (E:List (Nat×Nat)) (n i k:Nat):(ptL E n i k).length≤k:=by
 unfold ptL;have:=List.length_filter_le (fun q=>decide (nm E n q=i)) (List.range k);simpa using this
theorem a1n (g:Gr) (s:Sta) (hnt:o8 g s):d4 Try.prog 23 [g.av,s.av] (.lst 1 ((j8 g s).map pAV)):=by
 have hbd:=r6 hnt.gr;have hsw:=hnt.sw;have hwr:=hnt.wires;have hwo:∀(k:Nat) w,g.Wires[k]?=some w→w.A.toNat<g.Nodes.toNat∧w.B.toNat<g.Nodes.toNat∧0≤w.A∧0≤w.B:=fun k w hw=>by
  have:=hwr w (List.mem_of_getElem? hw);simp only[wrB,Bool.and_eq_true,u5]at this;omega
 have hpl:j8 g s=hdL (a6Y g s) g.Nodes.toNat g.Nodes.toNat:=rfl;rw[hpl];have hEe:a6Y g s=R9 (onW g.Wires s.Wires):=rfl;obtain⟨n,hn⟩:∃n:Nat,g.Nodes=n:=⟨g.Nodes.toNat,by omega⟩;have hnn:g.Nodes.toNat=n:=by omega
 rw[hnn]at hwo ⊢;generalize a6Y g s=E at hEe ⊢;have f0:D8 n 9:=j7 (by omega) (by omega);have hz:List.replicate n [AV.v (Value.int .i64 0)]=(nmS n fun _=>0).map i4:=c1k n _ fun k=>rfl;refine d4.of_body Try.func23 rfl (by decide) (by simp[Try.ntmps23]) ?_;simp only[Try.ntmps23,Try.results23];refine aS fun K hK=>?_;simp -dsimp;apply hK;clear hK K;refine aS fun K hK=>?_;simp -dsimp [hn,f0];apply hK;clear hK K;refine b9 fun K1 hK1=>?_;refine aS fun K hK=>?_;simp -dsimp;apply hK;clear hK K;refine e7 ?_;refine b7 [2,3,5,6] ?_;simp only[zP,Nat.reduceEqDiff,reduceIte];refine g7 [2,3,5] (α:=Nat) (fun k=>[(6,I k)]) (fun k=>[some (.els 4 [g.cells]),some (.els 2 [s.cells]),some (.els 1 ((nmS n fun j=>if j<k then j else 0).map i4))]) (fun k=>k≤n) (fun k=>n-k) 0 ?_ ?_ ?_
 ·exact Nat.zero_le _
 ·exact d8 [some 0,some 1,some 2] rfl (by simp) (by simp[hn,hz])
 rintro k k1;simp only[zP,Nat.reduceEqDiff,reduceIte];refine b9 fun K2 hK2=>?_;refine aS fun K hK=>?_;simp -dsimp [hn];apply hK;clear hK K;refine d9 rfl (fun hc0=>?_) (fun hc0=>?_)
 ·have hkl:k<n:=by simpa using hc0
  have wk:=zW k (by omega);have hnl:=a8i n fun j=>if j<k then j else 0;have hst:=a7e (n:=n) (f:=fun j=>if j<k then j else 0) (a:=k) (v:=k);have hst2:nmS n (fun j=>if j=k then k else if j<k then j else 0)=nmS n fun j=>if j<k+1 then j else 0:=a1S fun j hj=>by
   by_cases h1:j=k
   ·rw[if_pos h1,if_pos (by omega),h1]
   ·rw[if_neg h1]
    by_cases h2:j<k
    ·rw[if_pos h2,if_pos (by omega)]
    ·rw[if_neg h2,if_neg (by omega)]
  rw[hst2]at hst;generalize (nmS n fun j=>if j<k then j else 0)=R at hnl hst ⊢;refine e8 ?_;simp only[zT,reduceIte,Nat.reduceEqDiff];refine hK2 _ _ ?_;refine b7 [2,3,5,6] ?_;simp only[zP,Nat.reduceEqDiff,reduceIte];refine b9 fun K3 hK3=>?_;refine e7 ?_;refine aR fun K hK=>?_;simp -dsimp [hnl,hkl];apply hK;clear hK K;simp only[zT,reduceIte,Nat.reduceEqDiff];refine hK3 _ _ ?_;refine b7 [2,3,5,6] ?_;simp only[zP,Nat.reduceEqDiff,reduceIte];refine aR fun K hK=>?_;simp -dsimp [wk];apply hK;clear hK K;simp only[zT,reduceIte,Nat.reduceEqDiff];exact⟨k+1,by omega,by omega,d8 [some 0,some 1,some 2] rfl (by simp) (by simp[←hst,List.map_set,i4,hn])⟩
 ·have hke:k=n:=by have hx:¬k<n:=(by simpa using hc0);omega
  have e0:nmS n (fun j=>if j<k then j else 0)=nmS n (nmT E 0):=a1S fun j hj=>by rw[if_pos (by omega)];rfl
  rw[e0];refine j0 ?_;simp only[zT,reduceIte,Nat.reduceEqDiff];refine hK1 _ _ ?_;refine b7 [2,3,5] ?_;simp only[zP,Nat.reduceEqDiff,reduceIte];refine b9 fun K4 hK4=>?_;refine aS fun K hK=>?_;simp -dsimp;apply hK;clear hK K;refine e7 ?_;refine b7 [2,3,5,7] ?_;simp only[zP,Nat.reduceEqDiff,reduceIte];refine g7 [2,3,5] (α:=Nat) (fun t=>[(7,I t)]) (fun t=>[some (.els 4 [g.cells]),some (.els 2 [s.cells]),some (.els 1 ((nmS n (nmT E t)).map i4))]) (fun t=>t≤n) (fun t=>n-t) 0 ?_ ?_ ?_
  ·exact Nat.zero_le _
  ·exact d8 [some 0,some 1,some 2] rfl (by simp) (by simp[hn])
  rintro t t1;simp only[zP,Nat.reduceEqDiff,reduceIte];refine b9 fun K5 hK5=>?_;refine aS fun K hK=>?_;simp -dsimp [hn];apply hK;clear hK K;refine d9 rfl (fun hc1=>?_) (fun hc1=>?_)
  ·have htl:t<n:=by simpa using hc1
   have wt:=zW t (by omega);refine e8 ?_;simp only[zT,reduceIte,Nat.reduceEqDiff];refine hK5 _ _ ?_;refine b7 [2,3,5,7] ?_;simp only[zP,Nat.reduceEqDiff,reduceIte];refine b9 fun K6 hK6=>?_;refine e7 ?_;refine aS fun K hK=>?_;simp -dsimp;apply hK;clear hK K;refine e7 ?_;refine b7 [2,3,5,7,8] ?_;simp only[zP,Nat.reduceEqDiff,reduceIte];refine g7 [2,3,5,7] (α:=Nat) (fun i=>[(8,I i)]) (fun i=>[some (.els 4 [g.cells]),some (.els 2 [s.cells]),some (.els 1 ((nmS n (nmR (R9 (onW (g.Wires.take i) (s.Wires.take i))) (nmT E t))).map i4))]) (fun i=>i≤g.Wires.length) (fun i=>g.Wires.length-i) 0 ?_ ?_ ?_
   ·exact Nat.zero_le _
   ·exact d8 [some 0,some 1,some 2] rfl (by simp) (by simp[onW,R9,nmR,hn])
   rintro i i1;simp only[zP,Nat.reduceEqDiff,reduceIte];refine b9 fun K7 hK7=>?_;refine aS fun K hK=>?_;simp -dsimp;apply hK;clear hK K;refine d9 rfl (fun hc2=>?_) (fun hc2=>?_)
   ·have hil:i<g.Wires.length:=by simpa using hc2
    have wi:=zW i (by omega);obtain⟨w,hw⟩:∃w,g.Wires[i]?=some w:=⟨_,List.getElem?_eq_getElem hil⟩;have gb:=v8 (l:=s.Wires) (k:=i) (by omega);have hos:=c0U hw gb;obtain⟨ha,hb,ha0,hb0⟩:=hwo i w hw;obtain⟨a,hae⟩:∃a:Nat,w.A=a:=⟨w.A.toNat,by omega⟩;obtain⟨b,hbe⟩:∃b:Nat,w.B=b:=⟨w.B.toNat,by omega⟩;have han:a<n:=by omega
    have hbn:b<n:=by omega
    obtain⟨f,hf⟩:∃f,f=nmR (R9 (onW (g.Wires.take i) (s.Wires.take i))) (nmT E t):=⟨_,rfl⟩;rw[←hf];have hnl:=a8i n f;have ga:=a0A (f:=f) han;have gbb:=a0A (f:=f) hbn;have hst:((nmS n f).set a ((min (f a) (f b):Nat):Int)).set b ((min (f a) (f b):Nat):Int)=nmS n (nmE f (a,b)):=by
     rw[a7e,a7e];refine a1S fun j hj=>?_;unfold nmE;simp only
     by_cases h1:j=b
     ·rw[if_pos h1,if_pos (Or.inr h1)]
     ·rw[if_neg h1]
      by_cases h2:j=a
      ·rw[if_pos h2,if_pos (Or.inl h2)]
      ·rw[if_neg h2,if_neg (by omega)]
    have hmn:(if f b<f a then((f b:Nat):Int)else((f a:Nat):Int))=((min (f a) (f b):Nat):Int):=by split<;>omega
    have hab:a≠b:=by have:=hwr w (List.mem_of_getElem? hw);simp only[wrB,Bool.and_eq_true,Bool.not_eq_true',decide_eq_false_iff_not]at this;omega
    have his:i<s.Wires.length:=by omega
    have hgs:s.Wires[i]=bAt s.Wires i:=Option.some.inj (by rw[←List.getElem?_eq_getElem his];exact gb);obtain⟨R,hR⟩:∃R,R=nmS n f:=⟨_,rfl⟩;rw[←hR]at hnl ga gbb hst ⊢;have hal:a<R.length:=by omega
    have hbl:b<R.length:=by omega
    have hga:R[a]=((f a:Nat):Int):=Option.some.inj (by rw[←List.getElem?_eq_getElem hal];exact ga);have hgb:R[b]=((f b:Nat):Int):=Option.some.inj (by rw[←List.getElem?_eq_getElem hbl];exact gbb);refine e8 ?_;simp only[zT,reduceIte,Nat.reduceEqDiff];refine hK7 _ _ ?_;refine b7 [2,3,5,7,8] ?_;simp only[zP,Nat.reduceEqDiff,reduceIte];refine b9 fun K8 hK8=>?_;refine e7 ?_;refine aS fun K hK=>?_;simp -dsimp [hw];apply hK;clear hK K;refine aS fun K hK=>?_;simp -dsimp [hgs,his];apply hK;clear hK K;refine d9 rfl (fun hc3=>?_) (fun hc3=>?_)
    ·refine v6 k7 rfl fun K hK=>?_;simp -dsimp [hae,hbe,hal,hbl,han,hbn,hga,hgb,hmn];refine hK _ _ _ (by decide+kernel) ?_;clear hK K;refine F4 k7 rfl fun K hK=>?_;simp -dsimp [hae,hbe,hal,hbl,han,hbn,hab,hgb];refine hK _ _ _ (by decide+kernel) ?_;clear hK K;simp only[zT,reduceIte,Nat.reduceEqDiff];refine hK8 _ _ ?_;refine b7 [2,3,5,7,8] ?_;simp only[zP,Nat.reduceEqDiff,reduceIte];refine aR fun K hK=>?_;simp -dsimp [wi];apply hK;clear hK K;simp only[zT,reduceIte,Nat.reduceEqDiff];have hon:R9 (onW (g.Wires.take (i+1)) (s.Wires.take (i+1)))=R9 (onW (g.Wires.take i) (s.Wires.take i))++[(a,b)]:=by rw[hos,if_pos hc3];unfold R9;rw[List.map_append];simp[Wn.e,hae,hbe]
     refine⟨i+1,by omega,by omega,d8 [some 0,some 1,some 2] rfl (by simp) ?_⟩;rw[hon,b6d,←hf,←hst];simp[List.map_set,i4,hn]
    ·refine e8 ?_;simp only[zT,reduceIte,Nat.reduceEqDiff];refine hK8 _ _ ?_;refine b7 [2,3,5,7,8] ?_;simp only[zP,Nat.reduceEqDiff,reduceIte];refine aR fun K hK=>?_;simp -dsimp [wi];apply hK;clear hK K;simp only[zT,reduceIte,Nat.reduceEqDiff];have hon:R9 (onW (g.Wires.take (i+1)) (s.Wires.take (i+1)))=R9 (onW (g.Wires.take i) (s.Wires.take i)):=by rw[hos,if_neg (by simp[hc3]),List.append_nil]
     refine⟨i+1,by omega,by omega,d8 [some 0,some 1,some 2] rfl (by simp) ?_⟩;rw[hon,←hf];simp[hn,hR]
   ·have hie:i=g.Wires.length:=by have hx:¬i<g.Wires.length:=(by simpa using hc2);omega
    have e1:nmR (R9 (onW (g.Wires.take i) (s.Wires.take i))) (nmT E t)=nmT E (t+1):=by rw[hie,List.take_of_length_le (Nat.le_refl _),List.take_of_length_le (by omega),←hEe];rfl
    rw[e1];refine j0 ?_;simp only[zT,reduceIte,Nat.reduceEqDiff];refine hK6 _ _ ?_;refine b7 [2,3,5,7] ?_;simp only[zP,Nat.reduceEqDiff,reduceIte];refine aR fun K hK=>?_;simp -dsimp [wt];apply hK;clear hK K;simp only[zT,reduceIte,Nat.reduceEqDiff];exact⟨t+1,by omega,by omega,d8 [some 0,some 1,some 2] rfl (by simp) (by simp[hn])⟩
  ·have hte:t=n:=by have hx:¬t<n:=(by simpa using hc1);omega
   rw[hte,show nmT E n=nm E n from rfl];refine j0 ?_;simp only[zT,reduceIte,Nat.reduceEqDiff];refine hK4 _ _ ?_;refine b7 [2,5] ?_;simp only[zP,Nat.reduceEqDiff,reduceIte];refine aS fun K hK=>?_;simp -dsimp;apply hK;clear hK K;refine b9 fun K9 hK9=>?_;refine aS fun K hK=>?_;simp -dsimp;apply hK;clear hK K;refine e7 ?_;refine b7 [2,5,11,12] ?_;simp only[zP,Nat.reduceEqDiff,reduceIte];refine g7 [2,5] (α:=Nat) (fun i=>[(11, .row 3 0 (hdL E n i).length),(12,I i)]) (fun i=>[some (.els 4 [g.cells]),some (.els 2 [s.cells]),some (.els 1 ((nmS n (nm E n)).map i4)),some (.els 1 ((hdL E n i).map pAV))]) (fun i=>i≤n) (fun i=>n-i) 0 ?_ ?_ ?_
   ·exact Nat.zero_le _
   ·exact(z7 11 1 (by simp)).trans (d8 [some 0,some 1,some 2,some 3] rfl (by simp[hdL]) (by simp[hdL,hn]))
   rintro i i1;simp only[zP,Nat.reduceEqDiff,reduceIte];refine b9 fun K10 hK10=>?_;refine aS fun K hK=>?_;simp -dsimp [hn];apply hK;clear hK K;refine d9 rfl (fun hc4=>?_) (fun hc4=>?_)
   ·have hil:i<n:=by simpa using hc4
    have wi:=zW i (by omega);have gi:=a0A (f:=nm E n) hil;have hnl:=a8i n (nm E n);have hhs:=b6f E n i;have hhl:=b7u E n i;have f1:D8 ((hdL E n i).length+1) 25:=j7 (by omega) (by omega);have hil2:i<(nmS n (nm E n)).length:=by omega
    have hgi:(nmS n (nm E n))[i]=((nm E n i:Nat):Int):=Option.some.inj (by rw[←List.getElem?_eq_getElem hil2];exact gi);refine e8 ?_;simp only[zT,reduceIte,Nat.reduceEqDiff];refine hK10 _ _ ?_;refine b7 [2,5,11,12] ?_;simp only[zP,Nat.reduceEqDiff,reduceIte];refine b9 fun K11 hK11=>?_;refine e7 ?_;refine b9 fun K12 hK12=>?_;refine aS fun K hK=>?_;simp -dsimp [hil2,hil,hgi];apply hK;clear hK K;refine d9 rfl (fun hc5=>?_) (fun hc5=>?_)
    ·have hne:¬nm E n i=i:=by intro h;simp[h]at hc5
     rw[if_neg hne,List.append_nil]at hhs;refine j0 ?_;simp only[zT,reduceIte,Nat.reduceEqDiff];refine hK11 _ _ ?_;refine b7 [2,5,11,12] ?_;simp only[zP,Nat.reduceEqDiff,reduceIte];refine aR fun K hK=>?_;simp -dsimp [wi];apply hK;clear hK K;simp only[zT,reduceIte,Nat.reduceEqDiff];exact⟨i+1,by omega,by omega,d8 [some 0,some 1,some 2,some 3] rfl (by simp[hhs]) (by simp[hhs,hn])⟩
    ·have heq:nm E n i=i:=by have h:=hc5;simp at h;omega
     rw[if_pos heq]at hhs;refine e8 ?_;simp only[zT,reduceIte,Nat.reduceEqDiff];refine hK12 _ _ ?_;refine b7 [2,5,11,12] ?_;simp only[zP,Nat.reduceEqDiff,reduceIte];refine aS fun K hK=>?_;simp -dsimp;apply hK;clear hK K;refine b9 fun K13 hK13=>?_;refine aS fun K hK=>?_;simp -dsimp;apply hK;clear hK K;refine e7 ?_;refine b7 [2,5,11,12,13,14] ?_;simp only[zP,Nat.reduceEqDiff,reduceIte];refine g7 [2,5,11,12] (α:=Nat) (fun k=>[(13, .row 4 0 (ptL E n i k).length),(14,I k)]) (fun k=>[some (.els 4 [g.cells]),some (.els 2 [s.cells]),some (.els 1 ((nmS n (nm E n)).map i4)),some (.els 1 ((hdL E n i).map pAV)),some (.els 1 ((upN (ptL E n i k)).map i4))]) (fun k=>k≤n) (fun k=>n-k) i ?_ ?_ ?_
     ·exact i1
     ·exact(z7 13 1 (by simp)).trans (d8 [some 0,some 1,some 2,some 3,some 4] rfl (by simp[a8W]) (by simp[a8W,upN,hn]))
     rintro k k1;simp only[zP,Nat.reduceEqDiff,reduceIte];refine b9 fun K14 hK14=>?_;refine aS fun K hK=>?_;simp -dsimp [hn];apply hK;clear hK K;refine d9 rfl (fun hc6=>?_) (fun hc6=>?_)
     ·have hkl:k<n:=by simpa using hc6
      have wk:=zW k (by omega);have gk:=a0A (f:=nm E n) hkl;have hps:=b4R E n i k;have hpl2:=b9h E n i k;have hul:=o9 (ptL E n i k);have f2:D8 ((ptL E n i k).length+1) 9:=j7 (by omega) (by omega);have hkl2:k<(nmS n (nm E n)).length:=by omega
      have hgk:(nmS n (nm E n))[k]=((nm E n k:Nat):Int):=Option.some.inj (by rw[←List.getElem?_eq_getElem hkl2];exact gk);refine e8 ?_;simp only[zT,reduceIte,Nat.reduceEqDiff];refine hK14 _ _ ?_;refine b7 [2,5,11,12,13,14] ?_;simp only[zP,Nat.reduceEqDiff,reduceIte];refine b9 fun K15 hK15=>?_;refine e7 ?_;refine aS fun K hK=>?_;simp -dsimp [hkl2,hkl,hgk];apply hK;clear hK K;refine d9 rfl (fun hc7=>?_) (fun hc7=>?_)
      ·have hnk:nm E n k=i:=by have h:=hc7;simp at h;omega
       rw[if_pos hnk]at hps;refine aR fun K hK=>?_;simp -dsimp [f2,hul];apply hK;clear hK K;simp only[zT,reduceIte,Nat.reduceEqDiff];refine hK15 _ _ ?_;refine b7 [2,5,11,12,13,14] ?_;simp only[zP,Nat.reduceEqDiff,reduceIte];refine aR fun K hK=>?_;simp -dsimp [wk];apply hK;clear hK K;simp only[zT,reduceIte,Nat.reduceEqDiff];exact⟨k+1,by omega,by omega,d8 [some 0,some 1,some 2,some 3,some 5] rfl (by simp[hps]) (by simp[hps,upN,hn])⟩
      ·have hnk:¬nm E n k=i:=by intro h;simp[h]at hc7
       rw[if_neg hnk,List.append_nil]at hps;refine e8 ?_;simp only[zT,reduceIte,Nat.reduceEqDiff];refine hK15 _ _ ?_;refine b7 [2,5,11,12,13,14] ?_;simp only[zP,Nat.reduceEqDiff,reduceIte];refine aR fun K hK=>?_;simp -dsimp [wk];apply hK;clear hK K;simp only[zT,reduceIte,Nat.reduceEqDiff];exact⟨k+1,by omega,by omega,d8 [some 0,some 1,some 2,some 3,some 4] rfl (by simp[hps]) (by simp[hps,hn])⟩
     ·have hke:k=n:=by have hx:¬k<n:=(by simpa using hc6);omega
      have hcp:ptL E n i k=cp E n i:=by rw[hke];rfl
      rw[hcp];have hul:=o9 (cp E n i);have htk:List.take (cp E n i).length ((upN (cp E n i)).map i4)=(upN (cp E n i)).map i4:=List.take_of_length_le (by rw[List.length_map];omega);refine a4a (B9 (T':=[(2, .ptr 0 0 0),(5, .row 2 0 n),(11, .row 3 0 (hdL E n i).length),(12,I i),(13,iL (upN (cp E n i)))]) (H':=[some (.els 4 [g.cells]),some (.els 2 [s.cells]),some (.els 1 ((nmS n (nm E n)).map i4)),some (.els 1 ((hdL E n i).map pAV))]) [some 0,some 1,some 2,some 3] rfl ⟨.inr (by simp), .inr (by simp), .inr (by simp), .inr (by simp), .inr (by simp[htk,hul]),trivial⟩ (by simp[pAV,hn])) ?_;refine j0 ?_;simp only[zT,reduceIte,Nat.reduceEqDiff];refine hK13 _ _ ?_;refine b7 [2,5,11,12,13] ?_;simp only[zP,Nat.reduceEqDiff,reduceIte];refine aR fun K hK=>?_;simp -dsimp [f1];apply hK;clear hK K;simp only[zT,reduceIte,Nat.reduceEqDiff];refine hK11 _ _ ?_;refine b7 [2,5,11,12] ?_;simp only[zP,Nat.reduceEqDiff,reduceIte];refine aR fun K hK=>?_;simp -dsimp [wi];apply hK;clear hK K;simp only[zT,reduceIte,Nat.reduceEqDiff];exact⟨i+1,by omega,by omega,d8 [some 0,some 1,some 2,some 4] rfl (by simp[hhs]) (by simp[hhs,pAV,hn])⟩
   ·have hie:i=n:=by have hx:¬i<n:=(by simpa using hc4);omega
    rw[hie];refine j0 ?_;simp only[zT,reduceIte,Nat.reduceEqDiff];refine hK9 _ _ ?_;refine b7 [11] ?_;simp only[zP,Nat.reduceEqDiff,reduceIte];refine aS fun K hK=>?_;simp -dsimp;apply hK;clear hK K;exact f7 (by simp[pAV])
end Go.Cur
end
section
namespace Go.Cur
open Go.AM Go.Proofs
theorem a2h (m:List (List Int)) (b:List Int) (n:Nat) (hq:Sq m n) (h1:1≤n) (hn:n≤10) (hb:b.length=n):e9 Try.prog 76 [mL m,iL b] [] [] (.tup [.row 0 0 n,I (wr (a6X m))]) [] [some (.els 1 ((a1A m b).map i4))]:=by
 have hml:=hq.len;have hdet:=b6K m n hq h1 hn;refine e9.of_bodyG [] Try.func76 rfl (by decide) (by simp[Try.ntmps76]) rfl rfl ?_;intro J hJ;simp only[Try.ntmps76,Try.results76];refine gS fun K hK=>?_;simp -dsimp;apply hK;clear hK K;refine gS fun K hK=>?_;simp -dsimp;apply hK;clear hK K;refine b6 fun K1 hK1=>?_;refine gS fun K hK=>?_;simp -dsimp;apply hK;clear hK K;refine d5 ?_;refine b5 [0,1,6,7] (Or.inr (by simp)) ?_;simp only[zP,Nat.reduceEqDiff,reduceIte];refine f5 [0,1] (α:=Nat) (fun k=>[(6, .row 0 0 k),(7,I k)]) (fun k=>[some (.els 1 (((a1A m b).take k).map i4))]) (fun k=>k≤n) (fun k=>n-k) 0 ?_ ?_ ?_
 ·exact Nat.zero_le _
 ·exact l9 ((z7 6 1 (by simp)).trans (i7 (by simp))) (by simp)
 rintro k k1;simp only[zP,Nat.reduceEqDiff,reduceIte];refine b6 fun K2 hK2=>?_;refine gS fun K hK=>?_;simp -dsimp;apply hK;clear hK K;refine d6 rfl (fun hc0=>?_) (fun hc0=>?_)
 ·have hkn:k<n:=by rw[←hml];simpa using hc0
  have wk:=zW k (by omega);have gsk:(a1A m b)[k]?=some (wr (a6X (a7a m b k))):=by
   unfold a1A;rw[List.getElem?_map,List.getElem?_range (by omega)];rfl
  have hsl:min k (a1A m b).length=k:=by simp only[a1A,List.length_map,List.length_range];omega
  have hdk:=b6K (a7a m b k) n (b1S hq) h1 hn;have hrl:=Y8 (m:=m) (b:=b) (k:=k);have hrg:=fun i (hi:i<n)=>a1l (m:=m) (b:=b) (k:=k) (i:=i) (by omega);generalize a7a m b k=M at gsk hdk hrl hrg;refine d7 ?_;simp only[zT,reduceIte,Nat.reduceEqDiff];refine hK2 _ _ ?_;refine b5 [0,1,6,7] (Or.inr (by simp)) ?_;simp only[zP,Nat.reduceEqDiff,reduceIte];refine b6 fun K3 hK3=>?_;refine d5 ?_;refine gS fun K hK=>?_;simp -dsimp;apply hK;clear hK K;refine b6 fun K4 hK4=>?_;refine gS fun K hK=>?_;simp -dsimp;apply hK;clear hK K;refine d5 ?_;refine b5 [0,1,6,7,8,9] (Or.inr (by simp)) ?_;simp only[zP,Nat.reduceEqDiff,reduceIte];refine f5 [0,1,6,7] (α:=Nat) (fun i=>[(8, .row 1 0 i),(9,I i)]) (fun i=>[some (.els 1 (((a1A m b).take k).map i4)),some (.els 1 ((M.take i).map a2Z))]) (fun i=>i≤n) (fun i=>n-i) 0 ?_ ?_ ?_
  ·exact Nat.zero_le _
  ·exact l9 ((z7 8 1 (by simp)).trans (d8 [some 0,some 1] rfl (by simp) (by simp))) (by simp)
  rintro i i1;simp only[zP,Nat.reduceEqDiff,reduceIte];refine b6 fun K5 hK5=>?_;refine gS fun K hK=>?_;simp -dsimp;apply hK;clear hK K;refine d6 rfl (fun hc1=>?_) (fun hc1=>?_)
  ·have hin:i<n:=by rw[←hml];simpa using hc1
   have wi:=zW i (by omega);obtain⟨gr,hrn⟩:=hq.row hin;have gb:=A5 (l:=b) (k:=i) (by omega);have hgi:=hrg i hin;have hMt:M.take (i+1)=M.take i++[(H6 m i).set k (at0 b i)]:=by rw[List.take_add_one,hgi];rfl
   have hmin:min i M.length=i:=by omega
   have hne:H6 m i≠[]:=by intro e;rw[e]at hrn;simp at hrn;omega
   generalize H6 m i=r at gr hrn hMt hgi hne;have f1:D8 (i+1) 25:=j7 (by omega) (by omega);have f0:D8 n 9:=j7 (by omega) (by omega);have hn0:0<n:=h1;have hnz:¬n=0:=by omega
   have htr:List.take n ((r.map i4).set k [I (at0 b (i:Int))])=(r.map i4).set k [I (at0 b (i:Int))]:=List.take_of_length_le (by simp;omega);refine d7 ?_;simp only[zT,reduceIte,Nat.reduceEqDiff];refine hK5 _ _ ?_;refine b5 [0,1,6,7,8,9] (Or.inr (by simp)) ?_;simp only[zP,Nat.reduceEqDiff,reduceIte];refine b6 fun K6 hK6=>?_;refine d5 ?_;refine gS fun K hK=>?_;simp -dsimp [gr,hrn,f0,hne,hn0,hnz];apply hK;clear hK K;refine gS fun K hK=>?_;simp -dsimp [gb,hrn,hkn];apply hK;clear hK K;refine R8 (by decide) ?_;refine gR fun K hK=>?_;simp -dsimp [f1,hmin];apply hK;clear hK K;simp only[zT,reduceIte,Nat.reduceEqDiff];refine hK6 _ _ ?_;refine b5 [0,1,6,7,8,9] (Or.inr (by simp)) ?_;simp only[zP,Nat.reduceEqDiff,reduceIte];refine gR fun K hK=>?_;simp -dsimp [wi];apply hK;clear hK K;simp only[zT,reduceIte,Nat.reduceEqDiff];exact⟨i+1,by omega,by omega,l9 (B9 [some 0,some 4] rfl (by simp[hmin,hrn]) (by simp[hmin,hrn,List.take_add_one,hgi,List.map_set,htr])) (by simp)⟩
  ·have hil:¬i<m.length:=by simpa using hc1
   have hin:i=n:=by omega
   have htk:List.take i (M.map a2Z)=M.map a2Z:=List.take_of_length_le (by simp;omega);have hmin:min i M.length=i:=by omega
   have hle:i≤M.length:=by omega
   have f2:D8 (k+1) 9:=j7 (by omega) (by omega);refine f8 ?_;simp only[zT,reduceIte,Nat.reduceEqDiff];refine hK4 _ _ ?_;refine b5 [0,1,6,7,8] (Or.inr (by simp)) ?_;simp only[zP,Nat.reduceEqDiff,reduceIte];refine gR fun K hK=>?_;simp -dsimp [hmin,hle,htk,hsl,f2];refine b8 _ (hdk) (by simp) ?_;simp -dsimp [hmin,hle,htk,hsl,f2];apply hK;clear hK K;simp only[zT,reduceIte,Nat.reduceEqDiff];refine hK3 _ _ ?_;refine b5 [0,1,6,7] (Or.inr (by simp)) ?_;simp only[zP,Nat.reduceEqDiff,reduceIte];refine gR fun K hK=>?_;simp -dsimp [wk];apply hK;clear hK K;simp only[zT,reduceIte,Nat.reduceEqDiff];exact⟨k+1,by omega,by omega,l9 (d8 [some 2] rfl (by simp[hsl]) (by simp[hsl,List.take_add_one,gsk])) (by simp)⟩
 ·have hkl:¬k<m.length:=by simpa using hc0
  have hkn:k=n:=by omega
  refine f8 ?_;simp only[zT,reduceIte,Nat.reduceEqDiff];refine hK1 _ _ ?_;refine b5 [0,6] (Or.inr (by simp)) ?_;simp only[zP,Nat.reduceEqDiff,reduceIte];refine gS fun K hK=>?_;simp -dsimp;refine b8 _ (hdet) (by simp) ?_;simp -dsimp;apply hK;clear hK K;have hsn:k=(a1A m b).length:=by simp[a1A];omega
  have htk:List.take k ((a1A m b).map i4)=(a1A m b).map i4:=List.take_of_length_le (by simp;omega);exact i5 ⟨[some 0],rfl,by simp,by simp[htk],by simp,by simp[y3,m6,hkn]⟩
theorem b4e {p:List Nat} {a:Nat}:J3 (upN p) (fun y=>decide ((a:Int)=y))=if a∈p then((p.idxOf a:Nat):Int)else-1:=by
 by_cases h:a∈p
 ·rw[if_pos h,C7 (by omega) (by rw[Int.toNat_natCast];exact h),Int.toNat_natCast]
 ·rw[if_neg h];refine L8 (List.any_eq_false.2 fun y hy=>?_);rw[a2i]at hy;rw[decide_eq_true_eq];rintro rfl;rw[Int.toNat_natCast]at hy;exact h hy.2
def a9P (c k n:Nat):List (List AV):=B7 c k n++List.replicate (n-k) [.v (.slice none 0 0)]
theorem b5D {c n:Nat}:a9P c n n=B7 c n n:=by unfold a9P;simp
theorem b2Y {c n:Nat}:a9P c 0 n=List.replicate n [.v (.slice none 0 0)]:=by unfold a9P;simp[B7]
theorem b5w {c k n:Nat} (h:k<n):(a9P c k n).set k [.row (k+c) 0 n]=a9P c (k+1) n:=by
 unfold a9P;rw[List.set_append_right _ _ (by simp),a2K,show n-k=(n-(k+1))+1 by omega,List.replicate_succ];simp
theorem b5I {c k n:Nat} (h:k<n):(a9P c k n)[k]?=some [.v (.slice none 0 0)]:=by
 unfold a9P;rw[List.getElem?_append_right (by simp),List.getElem?_replicate,if_pos (by simp;omega)]
theorem b5n {g:List (Option Nat)} {c c' m n:Nat} (hg:∀i,i<m→j6 g (i+c)=some (i+c')):((a9P c m n).map fun e=>e.map (m5 g 3))=a9P c' m n:=by
 unfold a9P;rw[List.map_append,w9 hg];simp
theorem a6C (g:Gr) (s:Sta) (p:List Nat) (n:Nat) (hpn:p.length=n) (h1:1≤n) (h10:n≤10) (hnd:p.Nodup)
  (hsw:s.Wires.length=g.Wires.length) (hwl:g.Wires.length≤80) (hw:∀w∈g.Wires,wrB g w=true) (hcl:∀w∈onW g.Wires s.Wires,w.a∈p↔w.b∈p):
  e9 Try.prog 75 [g.av,s.av,iL (upN p)] [] [] (.row 0 0 n) [] ([some (.els 1 (B7 1 n n))]++m7 (Lf (onW g.Wires s.Wires) p) n n):=by
 have hpl:=o9 p;have ff:D8 n 25:=j7 (by omega) (by omega);have f9:D8 n 9:=j7 (by omega) (by omega);refine e9.of_bodyG [] Try.func75 rfl (by decide) (by simp[Try.ntmps75]) rfl rfl ?_;intro J hJ;simp only[Try.ntmps75,Try.results75];refine gS fun K hK=>?_;simp -dsimp;apply hK;clear hK K;refine gS fun K hK=>?_;simp -dsimp [hpl,hpn,ff];apply hK;clear hK K;refine b6 fun K1 hK1=>?_;refine gS fun K hK=>?_;simp -dsimp;apply hK;clear hK K;refine d5 ?_;refine b5 [2,3,4,7,8] (Or.inr (by simp)) ?_;simp only[zP,Nat.reduceEqDiff,reduceIte];refine f5 [2,3,4,7] (α:=Nat) (fun k=>[(8,I k)]) (fun k=>[some (.els 4 [g.cells]),some (.els 2 [s.cells]),some (.els 1 (a9P 3 k n))]++m7 (fun _ _=>0) k n) (fun k=>k≤n) (fun k=>n-k) 0 ?_ ?_ ?_
 ·exact Nat.zero_le _
 ·exact l9 (d8 [some 0,some 1,some 2] rfl (by simp) (by simp[b2Y,m7])) (by simp)
 rintro k k1;simp only[zP,Nat.reduceEqDiff,reduceIte];refine b6 fun K2 hK2=>?_;refine gS fun K hK=>?_;simp -dsimp [hpl,hpn];apply hK;clear hK K;refine d6 rfl (fun hc0=>?_) (fun hc0=>?_)
 ·have hkn:k<n:=by simpa [hpl,hpn]using hc0
  have wk:=zW k (by omega);have go:=b5I (c:=3) hkn;have gs:=b5w (c:=3) hkn;refine d7 ?_;simp only[zT,reduceIte,Nat.reduceEqDiff];refine hK2 _ _ ?_;refine b5 [2,3,4,7,8] (Or.inr (by simp)) ?_;simp only[zP,Nat.reduceEqDiff,reduceIte];refine b6 fun K3 hK3=>?_;refine d5 ?_;refine gR fun K hK=>?_;simp -dsimp [hpl,hpn,f9,hkn,go,gs,Nat.add_assoc];apply hK;clear hK K;simp only[zT,reduceIte,Nat.reduceEqDiff];refine hK3 _ _ ?_;refine b5 [2,3,4,7,8] (Or.inr (by simp)) ?_;simp only[zP,Nat.reduceEqDiff,reduceIte];refine gR fun K hK=>?_;simp -dsimp [wk];apply hK;clear hK K;simp only[zT,reduceIte,Nat.reduceEqDiff];have hM:∀i,i<k+1→l7 (m7 (fun _ _=>0) k n++[some (.els 1 (List.replicate n [I 0]))]) i=Y2 (fun _ _=>0) n i:=fun i hi=>by
   rcases Nat.lt_succ_iff_lt_or_eq.1 hi with h|h
   ·exact k9 h
   ·subst h;rw[U9];exact c1a _ _
  have hro:=b5n (g:=some 0::some 1::some 2::(List.range (k+1)).map fun i=>some (i+3)) (c:=3) (c':=3) (m:=k+1) (n:=n) (fun i hi=>o7 (gf:=[some 0,some 1,some 2]) hi (by simp));refine⟨k+1,by omega,by omega,l9 (D5 (F':=[some (.els 4 [g.cells]),some (.els 2 [s.cells]),some (.els 1 (a9P 3 (k+1) n))]) [some 0,some 1,some 2] (fun _ _=>0) (k+1) n 3 (by simp[s9]) (fun i hi=>by simp) hM (by simp) ?_) (by simp)⟩;simp[hro]
 ·have hkn:k=n:=by have hx:¬k<n:=(by simpa [hpl,hpn]using hc0);omega
  subst hkn;rw[b5D];refine f8 ?_;simp only[zT,reduceIte,Nat.reduceEqDiff];refine hK1 _ _ ?_;refine b5 [2,3,4,7] (Or.inr (by simp)) ?_;simp only[zP,Nat.reduceEqDiff,reduceIte];refine b6 fun K4 hK4=>?_;refine gS fun K hK=>?_;simp -dsimp;apply hK;clear hK K;refine d5 ?_;refine b5 [2,3,4,7,9] (Or.inr (by simp)) ?_;simp only[zP,Nat.reduceEqDiff,reduceIte];refine f5 [2,3,4,7] (α:=Nat) (fun q=>[(9,I q)]) (fun q=>[some (.els 4 [g.cells]),some (.els 2 [s.cells]),some (.els 1 (B7 3 k k))]++m7 (Lf (onW (g.Wires.take q) (s.Wires.take q)) p) k k) (fun q=>q≤g.Wires.length) (fun q=>g.Wires.length-q) 0 ?_ ?_ ?_
  ·exact Nat.zero_le _
  ·have hm0:m7 (Lf (onW (g.Wires.take 0) (s.Wires.take 0)) p) k k=m7 (fun _ _=>0) k k:=y6 fun i _ j _=>rfl;rw[hm0];exact l9 (i7 (by simp)) (by simp)
  rintro q q1;simp only[zP,Nat.reduceEqDiff,reduceIte];refine b6 fun K5 hK5=>?_;refine gS fun K hK=>?_;simp -dsimp;apply hK;clear hK K;refine d6 rfl (fun hc1=>?_) (fun hc1=>?_)
  ·have hql:q<g.Wires.length:=by simpa using hc1
   obtain⟨w,hq⟩:∃w,g.Wires[q]?=some w:=⟨_,List.getElem?_eq_getElem hql⟩;have wq:=zW q (by omega);have hwb:=hw w (List.mem_of_getElem? hq);simp only[wrB,Bool.and_eq_true,u5,Bool.not_eq_true',decide_eq_false_iff_not]at hwb;obtain⟨⟨⟨hwA,hwB⟩,hAB⟩,hwS⟩:=hwb;have gsw:=v8 (l:=s.Wires) (k:=q) (by omega);have hsn:=a4V hq gsw;obtain⟨a,ha⟩:∃a:Nat,w.A=a:=⟨w.A.toNat,by omega⟩;obtain⟨b,hb⟩:∃b:Nat,w.B=b:=⟨w.B.toNat,by omega⟩;have hab:a≠b:=by omega
   obtain⟨wA,wB,wS,wSw⟩:=w;simp only at ha hb hwS hsn;subst ha hb;simp only[Int.toNat_natCast]at hsn;have hfb:∀i j,(Lf (onW (g.Wires.take q) (s.Wires.take q)) p i j).natAbs≤320:=fun i j=>by
    refine Nat.le_trans (a6k fun x hx=>?_) ?_
    ·obtain⟨w',hw',e⟩:=Y9 (M1 hx);have:=hw w' hw';simp only[wrB,Bool.and_eq_true,u5]at this;rw[e];simp only;omega
    ·have:=a4f (g.Wires.take q) (s.Wires.take q);rw[List.length_take]at this;omega
   have hiA:=N3 (upN p) a (by omega);have hiB:=N3 (upN p) b (by omega);rw[b4e]at hiA hiB;refine d7 ?_;simp only[zT,reduceIte,Nat.reduceEqDiff];refine hK5 _ _ ?_;refine b5 [2,3,4,7,9] (Or.inr (by simp)) ?_;simp only[zP,Nat.reduceEqDiff,reduceIte];refine b6 fun K6 hK6=>?_;refine d5 ?_;refine gS fun K hK=>?_;simp -dsimp [hq];apply hK;clear hK K;refine q9 k7 rfl (by decide) rfl rfl fun K hK=>?_;simp -dsimp [Nat.add_assoc];refine b8 _ (hiA) (by simp) ?_;simp -dsimp [Nat.add_assoc];refine b8 _ (hiB) (by simp) ?_;simp -dsimp [Nat.add_assoc];refine hK _ _ _ (by exact p9 [(0,1),(0,2),(0,4),(1,4),(2,4),(3,4),(0,5),(1,5),(2,5),(3,5),(4,5),(0,6),(1,6),(2,6),(3,6),(4,6)] (by decide+kernel) (by decide+kernel) (by simp[I7]<;>omega)) ?_;clear hK K;refine b6 fun K7 hK7=>?_;refine gS fun K hK=>?_;simp -dsimp [gsw];apply hK;clear hK K;refine d6 rfl (fun hc2=>?_) (fun hc2=>?_)
   ·have hfe:m7 (Lf (onW (g.Wires.take (q+1)) (s.Wires.take (q+1))) p) k k=m7 (Lf (onW (g.Wires.take q) (s.Wires.take q)) p) k k:=by
     rw[hsn]
     cases hx:bAt s.Wires q with
     |false=>simp
     | true=>
      have hna:a∉p:=by
       intro hm;rw[hx,if_pos hm]at hc2;simp at hc2<;>omega
      refine y6 fun i hi j hj=>?_;have hxi:p.getD i 0∈p:=by rw[List.getD_eq_getElem?_getD,List.getElem?_eq_getElem (by omega)];simp
      have hmem:(⟨a,b,wS⟩:Wn)∈onW g.Wires s.Wires:=M1 (k:=q+1) (by rw[hsn,hx];simp);have hnb:b∉p:=fun h=>hna ((hcl _ hmem).2 h);have e0:ew ⟨a,b,wS⟩ (p.getD i 0)=0:=by
       have n1:p.getD i 0≠a:=fun e=>hna (by rw[←e];exact hxi);have n2:p.getD i 0≠b:=fun e=>hnb (by rw[←e];exact hxi);unfold ew;rw[if_neg n1,if_neg n2];rfl
      unfold Lf;rw[if_pos rfl,P6];show _+(wS*(ew ⟨a,b,wS⟩ (p.getD i 0)*ew ⟨a,b,wS⟩ (p.getD j 0))+0)=_;rw[e0,Int.zero_mul,Int.mul_zero];omega
    refine f8 ?_;simp only[zT,reduceIte,Nat.reduceEqDiff];refine hK6 _ _ ?_;refine b5 [2,3,4,7,9] (Or.inr (by simp)) ?_;simp only[zP,Nat.reduceEqDiff,reduceIte];refine gR fun K hK=>?_;simp -dsimp [wq];apply hK;clear hK K;simp only[zT,reduceIte,Nat.reduceEqDiff];refine⟨q+1,by omega,by omega,l9 (D5 (F':=[some (.els 4 [g.cells]),some (.els 2 [s.cells]),some (.els 1 (B7 3 k k))]) [some 0,some 1,some 2] (Lf (onW (g.Wires.take (q+1)) (s.Wires.take (q+1))) p) k k 3 (by simp[s9]) (fun i hi=>by simp) ?_ (by simp) ?_) (by simp)⟩
    ·intro i hi;show l7 (m7 _ k k++_) i=_;rw[k9 hi];rw[←n7 (m:=k) hi,←n7 (m:=k) hi,hfe]
    ·have hro:=w9 (g:=some 0::some 1::some 2::(List.range k).map fun i=>some (i+3)) (c:=3) (c':=3) (m:=k) (n:=k) (fun i hi=>o7 (gf:=[some 0,some 1,some 2]) hi (by simp));simp[hro]
   ·have hap:a∈p∧bAt s.Wires q=true:=by
     refine⟨Decidable.byContradiction fun h=>?_,Decidable.byContradiction fun h=>?_⟩
     ·rw[if_neg h]at hc2;simp at hc2
     ·have h':bAt s.Wires q=false:=by simpa using h
      rw[h']at hc2;simp at hc2
    have hmem:(⟨a,b,wS⟩:Wn)∈onW g.Wires s.Wires:=M1 (k:=q+1) (by rw[hsn,hap.2];simp);have hbp:b∈p:=(hcl _ hmem).1 hap.1;rw[if_pos hap.1,if_pos hbp];obtain⟨ia,hia⟩:∃ia:Nat,ia=p.idxOf a:=⟨_,rfl⟩;obtain⟨ib,hib⟩:∃ib:Nat,ib=p.idxOf b:=⟨_,rfl⟩;rw[←hia,←hib];have hik:ia<k:=by rw[hia,←hpn];exact List.idxOf_lt_length_of_mem hap.1
    have hjk:ib<k:=by rw[hib,←hpn];exact List.idxOf_lt_length_of_mem hbp
    have gA:p[ia]?=some a:=by rw[hia];exact s6 hap.1
    have gB:p[ib]?=some b:=by rw[hib];exact s6 hbp
    have lia:ia≤k+1:=by omega
    have lib:ib≤k+1:=by omega
    have hij:ia≠ib:=by rintro rfl;rw[gA]at gB;simp only[Option.some.injEq]at gB;exact hab gB
    have hji:ib≠ia:=fun e=>hij e.symm;have hfe:∀i,i<k→∀j,j<k→Lf (onW (g.Wires.take (q+1)) (s.Wires.take (q+1))) p i j=J9 (J9 (J9 (J9 (Lf (onW (g.Wires.take q) (s.Wires.take q)) p) ia ia (Lf (onW (g.Wires.take q) (s.Wires.take q)) p ia ia+wS)) ib ib (Lf (onW (g.Wires.take q) (s.Wires.take q)) p ib ib+wS)) ia ib (Lf (onW (g.Wires.take q) (s.Wires.take q)) p ia ib-wS)) ib ia (Lf (onW (g.Wires.take q) (s.Wires.take q)) p ib ia-wS) i j:=by
     intro i hi j hj;have hE:∀i,i<k→ew ⟨a,b,wS⟩ (p.getD i 0)=(if i=ia then 1 else 0)-(if i=ib then 1 else 0):=by
      intro i hi;have hgi:p[i]?=some (p.getD i 0):=by rw[List.getD_eq_getElem?_getD,List.getElem?_eq_getElem (by omega)];rfl
      have q1:(p.getD i 0=a)↔i=ia:=by
       constructor
       ·intro e;rw[e]at hgi;exact(List.getElem?_inj (by omega) hnd).1 (hgi.trans gA.symm)
       ·rintro rfl;rw[gA]at hgi;simp only[Option.some.injEq]at hgi;exact hgi.symm
      have q2:(p.getD i 0=b)↔i=ib:=by
       constructor
       ·intro e;rw[e]at hgi;exact(List.getElem?_inj (by omega) hnd).1 (hgi.trans gB.symm)
       ·rintro rfl;rw[gB]at hgi;simp only[Option.some.injEq]at hgi;exact hgi.symm
      unfold ew;simp only[q1,q2]
     rw[hsn,hap.2];have hL:Lf (onW (g.Wires.take q) (s.Wires.take q)++[⟨a,b,wS⟩]) p i j=Lf (onW (g.Wires.take q) (s.Wires.take q)) p i j+wS*(((if i=ia then 1 else 0)-(if i=ib then 1 else 0))*((if j=ia then 1 else 0)-(if j=ib then 1 else 0))):=by
      unfold Lf;rw[P6,←hE i hi,←hE j hj];simp[lw]
     rw[if_pos rfl,hL];unfold J9
     by_cases e1:i=ia
     ·subst e1
      by_cases e2:j=i
      ·subst e2;simp[hij,hji]
      ·by_cases e3:j=ib
       ·subst e3;simp[hij,hji,e2];omega
       ·simp[hij,hji,e2,e3]
     ·by_cases e2:i=ib
      ·subst e2
       by_cases e3:j=i
       ·subst e3;simp[hij,hji]
       ·by_cases e4:j=ia
        ·subst e4;simp[hij,hji,e3];omega
        ·simp[hij,hji,e3,e4]
      ·simp[e1,e2]
    generalize Lf (onW (g.Wires.take q) (s.Wires.take q)) p=f at hfe hfb ⊢;have w1:IntKind.i64.wrap (f ia ia+wS)=f ia ia+wS:=f6 (by have:=hfb ia ia;omega) (by have:=hfb ia ia;omega);have w2:IntKind.i64.wrap (f ib ib+wS)=f ib ib+wS:=f6 (by have:=hfb ib ib;omega) (by have:=hfb ib ib;omega);have w3:IntKind.i64.wrap (f ia ib-wS)=f ia ib-wS:=f6 (by have:=hfb ia ib;omega) (by have:=hfb ia ib;omega);have w4:IntKind.i64.wrap (f ib ia-wS)=f ib ia-wS:=f6 (by have:=hfb ib ia;omega) (by have:=hfb ib ia;omega);have e2:J9 f ia ia (f ia ia+wS) ib ib=f ib ib:=by simp[J9,hji]
    have e3:J9 (J9 f ia ia (f ia ia+wS)) ib ib (f ib ib+wS) ia ib=f ia ib:=by simp[J9,hij,hji]
    have e4:J9 (J9 (J9 f ia ia (f ia ia+wS)) ib ib (f ib ib+wS)) ia ib (f ia ib-wS) ib ia=f ib ia:=by simp[J9,hij,hji]
    refine d7 ?_;simp only[zT,reduceIte,Nat.reduceEqDiff];refine hK7 _ _ ?_;refine b5 [2,3,4,7,9,10,11,12] (Or.inr (by simp)) ?_;simp only[zP,Nat.reduceEqDiff,reduceIte];refine q9 k7 rfl (by decide) rfl rfl fun K hK=>?_;simp -dsimp [lia,lib,Nat.add_assoc,u6 hik,hik,k9 hik,Y2,A7 hik,v5 hik,w1];refine hK _ _ _ (by exact p9 [(0,1),(0,4),(1,4),(2,4),(3,4),(0,5),(1,5),(2,5),(3,5),(4,5),(0,6),(1,6),(2,6),(3,6),(4,6),(5,6),(0,7),(1,7),(2,7),(3,7),(4,7),(0,8),(1,8),(2,8),(3,8),(4,8),(0,9),(1,9),(2,9),(3,9),(4,9),(5,9),(6,9),(7,9),(8,9),(0,10),(1,10),(2,10),(3,10),(4,10),(0,11),(1,11),(2,11),(3,11),(4,11),(0,12),(1,12),(2,12),(3,12),(4,12),(5,12),(6,12),(7,12),(8,12),(9,12),(10,12),(11,12),(0,13),(1,13),(2,13),(3,13),(4,13),(5,13),(6,13),(7,13),(8,13),(9,13),(10,13),(11,13),(0,14),(1,14),(2,14),(3,14),(4,14)] (by decide+kernel) (by decide+kernel) (by simp[I7]<;>omega)) ?_;clear hK K;refine q9 k7 rfl (by decide) rfl rfl fun K hK=>?_;simp -dsimp [lia,lib,Nat.add_assoc,u6 hjk,hjk,k9 hjk,Y2,A7 hjk,v5 hjk,e2,w2];refine hK _ _ _ (by exact p9 [(0,1),(0,4),(1,4),(2,4),(3,4),(0,5),(1,5),(2,5),(3,5),(4,5),(0,6),(1,6),(2,6),(3,6),(4,6),(5,6),(0,7),(1,7),(2,7),(3,7),(4,7),(0,8),(1,8),(2,8),(3,8),(4,8),(0,9),(1,9),(2,9),(3,9),(4,9),(5,9),(6,9),(7,9),(8,9),(0,10),(1,10),(2,10),(3,10),(4,10),(0,11),(1,11),(2,11),(3,11),(4,11),(0,12),(1,12),(2,12),(3,12),(4,12),(5,12),(6,12),(7,12),(8,12),(9,12),(10,12),(11,12),(0,13),(1,13),(2,13),(3,13),(4,13),(5,13),(6,13),(7,13),(8,13),(9,13),(10,13),(11,13),(0,14),(1,14),(2,14),(3,14),(4,14)] (by decide+kernel) (by decide+kernel) (by simp[I7]<;>omega)) ?_;clear hK K;refine q9 k7 rfl (by decide) rfl rfl fun K hK=>?_;simp -dsimp [lia,lib,Nat.add_assoc,u6 hik,hik,k9 hik,Y2,hjk,A7 hjk,v5 hik,e3,w3];refine hK _ _ _ (by exact p9 [(0,1),(0,4),(1,4),(2,4),(3,4),(0,5),(1,5),(2,5),(3,5),(4,5),(0,6),(1,6),(2,6),(3,6),(4,6),(5,6),(0,7),(1,7),(2,7),(3,7),(4,7),(0,8),(1,8),(2,8),(3,8),(4,8),(0,9),(1,9),(2,9),(3,9),(4,9),(5,9),(6,9),(7,9),(8,9),(0,10),(1,10),(2,10),(3,10),(4,10),(0,11),(1,11),(2,11),(3,11),(4,11),(0,12),(1,12),(2,12),(3,12),(4,12),(5,12),(6,12),(7,12),(8,12),(9,12),(10,12),(11,12),(0,13),(1,13),(2,13),(3,13),(4,13),(5,13),(6,13),(7,13),(8,13),(9,13),(10,13),(11,13),(0,14),(1,14),(2,14),(3,14),(4,14)] (by decide+kernel) (by decide+kernel) (by simp[I7]<;>omega)) ?_;clear hK K;refine o4 k7 rfl (by decide) rfl rfl fun K hK=>?_;simp -dsimp [lia,lib,Nat.add_assoc,u6 hjk,hjk,k9 hjk,Y2,hik,A7 hik,v5 hjk,e4,w4];refine hK _ _ _ (by exact p9 [(0,1),(0,4),(1,4),(2,4),(3,4),(0,5),(1,5),(2,5),(3,5),(4,5),(0,6),(1,6),(2,6),(3,6),(4,6),(5,6),(0,7),(1,7),(2,7),(3,7),(4,7),(0,8),(1,8),(2,8),(3,8),(4,8),(0,9),(1,9),(2,9),(3,9),(4,9),(5,9),(6,9),(7,9),(8,9),(0,10),(1,10),(2,10),(3,10),(4,10),(0,11),(1,11),(2,11),(3,11),(4,11),(0,12),(1,12),(2,12),(3,12),(4,12),(5,12),(6,12),(7,12),(8,12),(9,12),(10,12),(11,12),(0,13),(1,13),(2,13),(3,13),(4,13),(5,13),(6,13),(7,13),(8,13),(9,13),(10,13),(11,13),(0,14),(1,14),(2,14),(3,14),(4,14)] (by decide+kernel) (by decide+kernel) (by simp[I7]<;>omega)) ?_;clear hK K;simp only[zT,reduceIte,Nat.reduceEqDiff];refine hK6 _ _ ?_;refine b5 [2,3,4,7,9] (Or.inr (by simp)) ?_;simp only[zP,Nat.reduceEqDiff,reduceIte];refine gR fun K hK=>?_;simp -dsimp [wq];apply hK;clear hK K;simp only[zT,reduceIte,Nat.reduceEqDiff];refine⟨q+1,by omega,by omega,l9 (D5 (F':=[some (.els 4 [g.cells]),some (.els 2 [s.cells]),some (.els 1 (B7 3 k k))]) [some 0,some 1,some 2] (Lf (onW (g.Wires.take (q+1)) (s.Wires.take (q+1))) p) k k 3 (by simp[s9]) (fun i hi=>by simp) ?_ (by simp) ?_) (by simp)⟩
    ·intro i hi;show l7 (m7 _ k k++_) i=_;rw[k9 hi];rw[←n7 (m:=k) hi,←n7 (m:=k) hi,y6 hfe]
    ·have hro:=w9 (g:=some 0::some 1::some 2::(List.range k).map fun i=>some (i+3)) (c:=3) (c':=3) (m:=k) (n:=k) (fun i hi=>o7 (gf:=[some 0,some 1,some 2]) hi (by simp));simp[hro]
  ·have hqe:q=g.Wires.length:=by have hx:¬q<g.Wires.length:=(by simpa using hc1);omega
   have ht1:g.Wires.take q=g.Wires:=List.take_of_length_le (by omega);have ht2:s.Wires.take q=s.Wires:=List.take_of_length_le (by omega);rw[ht1,ht2];refine f8 ?_;simp only[zT,reduceIte,Nat.reduceEqDiff];refine hK4 _ _ ?_;refine b5 [7] (Or.inr (by simp)) ?_;simp only[zP,Nat.reduceEqDiff,reduceIte];refine gS fun K hK=>?_;simp -dsimp;apply hK;clear hK K;have hout:∀i,i<k→some (i+3)∉ [some 2]:=fun i hi=>by simp
   have hro:=w9 (g:=some 2::(List.range k).map fun i=>some (i+3)) (c:=3) (c':=1) (m:=k) (n:=k) (fun i hi=>o7 (gf:=[some 2]) hi (hout i hi));refine i5 ⟨[some 2]++(List.range k).map fun i=>some (i+3),a2H rfl hout,by simp,?_,by simp,by simp[y3,m6]⟩;refine a4e (F':=[some (.els 1 (B7 1 k k))]) [some 2] _ k k 3 (fun i hi=>?_) ?_
   ·show l7 (m7 _ k k) i=_;exact n7 hi
   ·simp[hro]
end Go.Cur
end
section
namespace Go.Cur
open Go.AM Go.Proofs
theorem a0b (n d:Int) (hd:0<d) (h1:-9223372036854775807≤n) (h2:n≤9223372036854775807) (h3:d≤9223372036854775807):d4 Try.prog 52 [I n,I d] (red n d).av:=by
 have wn:IntKind.i64.wrap (-n)=-n:=f6 (by omega) (by omega);have hmx:(if n< -n then-n else n)=(n.natAbs:Int):=by split<;>omega
 obtain⟨hg,q1,q2⟩:=b1d hd h1 h2 h3;refine d4.of_body Try.func52 rfl (by decide) (by simp[Try.ntmps52]) ?_;simp only[Try.ntmps52,Try.results52];refine aS fun K hK=>?_;simp -dsimp;apply hK;clear hK K;refine aS fun K hK=>?_;simp -dsimp [wn,hmx];apply hK;clear hK K;refine b9 fun K1 hK1=>?_;refine e7 ?_;refine b7 [0,1,4,5,6] ?_;simp only[zP,Nat.reduceEqDiff,reduceIte];refine g7 [0,1,4] (α:=Nat×Nat) (fun x=>[(5,I x.1),(6,I x.2)]) (fun _=>[some (.els 2 [[I 0,I 0]])]) (fun x=>Nat.gcd x.1 x.2=Int.gcd n d) (fun x=>x.2) (n.natAbs,d.toNat) ?_ ?_ ?_
 ·simp only[Int.gcd];congr 1;omega
 ·have hdn:((d.toNat:Nat):Int)=d:=Int.toNat_of_nonneg (by omega);exact i7 (by simp[hdn])
 rintro⟨a,b⟩ i1;simp only at i1 ⊢;simp only[zP,Nat.reduceEqDiff,reduceIte];refine b9 fun K2 hK2=>?_;refine aS fun K hK=>?_;simp -dsimp;apply hK;clear hK K;refine d9 rfl (fun hc0=>?_) (fun hc0=>?_)
 ·skip
  try simp at hc0
  have hb0:¬b=0:=by omega
  have hm:(a:Int).tmod b=((a % b:Nat):Int):=by rw[Int.tmod_eq_emod_of_nonneg (by omega)];rfl
  refine e8 ?_;simp only[zT,reduceIte,Nat.reduceEqDiff];refine hK2 _ _ ?_;refine b7 [0,1,4,5,6] ?_;simp only[zP,Nat.reduceEqDiff,reduceIte];refine e7 ?_;refine F4 k7 rfl fun K hK=>?_;simp -dsimp [hm,hb0];refine hK _ _ _ (by decide+kernel) ?_;clear hK K;simp only[zT,reduceIte,Nat.reduceEqDiff];exact⟨(b,a % b),by simp only;rw[a9c hb0];exact i1,Nat.mod_lt _ (by omega),i7 (by simp)⟩
 ·skip
  try simp at hc0
  have hb0:b=0:=by omega
  subst hb0;rw[Nat.gcd_zero_right]at i1;subst i1;have hg0:¬Int.gcd n d=0:=by omega
  refine j0 ?_;simp only[zT,reduceIte,Nat.reduceEqDiff];refine hK1 _ _ ?_;refine b7 [0,1,4,5] ?_;simp only[zP,Nat.reduceEqDiff,reduceIte];refine v6 k7 rfl fun K hK=>?_;simp -dsimp [q1,q2,hg0];refine hK _ _ _ (by decide+kernel) ?_;clear hK K;exact f7 (by simp)
theorem c1z (g:Gr) (s:Sta) (p:List Nat) (fs nl:List Int) (d:Int) (hnt:o8 g s) (hfs:fs=m9 g s (upN p)) (hp:p.length≤1000) {b:Nat} (hb:b<fs.length) (hn:nl.length=p.length) (hd:0<d) (hd1:d≤100000000000000) {x:Int} (hx:nl[p.idxOf (fdI g (at0 fs b)).At.toNat]?=some x) (hxb:-1000000000000000≤x∧x≤1000000000000000):
  d4 Try.prog 92 [g.av,iL (upN p),iL nl,I d,I (at0 fs b)] (I ((fdI g (at0 fs b)).Volts*d-x)):=by
 have h:=C8 hnt hfs hb;have h1:=Int.mul_nonneg (show 0≤(fdI g (at0 fs b)).Volts by omega) (show 0≤d by omega);have h2:=Int.mul_le_mul h.2.2.2.2.2.2.2.1 hd1 (by omega) (by omega);have w1:IntKind.i64.wrap ((fdI g (at0 fs b)).Volts*d)=(fdI g (at0 fs b)).Volts*d:=f6 (by omega) (by omega);have w2:IntKind.i64.wrap ((fdI g (at0 fs b)).Volts*d-x)=(fdI g (at0 fs b)).Volts*d-x:=f6 (by omega) (by omega);have hi:=N3 (upN p) (fdI g (at0 fs b)).At (by rw[o9];omega);rw[C7 h.2.2.2.2.1 h.2.2.2.2.2.1]at hi;have hpi:=List.idxOf_lt_length_of_mem h.2.2.2.2.2.1;refine d4.of_body Try.func92 rfl (by decide) (by simp[Try.ntmps92]) ?_;simp only[Try.ntmps92,Try.results92];refine aS fun K hK=>?_;simp -dsimp;apply hK;clear hK K;refine v6 k7 rfl fun K hK=>?_;simp -dsimp [h.2.1,h.2.2.2.1,w1,w2,hx];refine b8 _ (hi) (by simp) ?_;simp -dsimp [h.2.1,h.2.2.2.1,w1,w2,hx];refine hK _ _ _ (by decide+kernel) ?_;clear hK K;exact f7 (by simp)
theorem a3l {P:Program} {m:List Bool} {f:FuncId} {args:List AV} {fl:Bool} {rd rd0:List Nat} {raw:List AV} {H:Nat→Option k8} {N:Nat} {K:Eff→Prop} {args':List AV} {n:Nat} {F:Nat→Nat→Int}
  (h:e9 P f args' [] [] (.row 0 0 n) [] ([some (.els 1 (B7 1 n n))]++m7 F n n)) (ha:raw.map (m5 [] 40)=args')
  (hk:K ⟨.row N 0 n,r8 N ([some (.els 1 (B7 (N+1) n n))]++m7 F n n),rd0⟩):a0z P m f args fl rd rd0 raw H N K:=by
 refine i8 [] [] (s5 [] N (n+1)) h (by simp[b6L]) (congrArg (s5 [] N) (by simp<;>omega)) ha rfl rfl rfl ?_;have hM:(m7 F n n).map (Option.map (t7 (s5 [] N (n+1))))=m7 F n n:=by
  unfold m7;rw[List.map_map];exact List.map_congr_left fun i _=>a5r
 have ho:((B7 1 n n).map fun e=>e.map (m5 (s5 [] N (n+1)) 3))=B7 (N+1) n n:=by
  unfold B7;rw[List.map_map];refine List.map_congr_left fun i hi=>?_;rw[List.mem_range]at hi;show [m5 (s5 [] N (n+1)) 3 (.row (i+1) 0 n)]=_;have e:m5 (s5 [] N (n+1)) 3 (.row (i+1) 0 n)=match j6 (s5 [] N (n+1)) (i+1)with|some q=> .row q 0 n|none=> .any:=rfl
  rw[e,E2 (by omega),show N+(i+1)=i+(N+1)by omega]
 have hr:m5 (s5 [] N (n+1)) 3 (.row 0 0 n)= .row N 0 n:=by
  have e0:m5 (s5 [] N (n+1)) 3 (.row 0 0 n)=match j6 (s5 [] N (n+1)) 0 with|some q=> .row q 0 n|none=> .any:=rfl
  rw[e0,E2 (by omega)];rfl
 have hu:x7 (s5 [] N (n+1)) N ([some (.els 1 (B7 1 n n))]++m7 F n n)=r8 N ([some (.els 1 (B7 (N+1) n n))]++m7 F n n):=by
  rw[T4,List.map_append,hM];simp only[List.map_cons,List.map_nil,Option.map_some,t7,ho]
 rw[hr,hu];simpa [r7,u7]using hk
def zro (f:Nat→Nat→Int) (k:Nat):Nat→Nat→Int:=fun i j=>if i=0∧j<k then 0 else f i j
theorem b5v (f:Nat→Nat→Int):zro f 0=f:=by funext i j;unfold zro;rw[if_neg (by omega)]
theorem b4M (f:Nat→Nat→Int) (k:Nat):J9 (zro f k) 0 k 0=zro f (k+1):=by
 funext i j
 unfold J9 zro
 by_cases h:i=0
 ·subst h
  by_cases h2:j=k
  ·subst h2;simp
  ·by_cases h3:j<k
   ·simp[h2,h3];omega
   ·simp[h2,h3];intro;omega
 ·simp[h]
theorem b5g (W:List Wn) (u:Nat→Int) (p:List Nat) (fs:List Nat) (q:Nat→Nat) (s V:Nat→Int) (i0:Nat) (hi0:p.getD 0 0=i0) (h1:1≤p.length) (hnd:p.Nodup):
  b4r (J9 (zro (Lf W p) p.length) 0 0 1) p.length p.length=eqM ((⟨p,lw W,u,fs,q,s,V⟩:n9).A0 i0) p:=by
 unfold eqM b4r;refine List.map_congr_left fun i hi=>List.map_congr_left fun j hj=>?_;rw[List.mem_range]at hi hj;show J9 (zro (Lf W p) p.length) 0 0 1 i j=if p.getD i 0=i0 then if p.getD j 0=i0 then 1 else 0 else lw W (p.getD i 0) (p.getD j 0);unfold J9 zro Lf
 by_cases h:i=0
 ·subst h;rw[if_pos hi0]
  by_cases h2:j=0
  ·subst h2;rw[if_pos ⟨rfl,rfl⟩,if_pos hi0]
  ·rw[if_neg (fun e=>h2 e.2),if_pos ⟨rfl,hj⟩,if_neg (fun e=>h2 (F5 hnd hj hi (e.trans hi0.symm)))]
 ·rw[if_neg (fun e=>h e.1),if_neg (fun e=>h e.1),if_neg (fun e=>h (F5 hnd hi (by omega) (e.trans hi0.symm)))]
theorem b4D (g:Gr) (s:Sta) (p:List Nat) (us:Kvs) (fs cu:List Int) (hfs:fs=m9 g s (upN p)) (hnt:o8 g s) (hpt:b1X g s p) (hus:∀x,-40≤igt us x∧igt us x≤40) (hcu:∀k∈p,cu[k]?=some (igt us k)) (hf0:fs≠[]) (i0:Nat) (hi0:p.getD 0 0=i0)
  (hz:c0W (Pt g (onW g.Wires s.Wires) us p fs fs.length) i0) (v:List Int) (d:Int) (e2:d=(Pt g (onW g.Wires s.Wires) us p fs fs.length).den0 i0)
  (e1:v=p.map fun k=>(Pt g (onW g.Wires s.Wires) us p fs fs.length).num0 i0 k+F0 ((Pt g (onW g.Wires s.Wires) us p fs fs.length).V 0*(Pt g (onW g.Wires s.Wires) us p fs fs.length).den0 i0-(Pt g (onW g.Wires s.Wires) us p fs fs.length).num0 i0 ((Pt g (onW g.Wires s.Wires) us p fs fs.length).p 0)) ((List.range fs.length).map fun b=>(Pt g (onW g.Wires s.Wires) us p fs fs.length).V b*(Pt g (onW g.Wires s.Wires) us p fs fs.length).den0 i0-(Pt g (onW g.Wires s.Wires) us p fs fs.length).num0 i0 ((Pt g (onW g.Wires s.Wires) us p fs fs.length).p b))):
  d4 Try.prog 74 [g.av,s.av,iL (upN p),iL cu,iL fs] (.tup [iL v,I d,Bo true]):=by
 have hpl:=o9 p;have hb:=r6 hnt.gr;have hn10:=hpt.n10;have hml:1≤fs.length:=by cases fs with|nil=>exact absurd rfl hf0|cons a l=>simp
 have hfl:fs.length≤12:=by
  have:=List.length_filter_le (a1D g s (upN p)) (upI g.Feeds.length);rw[I6]at this;rw[hfs];unfold m9;omega
 have hmt:=a6C g s p p.length rfl hpt.n1 hpt.n10 hpt.nd hnt.sw hb.2.2.1 hnt.wires hpt.cl;obtain⟨z1,z2,z3⟩:=hz;have hsol:=a2h (eqM ((Pt g (onW g.Wires s.Wires) us p fs fs.length).A0 i0) p) (p.map ((Pt g (onW g.Wires s.Wires) us p fs fs.length).b0 i0)) p.length (I5 _ _) hpt.n1 hpt.n10 (by simp);have hv0:(p.map fun k=>wr (num ((Pt g (onW g.Wires s.Wires) us p fs fs.length).A0 i0) ((Pt g (onW g.Wires s.Wires) us p fs fs.length).b0 i0) p k))=p.map fun k=>(Pt g (onW g.Wires s.Wires) us p fs fs.length).num0 i0 k:=List.map_congr_left fun k _=>a6h (by have:=z1 k;unfold n9.num0 at this;show _≤Cur.num _ _ (Pt g (onW g.Wires s.Wires) us p fs fs.length).ns k;omega) (by have:=z1 k;unfold n9.num0 at this;show Cur.num _ _ (Pt g (onW g.Wires s.Wires) us p fs fs.length).ns k≤_;omega);have hd0:wr (D ((Pt g (onW g.Wires s.Wires) us p fs fs.length).A0 i0) p)=(Pt g (onW g.Wires s.Wires) us p fs fs.length).den0 i0:=a6h (by unfold n9.den0 at z2;show _≤D _ (Pt g (onW g.Wires s.Wires) us p fs fs.length).ns;omega) (by unfold n9.den0 at z3;show D _ (Pt g (onW g.Wires s.Wires) us p fs fs.length).ns≤_;omega);rw[a4w _ _ _ hpt.nd,a4v,hv0,hd0]at hsol;have hbl:=b6S us p (lw (onW g.Wires s.Wires)) (List.range fs.length) (fun b=>(U6 g fs b).At.toNat) (fun b=>(U6 g fs b).Siem) (fun b=>(U6 g fs b).Volts) i0 hi0 hpt.n1 hpt.nd;obtain⟨bl,hbl2⟩:∃bl,bl=p.map ((Pt g (onW g.Wires s.Wires) us p fs fs.length).b0 i0):=⟨_,rfl⟩;obtain⟨M,hM⟩:∃M,M=eqM ((Pt g (onW g.Wires s.Wires) us p fs fs.length).A0 i0) p:=⟨_,rfl⟩;have hbl3:(rgt us p).set 0 0=bl:=by rw[hbl2];exact hbl
 have hzr:=b5g (onW g.Wires s.Wires) (fun x=>igt us x) p (List.range fs.length) (fun b=>(U6 g fs b).At.toNat) (fun b=>(U6 g fs b).Siem) (fun b=>(U6 g fs b).Volts) i0 hi0 hpt.n1 hpt.nd;have hzr2:b4r (J9 (zro (Lf (onW g.Wires s.Wires) p) p.length) 0 0 1) p.length p.length=M:=by rw[hM];exact hzr
 rw[←hbl2,←hM]at hsol;have hzl:∀k x,p[k]?=some x→(p.map fun k=>(Pt g (onW g.Wires s.Wires) us p fs fs.length).num0 i0 k)[k]?=some ((Pt g (onW g.Wires s.Wires) us p fs fs.length).num0 i0 x):=fun k x h=>by rw[List.getElem?_map,h];rfl
 obtain⟨nu,hnu⟩:∃nu,nu=fun k=>(Pt g (onW g.Wires s.Wires) us p fs fs.length).num0 i0 k:=⟨_,rfl⟩;rw[←hnu]at hsol hzl;obtain⟨nl,hnl⟩:∃nl,nl=p.map nu:=⟨_,rfl⟩;rw[←hnl]at hsol hzl;have hfa:=fun b (hb:b<fs.length)=>C8 hnt hfs hb;obtain⟨d0,hd00⟩:∃d0,d0=(Pt g (onW g.Wires s.Wires) us p fs fs.length).den0 i0:=⟨_,rfl⟩;rw[←hd00]at hsol z2 z3 e2 e1;have hnk:∀k,(Pt g (onW g.Wires s.Wires) us p fs fs.length).num0 i0 k=nu k:=fun k=>by rw[hnu]
 simp only[hnk]at e1 z1 hzl;have hnb:∀k,-1000000000000000≤nu k∧nu k≤1000000000000000:=z1;have hPV:∀(b:Nat),(Pt g (onW g.Wires s.Wires) us p fs fs.length).V b=(fdI g (at0 fs b)).Volts:=fun b=>rfl;have hPp:∀(b:Nat),(Pt g (onW g.Wires s.Wires) us p fs fs.length).p b=(fdI g (at0 fs b)).At.toNat:=fun b=>rfl;simp only[hPV,hPp]at e1;have hnll:nl.length=p.length:=by rw[hnl];simp
 have hzp:=fun b (hb:b<fs.length)=>hzl _ _ (s6 (hfa b hb).2.2.2.2.2.1);have hf0c:=fun b (hb:b<fs.length)=>c1z g s p fs nl d0 hnt hfs (by omega) hb hnll z2 z3 (hzp b hb) (hnb _);have hvd:∀(b:Nat),b<fs.length→ -100000000000000000≤(fdI g (at0 fs b)).Volts*d0∧(fdI g (at0 fs b)).Volts*d0≤100000000000000000:=fun b hb=>by
  have h:=hfa b hb;have h1:=Int.mul_nonneg (show 0≤(fdI g (at0 fs b)).Volts by omega) (show 0≤d0 by omega);have h2:=Int.mul_le_mul h.2.2.2.2.2.2.2.1 z3 (by omega) (by omega);omega
 clear hnk hnu hd00 hbl hzr;have hp0:0<p.length:=by have:=hpt.n1;omega
 have wneg:∀x,IntKind.i64.wrap (-igt us x)=-igt us x:=fun x=>f6 (by have:=hus x;omega) (by have:=hus x;omega);obtain⟨n,hn⟩:∃n,n=p.length:=⟨_,rfl⟩;rw[←hn]at hpl hn10 hmt hsol hzr2 hnll hp0;refine d4.of_bodyG Try.func74 rfl (by decide) (by simp[Try.ntmps74]) ?_;intro J hJ;simp only[Try.ntmps74,Try.results74];refine gS fun K hK=>?_;simp -dsimp;apply hK;clear hK K;refine gS fun K hK=>?_;simp -dsimp;refine a3l hmt (by simp) ?_;simp -dsimp;apply hK;clear hK K;refine gS fun K hK=>?_;simp -dsimp;apply hK;clear hK K;refine b6 fun K1 hK1=>?_;refine gS fun K hK=>?_;simp -dsimp;apply hK;clear hK K;refine d5 ?_;refine b5 [2,3,4,5,13,14,15] (Or.inr (by simp)) ?_;simp only[zP,Nat.reduceEqDiff,reduceIte];refine f5 [2,3,4,5,13] (α:=Nat) (fun k=>[(14, .row 3 0 k),(15,I k)]) (fun k=>[some (.els 4 [g.cells]),some (.els 2 [s.cells]),some (.els 1 (B7 4 n n)),some (.els 1 (((rgt us p).take k).map i4))]++m7 (zro (Lf (onW g.Wires s.Wires) p) k) n n) (fun k=>k≤n) (fun k=>n-k) 0 ?_ ?_ ?_
 ·exact Nat.zero_le _
 ·have hout:∀i,i<n→some (i+3)∉ [some 0,some 1,some 2,some (n+3)]:=fun i hi=>by simp;omega
  have hro:=w9 (g:=some 0::some 1::some 2::some (n+3)::(List.range n).map fun i=>some (i+3)) (c:=3) (c':=4) (m:=n) (n:=n) (fun i hi=>o7 (gf:=[some 0,some 1,some 2,some (n+3)]) hi (hout i hi));refine l9 ((z7 14 1 (by simp)).trans (D5 (F':=[some (.els 4 [g.cells]),some (.els 2 [s.cells]),some (.els 1 (B7 4 n n)),some (.els 1 (((rgt us p).take 0).map i4))]) [some 0,some 1,some 2,some (n+3)] (zro (Lf (onW g.Wires s.Wires) p) 0) n n 3 (by simp[s9]) hout ?_ (by simp) ?_)) (by simp)
  ·intro i hi;show l7 (m7 _ n n++_) i=_;rw[k9 hi,b5v]
  ·simp[hro]
 rintro k k1;simp only[zP,Nat.reduceEqDiff,reduceIte];refine b6 fun K2 hK2=>?_;refine gS fun K hK=>?_;simp -dsimp [hpl];apply hK;clear hK K;refine d6 rfl (fun hc0=>?_) (fun hc0=>?_)
 ·have hkn:k<n:=by simpa [hpl]using hc0
  obtain⟨x,hx⟩:∃x,p[k]?=some x:=⟨_,List.getElem?_eq_getElem (by omega)⟩;have gx:=B8 hx;have gc:=hcu x (List.mem_of_getElem? hx);have wk:=zW k (by omega);have hrl:min k (rgt us p).length=k:=by simp only[rgt,List.length_map];omega
  have gr:(rgt us p)[k]?=some (-igt us x):=by simp[rgt,hx]
  have f2:D8 (k+1) 9:=j7 (by omega) (by omega);refine d7 ?_;simp only[zT,reduceIte,Nat.reduceEqDiff];refine hK2 _ _ ?_;refine b5 [2,3,4,5,13,14,15] (Or.inr (by simp)) ?_;simp only[zP,Nat.reduceEqDiff,reduceIte];refine b6 fun K3 hK3=>?_;refine d5 ?_;refine gS fun K hK=>?_;simp -dsimp [gx,gc,wneg,f2,hrl,Nat.add_assoc];apply hK;clear hK K;refine gR fun K hK=>?_;simp -dsimp [hp0,hkn,u6 hp0,k9 hp0,Y2,A7 hkn,v5 hp0,Nat.add_assoc];apply hK;clear hK K;simp only[zT,reduceIte,Nat.reduceEqDiff];refine hK3 _ _ ?_;refine b5 [2,3,4,5,13,14,15] (Or.inr (by simp)) ?_;simp only[zP,Nat.reduceEqDiff,reduceIte];refine gR fun K hK=>?_;simp -dsimp [wk];apply hK;clear hK K;simp only[zT,reduceIte,Nat.reduceEqDiff];have hout:∀i,i<n→some (i+4)∉ [some 0,some 1,some 2,some (n+4)]:=fun i hi=>by simp;omega
  have hro:=w9 (g:=some 0::some 1::some 2::some (n+4)::(List.range n).map fun i=>some (i+4)) (c:=4) (c':=4) (m:=n) (n:=n) (fun i hi=>o7 (gf:=[some 0,some 1,some 2,some (n+4)]) hi (hout i hi));refine⟨k+1,by omega,by omega,l9 (D5 (F':=[some (.els 4 [g.cells]),some (.els 2 [s.cells]),some (.els 1 (B7 4 n n)),some (.els 1 (((rgt us p).take (k+1)).map i4))]) [some 0,some 1,some 2,some (n+4)] (zro (Lf (onW g.Wires s.Wires) p) (k+1)) n n 4 (by simp[s9]) hout ?_ (by simp) ?_) (by simp)⟩
  ·intro i hi;show l7 (m7 _ n n++_) i=_;rw[k9 hi,←b4M]
  ·simp[hro,List.take_add_one,gr]
 ·have hkn:k=n:=by have hx:¬k<n:=(by simpa [hpl]using hc0);omega
  have hrt:List.take k ((rgt us p).map i4)=(rgt us p).map i4:=List.take_of_length_le (by simp[rgt];omega);rw[hrt,hkn];have gr0:(rgt us p)[0]?=some (-igt us (p.getD 0 0)):=by unfold rgt;rw[List.getElem?_map,F1 (by omega)];rfl
  have htk:List.take n (nl.map i4)=nl.map i4:=List.take_of_length_le (by simp;omega);have a0:=(hfa 0 hml).1;have a1:=hf0c 0 hml;simp only[Int.natCast_zero]at a0 a1;have hle:n≤nl.length:=by omega
  obtain⟨xs,hxs⟩:∃xs:List Int,xs=(List.range fs.length).map fun(b:Nat)=>(fdI g (at0 fs b)).Volts*d0-nu (fdI g (at0 fs b)).At.toNat:=⟨_,rfl⟩;obtain⟨x0,hx0⟩:∃x0,x0=(fdI g (at0 fs 0)).Volts*d0-nu (fdI g (at0 fs 0)).At.toNat:=⟨_,rfl⟩;rw[←hxs]at e1;have hx0':(fdI g (at0 fs ((0:Nat):Int))).Volts*d0-nu (fdI g (at0 fs ((0:Nat):Int))).At.toNat=x0:=hx0.symm;have hxg:∀(b:Nat),b<fs.length→xs[b]?=some ((fdI g (at0 fs b)).Volts*d0-nu (fdI g (at0 fs b)).At.toNat):=fun b hb=>by rw[hxs,List.getElem?_map,List.getElem?_range hb];rfl
  have hxb:∀x∈xs,-200000000000000000≤x∧x≤200000000000000000:=fun x hx=>by
   rw[hxs]at hx;obtain⟨b,hb,rfl⟩:=List.mem_map.1 hx;have:=hvd b (List.mem_range.1 hb);have:=hnb (fdI g (at0 fs b)).At.toNat;omega
  have hx0b:-200000000000000000≤x0∧x0≤200000000000000000:=by rw[hx0];have:=hvd 0 hml;have:=hnb (fdI g (at0 fs 0)).At.toNat;simp only[Int.natCast_zero]at*;omega
  have hxl:xs.length=fs.length:=by rw[hxs];simp
  have hs1:F0 x0 (xs.take 1)=x0:=by rw[T9 (hxg 0 hml),hx0'];show a9C x0 x0=x0;unfold a9C;split<;>rfl
  refine f8 ?_;simp only[zT,reduceIte,Nat.reduceEqDiff];refine hK1 _ _ ?_;refine b5 [2,4,5,13,14] (Or.inr (by simp)) ?_;simp only[zP,Nat.reduceEqDiff,reduceIte];refine gS fun K hK=>?_;simp -dsimp [hp0,u6 hp0,n7 hp0,Y2,A7 hp0,a2d hp0,gr0,Nat.add_assoc];apply hK;clear hK K;refine o5 (l9 (B9 (T':=[(2,iL (upN p)),(4,iL fs),(5, .ptr 0 0 0),(13,mL M),(14,iL bl)]) (H':=[some (.els 4 [g.cells]),some (.els 2 [s.cells])]) [some 0,some 1] rfl ⟨.inr (by simp), .inr (by simp), .inr (by simp), .inr ?_, .inr ?_,trivial⟩ (by simp)) (by simp)) ?_
  ·rw[←hzr2];exact b3x _ _ _ _ hp0
  ·exact b6X _ _ _ _ (rgt us p) bl hbl3 (by rw[←hbl3];simp[rgt];omega) hp0
  ·refine gS fun K hK=>?_;simp -dsimp;refine i8 [] [] [none,none,some 0] (hsol) (by decide) rfl (by simp) (by simp) rfl (by simp) ?_;simp -dsimp;apply hK;clear hK K;refine q9 k7 rfl (by decide) rfl rfl fun K hK=>?_;simp -dsimp [a0,htk,hle];refine b8 _ (a1) (by simp) ?_;simp -dsimp [a0,htk,hle];refine hK _ _ _ (by decide+kernel) ?_;clear hK K;refine b6 fun K4 hK4=>?_;refine gS fun K hK=>?_;simp -dsimp;apply hK;clear hK K;refine d5 ?_;refine b5 [2,4,5,16,17,18,19] (Or.inr (by simp)) ?_;simp only[zP,Nat.reduceEqDiff,reduceIte];refine f5 [2,4,5,16,17] (α:=Nat) (fun b=>[(18,I (F0 x0 (xs.take b))),(19,I b)]) (fun b=>[some (.els 4 [g.cells]),some (.els 2 [s.cells]),some (.els 1 (nl.map i4))]) (fun b=>1≤b∧b≤fs.length) (fun b=>fs.length-b) 1 ?_ ?_ ?_
   ·exact⟨Nat.le_refl _,hml⟩
   ·exact l9 (d8 [some 0,some 1,some 2] rfl (by simp[hs1,←hx0]) (by simp)) (by simp)
   rintro b ⟨b0,b1⟩;simp only[zP,Nat.reduceEqDiff,reduceIte];refine b6 fun K5 hK5=>?_;refine gS fun K hK=>?_;simp -dsimp;apply hK;clear hK K;refine d6 rfl (fun hc1=>?_) (fun hc1=>?_)
   ·have hbl:b<fs.length:=by simpa using hc1
    have wb:=zW b (by omega);refine d7 ?_;simp only[zT,reduceIte,Nat.reduceEqDiff];refine hK5 _ _ ?_;refine b5 [2,4,5,16,17,18,19] (Or.inr (by simp)) ?_;simp only[zP,Nat.reduceEqDiff,reduceIte];refine b6 fun K6 hK6=>?_;refine d5 ?_;refine o4 k7 rfl (by decide) rfl rfl fun K hK=>?_;simp -dsimp [(hfa b hbl).1,htk,hle];refine b8 _ (hf0c b hbl) (by simp) ?_;simp -dsimp [(hfa b hbl).1,htk,hle];refine hK _ _ _ (by decide+kernel) ?_;clear hK K;simp only[zT,reduceIte,Nat.reduceEqDiff];refine hK6 _ _ ?_;refine b5 [2,4,5,16,17,18,19] (Or.inr (by simp)) ?_;simp only[zP,Nat.reduceEqDiff,reduceIte];refine gR fun K hK=>?_;simp -dsimp [wb];apply hK;clear hK K;simp only[zT,reduceIte,Nat.reduceEqDiff];exact⟨b+1,by omega,by omega,l9 (d8 [some 0,some 1,some 2] rfl (by simp[T9 (hxg b hbl),a9C]) (by simp)) (by simp)⟩
   ·have hbl:¬b<fs.length:=by simpa using hc1
    have htx:xs.take b=xs:=List.take_of_length_le (by omega);rw[htx];have hsb:=O7 xs x0 hx0b hxb;generalize hsh:F0 x0 xs=sh at hsb ⊢;refine f8 ?_;simp only[zT,reduceIte,Nat.reduceEqDiff];refine hK4 _ _ ?_;refine b5 [16,17,18] (Or.inr (by simp)) ?_;simp only[zP,Nat.reduceEqDiff,reduceIte];refine b6 fun K7 hK7=>?_;refine gS fun K hK=>?_;simp -dsimp;apply hK;clear hK K;refine d5 ?_;refine b5 [16,17,18,20] (Or.inr (by simp)) ?_;simp only[zP,Nat.reduceEqDiff,reduceIte];refine f5 [16,17,18] (α:=Nat) (fun i=>[(20,I i)]) (fun i=>[some (.els 4 [g.cells]),some (.els 2 [s.cells]),some (.els 1 ((shl nl sh i).map i4))]) (fun i=>i≤n) (fun i=>n-i) 0 ?_ ?_ ?_
    ·exact Nat.zero_le _
    ·refine l9 (d8 [some 0,some 1,some 2] rfl (by simp) (by simp[a9g])) (by simp)
    rintro i i1;simp only[zP,Nat.reduceEqDiff,reduceIte];refine b6 fun K8 hK8=>?_;refine gS fun K hK=>?_;simp -dsimp;apply hK;clear hK K;refine d6 rfl (fun hc2=>?_) (fun hc2=>?_)
    ·have hin:i<n:=by simpa using hc2
     have wi:=zW i (by omega);obtain⟨x,hx⟩:∃x,nl[i]?=some x:=⟨_,List.getElem?_eq_getElem (by omega)⟩;have hxn:-1000000000000000≤x∧x≤1000000000000000:=by
      rw[hnl,List.getElem?_map]at hx;obtain⟨y,_,rfl⟩:=Option.map_eq_some_iff.1 hx;exact hnb y
     have gsh:=b2G (sh:=sh) hx;have wx:IntKind.i64.wrap (x+sh)=x+sh:=f6 (by omega) (by omega);have hst:=b2L (sh:=sh) hx;refine d7 ?_;simp only[zT,reduceIte,Nat.reduceEqDiff];refine hK8 _ _ ?_;refine b5 [16,17,18,20] (Or.inr (by simp)) ?_;simp only[zP,Nat.reduceEqDiff,reduceIte];refine b6 fun K9 hK9=>?_;refine d5 ?_;refine gR fun K hK=>?_;simp -dsimp [hin,gsh,wx];apply hK;clear hK K;simp only[zT,reduceIte,Nat.reduceEqDiff];refine hK9 _ _ ?_;refine b5 [16,17,18,20] (Or.inr (by simp)) ?_;simp only[zP,Nat.reduceEqDiff,reduceIte];refine gR fun K hK=>?_;simp -dsimp [wi];apply hK;clear hK K;simp only[zT,reduceIte,Nat.reduceEqDiff];exact⟨i+1,by omega,by omega,l9 (d8 [some 0,some 1,some 2] rfl (by simp) (by simp[←hst,List.map_set])) (by simp)⟩
    ·have hin0:¬i<n:=by simpa using hc2
     have hin:i=n:=by omega
     refine f8 ?_;simp only[zT,reduceIte,Nat.reduceEqDiff];refine hK7 _ _ ?_;refine b5 [16,17] (Or.inr (by simp)) ?_;simp only[zP,Nat.reduceEqDiff,reduceIte];refine gS fun K hK=>?_;simp -dsimp;apply hK;clear hK K;have hsl:shl nl sh n=v:=by
      rw[b3R hnll,e1,hnl,List.map_map,hx0',hsh];rfl
     have hvl:v.length=n:=by rw[←hsl,b2v,hnll]
     rw[hin,hsl];exact i5 (by simp[e2,y3,m6,←hvl])
end Go.Cur
end
section
namespace Go.Cur
open Go.AM Go.Proofs
def a8n (V:Nat→Int) (q:Nat→Nat) (nu:Nat→Int) (de:Int) (a b:Nat):Bool:=decide (nu (q b)<V b*de)==a.testBit b
def b4m (P:n9) (m a:Nat):Bool:=(List.range m).all (a8n P.V P.p (P.num (s7 a)) (P.den (s7 a)) a)
def V6 (P:n9) (m:Nat):Nat:=((List.range (2^m)).find? fun a=>decide (1≤a)&&b4m P m a).getD 0
theorem a9E {P:n9} {m a:Nat} (hfs:P.fs=List.range m):b4m P m a=true↔a9W P (s7 a):=by
 unfold b4m a9W;rw[hfs,List.all_eq_true];constructor
 ·intro h b hb;have:=h b hb;unfold a8n at this;rw[beq_iff_eq]at this;exact this.symm
 ·intro h b hb;unfold a8n;rw[beq_iff_eq];exact(h b hb).symm
theorem a4Q {P:n9} (ho:P.Ok) {m:Nat} (hfs:P.fs=List.range m) (hm:m≠0) (hsum:0<sm P.u P.ns):
  1≤V6 P m∧V6 P m<2^m∧b4m P m (V6 P m)=true∧∀a,1≤a→a<V6 P m→b4m P m a=false:=by
 obtain⟨S0,hS0⟩:=a3G ho hsum (by rw[hfs];intro e;have:=congrArg List.length e;simp at this;exact hm this);obtain⟨hne,hst⟩:=a3c ho hsum hS0;generalize D4 P S0=S at hne hst;obtain⟨a,ha,hb⟩:=a7I S m;obtain⟨b0,hb0,hSb⟩:=hne;rw[hfs,List.mem_range]at hb0;have ha1:1≤a:=by
  rcases Nat.eq_zero_or_pos a with h|h
  ·subst h;have:=hb b0 hb0;rw[hSb]at this;simp at this
  ·exact h
 have hnc:=a6R (P:=P) (S:=S) (S':=s7 a) fun b hb'=>by rw[hfs,List.mem_range]at hb';exact(hb b hb').symm
 have hfit:b4m P m a=true:=by
  rw[a9E hfs];intro b hb';have h:=hst b hb';rw[hnc.1,hnc.2]at h;rw[hfs,List.mem_range]at hb';rw[show s7 a b=S b from hb b hb'];exact h
 cases hf:(List.range (2^m)).find? (fun a=>decide (1≤a)&&b4m P m a)with
 |none=>
  rw[List.find?_eq_none]at hf;have:=hf a (List.mem_range.2 ha);simp[ha1,hfit]at this
 |some a0=>
  have e:V6 P m=a0:=by unfold V6;rw[hf];rfl
  rw[List.find?_range_eq_some]at hf;rw[e];obtain⟨h1,h2,h3⟩:=hf;simp only[Bool.and_eq_true,decide_eq_true_eq]at h1;refine⟨h1.1,List.mem_range.1 h2,h1.2,fun a h4 h5=>?_⟩;have:=h3 a h5;simpa [h4]using this
theorem b3S {P:n9} (ho:P.Ok) {m:Nat} (hfs:P.fs=List.range m) (hm:m≠0) (hsum:0<sm P.u P.ns):
  0<P.den (s7 (V6 P m))∧0<P.den (s7 (Y0 P m))∧∀k∈P.ns,P.num (s7 (V6 P m)) k*P.den (s7 (Y0 P m))=P.num (s7 (Y0 P m)) k*P.den (s7 (V6 P m)):=by
 obtain⟨a1,a2,a3,_⟩:=a4Q ho hfs hm hsum;obtain⟨b1,b2,b3,_⟩:=a1q ho hfs hm hsum;have h1:∃b∈P.fs,s7 (V6 P m) b=true:=by obtain⟨b,hb,h⟩:=a2N a1 a2;exact⟨b,by rw[hfs];exact List.mem_range.2 hb,h⟩
 have f1:=a7h h1 ((a9E hfs).1 a3);have f2:=(b2z hfs (a2N b1 b2)).1 b3;exact⟨I3 ho f1.1,I3 ho f2.1,fun k hk=>b5X ho f1 f2 k hk⟩
def pvR (g:Gr) (s:Sta) (us:Kvs) (p:List Nat):List Int×Int×Bool:=
 if m9 g s (upN p)=[]then(a0Q p.length,1,a0c us p)
 else if E9 us p<0 then([],0,false)
 else if E9 us p=0 then
  (p.map fun k=>(ptO g s us p).num0 (p.getD 0 0) k+F0 ((ptO g s us p).V 0*(ptO g s us p).den0 (p.getD 0 0)-(ptO g s us p).num0 (p.getD 0 0) ((ptO g s us p).p 0)) ((List.range (m9 g s (upN p)).length).map fun b=>(ptO g s us p).V b*(ptO g s us p).den0 (p.getD 0 0)-(ptO g s us p).num0 (p.getD 0 0) ((ptO g s us p).p b)),
   (ptO g s us p).den0 (p.getD 0 0),true)
 else(p.map fun k=>(ptO g s us p).num (s7 (V6 (ptO g s us p) (m9 g s (upN p)).length)) k,(ptO g s us p).den (s7 (V6 (ptO g s us p) (m9 g s (upN p)).length)),true)
theorem b4F (g:Gr) (s:Sta) (p:List Nat) (us:Kvs) (fs cu:List Int) (hfs:fs=m9 g s (upN p)) (hnt:o8 g s) (hp:p∈j8 g s) (h5:p.length≤5) (hus:∀x,-40≤igt us x∧igt us x≤40) (hcu:∀k∈p,cu[k]?=some (igt us k)) (v:List Int) (d:Int) (ok:Bool)
  (q0:fs=[]→v=a0Q p.length∧d=1∧ok=a0c us p)
  (q1:fs≠[]→E9 us p<0→v=[]∧d=0∧ok=false)
  (q2:fs≠[]→E9 us p=0→d4 Try.prog 74 [g.av,s.av,iL (upN p),iL cu,iL fs] (.tup [iL v,I d,Bo true])∧ok=true)
  (q3:fs≠[]→0<E9 us p→ok=true∧∃a0,1≤a0∧a0<2^fs.length∧b4m (Pt g (onW g.Wires s.Wires) us p fs fs.length) fs.length a0=true∧(∀a,1≤a→a<a0→b4m (Pt g (onW g.Wires s.Wires) us p fs fs.length) fs.length a=false)∧
   d=(Pt g (onW g.Wires s.Wires) us p fs fs.length).den (s7 a0)∧v=p.map fun k=>(Pt g (onW g.Wires s.Wires) us p fs fs.length).num (s7 a0) k):
  d4 Try.prog 51 [g.av,s.av,iL (upN p),iL cu] (.tup [iL v,I d,Bo ok]):=by
 have hpt:=a5u hnt hp (by omega);have hpl:=o9 p;have hb:=r6 hnt.gr;have hn10:=hpt.n10;have hfl:=a6Q hnt hfs;have hfd:=R6 g s (upN p) hnt.sf (by omega) (by omega);rw[←hfs]at hfd;have hmt:=a6C g s p p.length rfl hpt.n1 hpt.n10 hpt.nd hnt.sw hb.2.2.1 hnt.wires hpt.cl;have hp0:0<p.length:=by have:=hpt.n1;omega
 have wneg:∀x,IntKind.i64.wrap (-igt us x)=-igt us x:=fun x=>f6 (by have:=hus x;omega) (by have:=hus x;omega);obtain⟨n,hn⟩:∃n,n=p.length:=⟨_,rfl⟩;rw[←hn]at hpl hn10 hmt hp0;refine d4.of_bodyG Try.func51 rfl (by decide) (by simp[Try.ntmps51]) ?_;intro J hJ;simp only[Try.ntmps51,Try.results51];refine gS fun K hK=>?_;simp -dsimp;apply hK;clear hK K;refine gS fun K hK=>?_;simp -dsimp;refine b8 _ (hfd) (by simp) ?_;simp -dsimp;apply hK;clear hK K;refine gS fun K hK=>?_;simp -dsimp;apply hK;clear hK K;refine b6 fun K1 hK1=>?_;refine gS fun K hK=>?_;simp -dsimp;apply hK;clear hK K;refine d5 ?_;refine b5 [2,3,4,5,11,12,13,14] (Or.inr (by simp)) ?_;simp only[zP,Nat.reduceEqDiff,reduceIte];refine f5 [2,3,4,5,11] (α:=Nat) (fun k=>[(12,I (E9 us (p.take k))),(13,Bo (a0c us (p.take k))),(14,I k)]) (fun k=>[some (.els 4 [g.cells]),some (.els 2 [s.cells])]) (fun k=>k≤n) (fun k=>n-k) 0 ?_ ?_ ?_
 ·exact Nat.zero_le _
 ·exact l9 (d8 [some 0,some 1] rfl (by simp[E9,a0c,sm]) (by simp)) (by simp)
 rintro k k1;simp only[zP,Nat.reduceEqDiff,reduceIte];refine b6 fun K2 hK2=>?_;refine gS fun K hK=>?_;simp -dsimp [hpl];apply hK;clear hK K;refine d6 rfl (fun hc0=>?_) (fun hc0=>?_)
 ·have hkn:k<n:=by simpa using hc0
  obtain⟨x,hx⟩:∃x,p[k]?=some x:=⟨_,List.getElem?_eq_getElem (by omega)⟩;have gx:=B8 hx;have gc:=hcu x (List.mem_of_getElem? hx);have wk:=zW k (by omega);have hbd:=a5d hus (p.take k);have htl:(p.take k).length=k:=by rw[List.length_take];omega
  rw[htl]at hbd;have ws:IntKind.i64.wrap (E9 us (p.take k)+igt us x)=E9 us (p.take k)+igt us x:=f6 (by have:=hus x;omega) (by have:=hus x;omega);refine d7 ?_;simp only[zT,reduceIte,Nat.reduceEqDiff];refine hK2 _ _ ?_;refine b5 [2,3,4,5,11,12,13,14] (Or.inr (by simp)) ?_;simp only[zP,Nat.reduceEqDiff,reduceIte];refine b6 fun K3 hK3=>?_;refine d5 ?_;refine gS fun K hK=>?_;simp -dsimp [gx,gc,ws];apply hK;clear hK K;refine gR fun K hK=>?_;simp -dsimp;refine l4 ([I x]) (fun _=>by simp[gx]) ?_;simp -dsimp;refine l4 ([I (igt us x)]) (fun _=>by simp[gc]) ?_;simp -dsimp;apply hK;clear hK K;simp only[zT,reduceIte,Nat.reduceEqDiff];refine hK3 _ _ ?_;refine b5 [2,3,4,5,11,12,13,14] (Or.inr (by simp)) ?_;simp only[zP,Nat.reduceEqDiff,reduceIte];refine gR fun K hK=>?_;simp -dsimp [wk];apply hK;clear hK K;simp only[zT,reduceIte,Nat.reduceEqDiff];exact⟨k+1,by omega,by omega,l9 (d8 [some 0,some 1] rfl (by simp[a1V hx,a3A hx]) (by simp)) (by simp)⟩
 ·have hkp : ¬k<n:=by simpa using hc0
  have htp:p.take k=p:=List.take_of_length_le (by omega);rw[htp];refine f8 ?_;simp only[zT,reduceIte,Nat.reduceEqDiff];refine hK1 _ _ ?_;refine b5 [2,3,4,5,11,12,13] (Or.inr (by simp)) ?_;simp only[zP,Nat.reduceEqDiff,reduceIte];refine b6 fun K4 hK4=>?_;refine gS fun K hK=>?_;simp -dsimp;apply hK;clear hK K;refine d6 rfl (fun hc1=>?_) (fun hc1=>?_)
  ·have hf0:fs=[]:=by cases fs with|nil=>rfl|cons a l=>exact absurd hc1 (by simp;omega)
   have f9:D8 n 9:=j7 (by omega) (by omega);obtain⟨e1,e2,e3⟩:=q0 hf0;refine gS fun K hK=>?_;simp -dsimp [f9,hpl];apply hK;clear hK K;exact i5 (by simp[e1,e2,e3,a0Q,hpl,←hn,y3,m6])
  ·have hf0 :fs≠[]:=by rintro rfl;simp at hc1
   have hml:1≤fs.length:=by cases fs with|nil=>exact absurd rfl hf0|cons a l=>simp
   refine d7 ?_;simp only[zT,reduceIte,Nat.reduceEqDiff];refine hK4 _ _ ?_;refine b5 [2,3,4,5,11,12] (Or.inr (by simp)) ?_;simp only[zP,Nat.reduceEqDiff,reduceIte];refine b6 fun K5 hK5=>?_;refine gS fun K hK=>?_;simp -dsimp;apply hK;clear hK K;refine d6 rfl (fun hc2=>?_) (fun hc2=>?_)
   ·have hs2:E9 us p<0:=by simpa using hc2
    obtain⟨e1,e2,e3⟩:=q1 hf0 hs2;refine gS fun K hK=>?_;simp -dsimp;apply hK;clear hK K;refine o5 (l9 (z7 8 1 (by simp)) (by simp)) ?_;exact i5 (by simp[e1,e2,e3,y3,m6])
   ·refine d7 ?_;simp only[zT,reduceIte,Nat.reduceEqDiff];refine hK5 _ _ ?_;refine b5 [2,3,4,5,11,12] (Or.inr (by simp)) ?_;simp only[zP,Nat.reduceEqDiff,reduceIte];refine b6 fun K6 hK6=>?_;refine gS fun K hK=>?_;simp -dsimp;apply hK;clear hK K;refine d6 rfl (fun hc3=>?_) (fun hc3=>?_)
    ·have hs3:E9 us p=0:=by simpa using hc3
     obtain⟨hfc,e3⟩:=q2 hf0 hs3;refine gS fun K hK=>?_;simp -dsimp;refine b8 _ (hfc) (by simp) ?_;simp -dsimp;apply hK;clear hK K;exact i5 (by simp[e3,y3,m6])
    ·subst hn;have hs2:¬E9 us p<0:=by simpa using hc2
     have hs3:¬E9 us p=0:=by simpa using hc3
     have hsp:0<E9 us p:=by omega
     obtain⟨e3,a0,ha1,ha2,haf,hal,e2,e1⟩:=q3 hf0 hsp;have hsm:=fun a (h2:1≤a) (h3:a<2^fs.length)=>a5t (us:=us) hnt hp h5 hfs hus (s7 a) (a2N h2 h3);have hfa:=fun b (hb:b<fs.length)=>C8 hnt hfs hb;have hpi:=fun b (hb:b<fs.length)=>List.idxOf_lt_length_of_mem (hfa b hb).2.2.2.2.2.1;have hm64:fs.length≤IntKind.i64.bits:=Nat.le_trans (show fs.length≤12 by omega) (by decide);have hsh:IntKind.i64.wrap (2^fs.length)=2^fs.length:=by have:=b9s fs.length (by omega);rw[Int.toNat_natCast,Int.one_mul,Int.natCast_pow]at this;exact this
     have hpow:2^fs.length≤2^12:=Nat.pow_le_pow_right (by omega) hfl;have hix:=fun b (hb:b<fs.length)=>by
      have hi:=N3 (upN p) (fdI g (at0 fs (b:Nat))).At (by omega);rw[C7 (hfa b hb).2.2.2.2.1 (hfa b hb).2.2.2.2.2.1]at hi;exact hi
     refine d7 ?_;simp only[zT,reduceIte,Nat.reduceEqDiff];refine hK6 _ _ ?_;refine b5 [2,3,4,5,11] (Or.inr (by simp)) ?_;simp only[zP,Nat.reduceEqDiff,reduceIte];refine b6 fun K7 hK7=>?_;refine gS fun K hK=>?_;simp -dsimp;apply hK;clear hK K;refine d5 ?_;refine b5 [2,3,4,5,11,15] (Or.inr (by simp)) ?_;simp only[zP,Nat.reduceEqDiff,reduceIte];refine f5 [2,3,4,5,11] (α:=Nat) (fun a=>[(15,I a)]) (fun a=>[some (.els 4 [g.cells]),some (.els 2 [s.cells])]) (fun a=>a≤a0) (fun a=>2^fs.length-a) 0 ?_ ?_ ?_
     ·exact Nat.zero_le _
     ·exact l9 (d8 [some 0,some 1] rfl (by simp) (by simp)) (by simp)
     rintro a a1;simp only[zP,Nat.reduceEqDiff,reduceIte];refine b6 fun K8 hK8=>?_;refine gS fun K hK=>?_;simp -dsimp [hm64,hsh];apply hK;clear hK K;refine d6 rfl (fun hc4=>?_) (fun hc4=>?_)
     ·have hal2:a<2^fs.length:=by omega
      have wa:=zW a (by omega);refine d7 ?_;simp only[zT,reduceIte,Nat.reduceEqDiff];refine hK8 _ _ ?_;refine b5 [2,3,4,5,11,15] (Or.inr (by simp)) ?_;simp only[zP,Nat.reduceEqDiff,reduceIte];refine b6 fun K9 hK9=>?_;refine d5 ?_;refine gS fun K hK=>?_;simp -dsimp;refine a3l hmt (by simp) ?_;simp -dsimp;apply hK;clear hK K;refine gS fun K hK=>?_;simp -dsimp;apply hK;clear hK K;refine b6 fun K10 hK10=>?_;refine gS fun K hK=>?_;simp -dsimp;apply hK;clear hK K;refine d5 ?_;refine b5 [2,3,4,5,11,15,16,17,18] (Or.inr (by simp)) ?_;simp only[zP,Nat.reduceEqDiff,reduceIte];refine f5 [2,3,4,5,11,15,16] (α:=Nat) (fun k=>[(17, .row 3 0 k),(18,I k)]) (fun k=>[some (.els 4 [g.cells]),some (.els 2 [s.cells]),some (.els 1 (B7 4 p.length p.length)),some (.els 1 (((rgt us p).take k).map i4))]++m7 (Lf (onW g.Wires s.Wires) p) p.length p.length) (fun k=>k≤p.length) (fun k=>p.length-k) 0 ?_ ?_ ?_
      ·exact Nat.zero_le _
      ·have hout:∀i,i<p.length→some (i+3)∉ [some 0,some 1,some 2,some (p.length+3)]:=fun i hi=>by simp;omega
       have hro:=w9 (g:=some 0::some 1::some 2::some (p.length+3)::(List.range p.length).map fun i=>some (i+3)) (c:=3) (c':=4) (m:=p.length) (n:=p.length) (fun i hi=>o7 (gf:=[some 0,some 1,some 2,some (p.length+3)]) hi (hout i hi));refine l9 ((z7 17 1 (by simp)).trans (D5 (F':=[some (.els 4 [g.cells]),some (.els 2 [s.cells]),some (.els 1 (B7 4 p.length p.length)),some (.els 1 (((rgt us p).take 0).map i4))]) [some 0,some 1,some 2,some (p.length+3)] (Lf (onW g.Wires s.Wires) p) p.length p.length 3 (by simp[s9]) hout ?_ (by simp) ?_)) (by simp)
       ·intro i hi;show l7 (m7 _ p.length p.length++_) i=_;rw[k9 hi]
       ·simp[hro]
      rintro k k1;simp only[zP,Nat.reduceEqDiff,reduceIte];refine b6 fun K11 hK11=>?_;refine gS fun K hK=>?_;simp -dsimp [hpl];apply hK;clear hK K;refine d6 rfl (fun hc5=>?_) (fun hc5=>?_)
      ·have hkn:k<p.length:=by simpa [hpl]using hc5
       obtain⟨x,hx⟩:∃x,p[k]?=some x:=⟨_,List.getElem?_eq_getElem (by omega)⟩;have gx:=B8 hx;have gc:=hcu x (List.mem_of_getElem? hx);have wk:=zW k (by omega);have hrl:min k (rgt us p).length=k:=by simp only[rgt,List.length_map];omega
       have gr:(rgt us p)[k]?=some (-igt us x):=by simp[rgt,hx]
       have f2:D8 (k+1) 9:=j7 (by omega) (by omega);refine d7 ?_;simp only[zT,reduceIte,Nat.reduceEqDiff];refine hK11 _ _ ?_;refine b5 [2,3,4,5,11,15,16,17,18] (Or.inr (by simp)) ?_;simp only[zP,Nat.reduceEqDiff,reduceIte];refine b6 fun K12 hK12=>?_;refine d5 ?_;refine gR fun K hK=>?_;simp -dsimp [gx,gc,wneg,f2,hrl,Nat.add_assoc];apply hK;clear hK K;simp only[zT,reduceIte,Nat.reduceEqDiff];refine hK12 _ _ ?_;refine b5 [2,3,4,5,11,15,16,17,18] (Or.inr (by simp)) ?_;simp only[zP,Nat.reduceEqDiff,reduceIte];refine gR fun K hK=>?_;simp -dsimp [wk];apply hK;clear hK K;simp only[zT,reduceIte,Nat.reduceEqDiff];have hout:∀i,i<p.length→some (i+4)∉ [some 0,some 1,some 2,some (p.length+4)]:=fun i hi=>by simp;omega
       have hro:=w9 (g:=some 0::some 1::some 2::some (p.length+4)::(List.range p.length).map fun i=>some (i+4)) (c:=4) (c':=4) (m:=p.length) (n:=p.length) (fun i hi=>o7 (gf:=[some 0,some 1,some 2,some (p.length+4)]) hi (hout i hi));refine⟨k+1,by omega,by omega,l9 (D5 (F':=[some (.els 4 [g.cells]),some (.els 2 [s.cells]),some (.els 1 (B7 4 p.length p.length)),some (.els 1 (((rgt us p).take (k+1)).map i4))]) [some 0,some 1,some 2,some (p.length+4)] (Lf (onW g.Wires s.Wires) p) p.length p.length 4 (by simp[s9]) hout ?_ (by simp) ?_) (by simp)⟩
       ·intro i hi;show l7 (m7 _ p.length p.length++_) i=_;rw[k9 hi]
       ·simp[hro,List.take_add_one,gr]
      ·have hkn:k=p.length:=by have hx:¬k<p.length:=(by simpa [hpl]using hc5);omega
       have hrt:List.take k ((rgt us p).map i4)=(rgt us p).map i4:=List.take_of_length_le (by simp[rgt];omega);rw[hrt,hkn];refine f8 ?_;simp only[zT,reduceIte,Nat.reduceEqDiff];refine hK10 _ _ ?_;refine b5 [2,3,4,5,11,15,16,17] (Or.inr (by simp)) ?_;simp only[zP,Nat.reduceEqDiff,reduceIte];refine b6 fun K13 hK13=>?_;refine gS fun K hK=>?_;simp -dsimp;apply hK;clear hK K;refine d5 ?_;refine b5 [2,3,4,5,11,15,16,17,19] (Or.inr (by simp)) ?_;simp only[zP,Nat.reduceEqDiff,reduceIte];refine f5 [2,3,4,5,11,15,16,17] (α:=Nat) (fun t=>[(19,I t)]) (fun t=>[some (.els 4 [g.cells]),some (.els 2 [s.cells]),some (.els 1 (B7 4 p.length p.length)),some (.els 1 ((RfL g (onW g.Wires s.Wires) us p fs t a).map i4))]++m7 (Af g (onW g.Wires s.Wires) us p fs t a) p.length p.length) (fun t=>t≤fs.length) (fun t=>fs.length-t) 0 ?_ ?_ ?_
       ·exact Nat.zero_le _
       ·rw[b3s,b2S];exact l9 (i7 (by simp)) (by simp)
       rintro t t1;simp only[zP,Nat.reduceEqDiff,reduceIte];refine b6 fun K14 hK14=>?_;refine gS fun K hK=>?_;simp -dsimp [Nat.add_assoc];apply hK;clear hK K;refine d6 rfl (fun hc6=>?_) (fun hc6=>?_)
       ·have htl:t<fs.length:=by simpa using hc6
        have wt:=zW t (by omega);have hbit:bits .and .i64 ((a:Int)/2^t) 1=if a.testBit t then 1 else 0:=by have:=T2 a t (by omega);rwa [Int.toNat_natCast]at this
        have ht64:t≤IntKind.i64.bits:=Nat.le_trans (show t≤12 by omega) (by decide);refine d7 ?_;simp only[zT,reduceIte,Nat.reduceEqDiff];refine hK14 _ _ ?_;refine b5 [2,3,4,5,11,15,16,17,19] (Or.inr (by simp)) ?_;simp only[zP,Nat.reduceEqDiff,reduceIte];refine b6 fun K15 hK15=>?_;refine d5 ?_;refine q9 k7 rfl (by decide) rfl rfl fun K hK=>?_;simp -dsimp [(hfa t htl).1,(hfa t htl).2.1,(hfa t htl).2.2.2.1,Nat.add_assoc];refine hK _ _ _ (by exact p9 [(0,2),(1,2),(0,3),(1,3),(2,3),(0,4),(1,4),(0,5),(1,5),(0,8),(1,8),(2,8),(3,8),(4,8),(5,8),(6,8),(7,8)] (by decide+kernel) (by decide+kernel) (by simp[I7]<;>omega)) ?_;clear hK K;refine gS fun K hK=>?_;simp -dsimp [hbit,ht64];apply hK;clear hK K;refine d6 rfl (fun hc7=>?_) (fun hc7=>?_)
        ·have hbt:a.testBit t=true:=by cases h:a.testBit t with|true=>rfl|false=>rw[h]at hc7;simp at hc7
         obtain⟨k,hk⟩:∃k,k=p.idxOf (fdI g (at0 fs t)).At.toNat:=⟨_,rfl⟩;have hkl:k<p.length:=by rw[hk];exact hpi t htl
         have hkl1:k≤p.length+1:=by omega
         have hkg:p[k]?=some (fdI g (at0 fs t)).At.toNat:=by rw[hk];exact s6 (hfa t htl).2.2.2.2.2.1
         have hat:p.getD k 0=(U6 g fs t).At.toNat:=by rw[F1 hkl]at hkg;exact Option.some.inj hkg
         have hAe:=c0Y g (onW g.Wires s.Wires) us p fs hpt.nd hbt hkl hat;have hRe:=c0I g (onW g.Wires s.Wires) us p fs hpt.nd hbt hkl hat;have hfdo:U6 g fs t=fdI g (at0 fs t):=rfl;rw[hfdo]at hAe hRe;have hab:(Af g (onW g.Wires s.Wires) us p fs t a k k).natAbs≤400:=by
          have hb1:=b3c (P:=Pt g (onW g.Wires s.Wires) us p fs t) (S:=s7 a) (c:=(Pt g (onW g.Wires s.Wires) us p fs t).s) (C:=4) (i:=p.getD k 0) (by omega) (fun b hb=>by
           have:=hfa b (by have:=List.mem_range.1 hb;omega);show 0≤(fdI g (at0 fs b)).Siem∧(fdI g (at0 fs b)).Siem≤4;omega)
          have hb2:(Pt g (onW g.Wires s.Wires) us p fs t).fs.length=t:=List.length_range;rw[hb2]at hb1;have hb3:(lw (onW g.Wires s.Wires) (p.getD k 0) (p.getD k 0)).natAbs≤320:=Nat.le_trans (a6k fun x hx=>by
           obtain⟨w',hw',e⟩:=Y9 hx;have:=hnt.wires w' hw';simp only[wrB,Bool.and_eq_true,u5]at this;rw[e];simp only;omega) (by have:=a4f g.Wires s.Wires;omega)
          unfold Af n9.A;rw[if_pos rfl];show(lw _ _ _+_).natAbs≤400;omega
         have hrb:(Rf g (onW g.Wires s.Wires) us p fs t a k).natAbs≤50000:=by
          have hb1:=b3c (P:=Pt g (onW g.Wires s.Wires) us p fs t) (S:=s7 a) (c:=fun b=>(Pt g (onW g.Wires s.Wires) us p fs t).s b*(Pt g (onW g.Wires s.Wires) us p fs t).V b) (C:=4000) (i:=p.getD k 0) (by omega) (fun b hb=>by
           have h:=hfa b (by have:=List.mem_range.1 hb;omega);show 0≤(fdI g (at0 fs b)).Siem*(fdI g (at0 fs b)).Volts∧(fdI g (at0 fs b)).Siem*(fdI g (at0 fs b)).Volts≤4000;exact⟨Int.mul_nonneg (by omega) (by omega),Int.mul_le_mul h.2.2.2.2.2.2.2.2.2 h.2.2.2.2.2.2.2.1 (by omega) (by omega)⟩)
          have hb2:(Pt g (onW g.Wires s.Wires) us p fs t).fs.length=t:=List.length_range;rw[hb2]at hb1;have hb3:=hus (p.getD k 0);unfold Rf n9.b;show(-igt us _+_).natAbs≤50000;omega
         have hsv:0≤(fdI g (at0 fs t)).Siem*(fdI g (at0 fs t)).Volts∧(fdI g (at0 fs t)).Siem*(fdI g (at0 fs t)).Volts≤4000:=by
          have h:=hfa t htl;exact⟨Int.mul_nonneg (by omega) (by omega),Int.mul_le_mul h.2.2.2.2.2.2.2.2.2 h.2.2.2.2.2.2.2.1 (by omega) (by omega)⟩
         have w1:IntKind.i64.wrap (Af g (onW g.Wires s.Wires) us p fs t a k k+(fdI g (at0 fs t)).Siem)=Af g (onW g.Wires s.Wires) us p fs t a k k+(fdI g (at0 fs t)).Siem:=f6 (by have:=hfa t htl;omega) (by have:=hfa t htl;omega);have w2:IntKind.i64.wrap ((fdI g (at0 fs t)).Siem*(fdI g (at0 fs t)).Volts)=(fdI g (at0 fs t)).Siem*(fdI g (at0 fs t)).Volts:=f6 (by omega) (by omega);have w3:IntKind.i64.wrap (Rf g (onW g.Wires s.Wires) us p fs t a k+(fdI g (at0 fs t)).Siem*(fdI g (at0 fs t)).Volts)=Rf g (onW g.Wires s.Wires) us p fs t a k+(fdI g (at0 fs t)).Siem*(fdI g (at0 fs t)).Volts:=f6 (by omega) (by omega);have grk:=b2D g (onW g.Wires s.Wires) us p fs (t:=t) (a:=a) hkl;have hwk:=hix t htl;rw[←hk]at hwk;generalize Af g (onW g.Wires s.Wires) us p fs t a=f at w1 hAe ⊢;generalize Rf g (onW g.Wires s.Wires) us p fs t a k=rk at w3 grk hRe;generalize RfL g (onW g.Wires s.Wires) us p fs t a=rl at grk hRe ⊢;refine gS fun K hK=>?_;simp -dsimp [Nat.add_assoc];refine b8 _ (hwk) (by simp) ?_;simp -dsimp [Nat.add_assoc];apply hK;clear hK K;refine q9 k7 rfl (by decide) rfl rfl fun K hK=>?_;simp -dsimp [hkl1,Nat.add_assoc,u6 hkl,hkl,k9 hkl,Y2,A7 hkl,v5 hkl,w1];refine hK _ _ _ (by exact p9 [(0,1),(0,4),(1,4),(2,4),(3,4),(0,5),(1,5),(2,5),(3,5),(4,5),(0,6),(1,6),(2,6),(3,6),(4,6),(5,6),(0,7),(1,7),(2,7),(3,7),(4,7),(0,8),(1,8),(2,8),(3,8),(4,8),(0,9),(1,9),(2,9),(3,9),(4,9),(5,9),(6,9),(7,9),(8,9),(0,10),(1,10),(2,10),(3,10),(4,10),(0,11),(1,11),(2,11),(3,11),(4,11),(0,12),(1,12),(2,12),(3,12),(4,12),(5,12),(6,12),(7,12),(8,12),(9,12),(10,12),(11,12),(0,13),(1,13),(2,13),(3,13),(4,13),(5,13),(6,13),(7,13),(8,13),(9,13),(10,13),(11,13),(0,14),(1,14),(2,14),(3,14),(4,14)] (by decide+kernel) (by decide+kernel) (by simp[I7]<;>omega)) ?_;clear hK K;refine o4 k7 rfl (by decide) rfl rfl fun K hK=>?_;simp -dsimp [hkl1,Nat.add_assoc,grk,hkl,w2,w3];refine hK _ _ _ (by exact p9 [(0,1),(0,2),(1,2),(0,3),(1,3),(2,3),(0,4),(1,4),(0,5),(1,5),(0,6),(1,6),(2,6),(3,6),(4,6),(5,6),(0,7),(1,7),(2,7),(3,7),(4,7),(5,7),(0,8),(1,8),(2,8),(3,8),(4,8),(5,8),(6,8),(7,8),(0,9),(1,9),(2,9),(3,9),(4,9),(5,9),(6,9),(7,9),(0,10),(1,10),(2,10),(3,10),(4,10),(5,10),(0,11),(1,11)] (by decide+kernel) (by decide+kernel) (by simp[I7]<;>omega)) ?_;clear hK K;simp only[zT,reduceIte,Nat.reduceEqDiff];refine hK15 _ _ ?_;refine b5 [2,3,4,5,11,15,16,17,19] (Or.inr (by simp)) ?_;simp only[zP,Nat.reduceEqDiff,reduceIte];refine gR fun K hK=>?_;simp -dsimp [wt];apply hK;clear hK K;simp only[zT,reduceIte,Nat.reduceEqDiff];refine⟨t+1,by omega,by omega,l9 (D5 (F':=[some (.els 4 [g.cells]),some (.els 2 [s.cells]),some (.els 1 (B7 4 p.length p.length)),some (.els 1 ((RfL g (onW g.Wires s.Wires) us p fs (t+1) a).map i4))]) [some 0,some 1,some 2,some 3] (Af g (onW g.Wires s.Wires) us p fs (t+1) a) p.length p.length 4 (by simp[s9]) (fun i hi=>by simp) ?_ (by simp) ?_) (by simp)⟩
         ·intro i hi;show l7 (m7 _ p.length p.length++_) i=_;rw[k9 hi];rw[←n7 (m:=p.length) hi,←n7 (m:=p.length) hi,y6 hAe]
         ·have hro:=w9 (g:=some 0::some 1::some 2::some 3::(List.range p.length).map fun i=>some (i+4)) (c:=4) (c':=4) (m:=p.length) (n:=p.length) (fun i hi=>o7 (gf:=[some 0,some 1,some 2,some 3]) hi (by simp));rw[←hRe,List.map_set];simp[hro]
        ·refine d7 ?_;simp only[zT,reduceIte,Nat.reduceEqDiff];refine hK15 _ _ ?_;refine b5 [2,3,4,5,11,15,16,17,19] (Or.inr (by simp)) ?_;simp only[zP,Nat.reduceEqDiff,reduceIte];refine gR fun K hK=>?_;simp -dsimp [wt];apply hK;clear hK K;simp only[zT,reduceIte,Nat.reduceEqDiff];have hbt:a.testBit t=false:=by cases h:a.testBit t with|false=>rfl|true=>rw[h]at hc7;simp at hc7
         refine⟨t+1,by omega,by omega,?_⟩;rw[b6A _ _ _ _ _ hbt,b6i _ _ _ _ _ hbt];refine l9 (D5 (F':=[some (.els 4 [g.cells]),some (.els 2 [s.cells]),some (.els 1 (B7 4 p.length p.length)),some (.els 1 ((RfL g (onW g.Wires s.Wires) us p fs t a).map i4))]) [some 0,some 1,some 2,some 3] (Af g (onW g.Wires s.Wires) us p fs t a) p.length p.length 4 (by simp[s9]) (fun i hi=>by simp) ?_ (by simp) ?_) (by simp)
         ·intro i hi;show l7 (m7 _ p.length p.length++_) i=_;rw[k9 hi]
         ·have hro:=w9 (g:=some 0::some 1::some 2::some 3::(List.range p.length).map fun i=>some (i+4)) (c:=4) (c':=4) (m:=p.length) (n:=p.length) (fun i hi=>o7 (gf:=[some 0,some 1,some 2,some 3]) hi (by simp));simp[hro]
       ·have htl:¬t<fs.length:=by simpa using hc6
        have hte:t=fs.length:=by omega
        rw[hte];have hsol:=a2h (eqM ((Pt g (onW g.Wires s.Wires) us p fs fs.length).A (s7 a)) p) (p.map ((Pt g (onW g.Wires s.Wires) us p fs fs.length).b (s7 a))) p.length (I5 _ _) hpt.n1 hpt.n10 (by simp);rw[a4w _ _ _ hpt.nd,a4v,←b6U]at hsol;have hd00:a=0→wr (D ((Pt g (onW g.Wires s.Wires) us p fs fs.length).A (s7 a)) p)=0:=by
         rintro rfl;have:=b5P (P:=Pt g (onW g.Wires s.Wires) us p fs fs.length) (S:=s7 0) (a4O hnt hp hfs) (by show p≠[];intro e;rw[e]at hp0;simp at hp0) (fun b hb=>by unfold s7;simp);have e:D ((Pt g (onW g.Wires s.Wires) us p fs fs.length).A (s7 0)) p=0:=this;rw[e];rfl
        have hfit:=fun(h:1≤a)=>hsm a h hal2;have hv0:1≤a→(p.map fun k=>wr (Cur.num ((Pt g (onW g.Wires s.Wires) us p fs fs.length).A (s7 a)) ((Pt g (onW g.Wires s.Wires) us p fs fs.length).b (s7 a)) p k))=p.map fun k=>(Pt g (onW g.Wires s.Wires) us p fs fs.length).num (s7 a) k:=fun h=>List.map_congr_left fun k _=>a6h (by have:=(hfit h).1 k;unfold n9.num at this;show _≤Cur.num _ _ (Pt g (onW g.Wires s.Wires) us p fs fs.length).ns k;omega) (by have:=(hfit h).1 k;unfold n9.num at this;show Cur.num _ _ (Pt g (onW g.Wires s.Wires) us p fs fs.length).ns k≤_;omega);have hd0:1≤a→wr (D ((Pt g (onW g.Wires s.Wires) us p fs fs.length).A (s7 a)) p)=(Pt g (onW g.Wires s.Wires) us p fs fs.length).den (s7 a):=fun h=>a6h (by have:=(hfit h).2.1;unfold n9.den at this;show _≤D _ (Pt g (onW g.Wires s.Wires) us p fs fs.length).ns;omega) (by have:=(hfit h).2.2;unfold n9.den at this;show D _ (Pt g (onW g.Wires s.Wires) us p fs fs.length).ns≤_;omega);obtain⟨nlw,hnlw⟩:∃l,l=p.map fun k=>wr (Cur.num ((Pt g (onW g.Wires s.Wires) us p fs fs.length).A (s7 a)) ((Pt g (onW g.Wires s.Wires) us p fs fs.length).b (s7 a)) p k):=⟨_,rfl⟩;obtain⟨dw,hdw⟩:∃x,x=wr (D ((Pt g (onW g.Wires s.Wires) us p fs fs.length).A (s7 a)) p):=⟨_,rfl⟩;rw[←hnlw,←hdw]at hsol;rw[←hdw]at hd00 hd0;rw[←hnlw]at hv0;obtain⟨M,hM⟩:∃M,M=eqM ((Pt g (onW g.Wires s.Wires) us p fs fs.length).A (s7 a)) p:=⟨_,rfl⟩;rw[←hM]at hsol;refine f8 ?_;simp only[zT,reduceIte,Nat.reduceEqDiff];refine hK13 _ _ ?_;refine b5 [2,3,4,5,11,15,16,17] (Or.inr (by simp)) ?_;simp only[zP,Nat.reduceEqDiff,reduceIte];refine o5 (l9 (B9 (T':=[(2,iL (upN p)),(3,iL cu),(4, .ptr 0 0 0),(5, .ptr 1 0 0),(11,iL fs),(15,I a),(16,mL M),(17,iL (RfL g (onW g.Wires s.Wires) us p fs fs.length a))]) (H':=[some (.els 4 [g.cells]),some (.els 2 [s.cells])]) [some 0,some 1] rfl ⟨.inr (by simp), .inr (by simp), .inr (by simp), .inr (by simp), .inr (by simp), .inr (by simp), .inr ?_, .inr ?_,trivial⟩ (by simp)) (by simp)) ?_
        ·rw[hM];exact b3x _ _ _ _ hpt.n1
        ·exact c1c _ _ _ _ _ (b3q _ _ _ _ _ _ _) hpt.n1
        ·refine gS fun K hK=>?_;simp -dsimp;refine i8 [] [] [none,none,some 0] (hsol) (by decide) rfl (by simp) (by simp) rfl (by simp) ?_;simp -dsimp;apply hK;clear hK K;refine b6 fun K16 hK16=>?_;refine gS fun K hK=>?_;simp -dsimp;apply hK;clear hK K;refine d6 rfl (fun hc8=>?_) (fun hc8=>?_)
         ·refine f8 ?_;simp only[zT,reduceIte,Nat.reduceEqDiff];refine hK9 _ _ ?_;refine b5 [2,3,4,5,11,15] (Or.inr (by simp)) ?_;simp only[zP,Nat.reduceEqDiff,reduceIte];refine gR fun K hK=>?_;simp -dsimp [wa];apply hK;clear hK K;simp only[zT,reduceIte,Nat.reduceEqDiff];have hdw0:dw≤0:=by simpa using hc8
          have ha0:a=0:=by
           refine Decidable.byContradiction fun h=>?_;have h1:=hd0 (by omega);have h2:=(hfit (by omega)).2.1;omega
          exact⟨a+1,by omega,by omega,l9 (d8 [some 0,some 1] rfl (by simp) (by simp)) (by simp)⟩
         ·have hdw0:0<dw:=by have:=(by simpa using hc8:¬dw≤0);omega
          have ha0:1≤a:=by
           refine Nat.pos_of_ne_zero fun h=>?_;have:=hd00 h;omega
          have hv1:=hv0 ha0;have hd1:=hd0 ha0;obtain⟨z1,z2,z3⟩:=hfit ha0;have hfit:=show b4m (Pt g (onW g.Wires s.Wires) us p fs fs.length) fs.length a=(List.range fs.length).all (a8n (Pt g (onW g.Wires s.Wires) us p fs fs.length).V (Pt g (onW g.Wires s.Wires) us p fs fs.length).p ((Pt g (onW g.Wires s.Wires) us p fs fs.length).num (s7 a)) ((Pt g (onW g.Wires s.Wires) us p fs fs.length).den (s7 a)) a)from rfl;have hzl:∀k x,p[k]?=some x→nlw[k]?=some ((Pt g (onW g.Wires s.Wires) us p fs fs.length).num (s7 a) x):=fun k x h=>by rw[hv1,List.getElem?_map,h];rfl
          have hnle:∀a',a'=a→(p.map fun k=>(Pt g (onW g.Wires s.Wires) us p fs fs.length).num (s7 a') k)=nlw∧(Pt g (onW g.Wires s.Wires) us p fs fs.length).den (s7 a')=dw:=by rintro a' rfl;exact⟨hv1.symm,hd1.symm⟩
          have hnll:nlw.length=p.length:=by rw[hv1];simp
          rw[←hd1]at z3 hfit;obtain⟨nu,hnu⟩:∃nu,nu=(Pt g (onW g.Wires s.Wires) us p fs fs.length).num (s7 a):=⟨_,rfl⟩;rw[←hnu]at z1 hzl hfit;have hVe:(Pt g (onW g.Wires s.Wires) us p fs fs.length).V=fun(b:Nat)=>(fdI g (at0 fs b)).Volts:=rfl;have hpe:(Pt g (onW g.Wires s.Wires) us p fs fs.length).p=fun(b:Nat)=>(fdI g (at0 fs b)).At.toNat:=rfl;rw[hVe,hpe]at hfit;clear hnu hVe hpe hv1 hd1 hnlw hdw hv0 hd0 hd00;refine d7 ?_;simp only[zT,reduceIte,Nat.reduceEqDiff];refine hK16 _ _ ?_;refine b5 [2,3,4,5,11,15,22,23] (Or.inr (by simp)) ?_;simp only[zP,Nat.reduceEqDiff,reduceIte];refine gS fun K hK=>?_;simp -dsimp;apply hK;clear hK K;refine b6 fun K17 hK17=>?_;refine gS fun K hK=>?_;simp -dsimp;apply hK;clear hK K;refine d5 ?_;refine b5 [2,3,4,5,11,15,22,23,24,25] (Or.inr (by simp)) ?_;simp only[zP,Nat.reduceEqDiff,reduceIte];refine f5 [2,3,4,5,11,15,22,23] (α:=Nat) (fun b=>[(24,Bo ((List.range b).all (a8n (fun(b:Nat)=>(fdI g (at0 fs b)).Volts) (fun(b:Nat)=>(fdI g (at0 fs b)).At.toNat) nu dw a))),(25,I b)]) (fun b=>[some (.els 4 [g.cells]),some (.els 2 [s.cells]),some (.els 1 (nlw.map i4))]) (fun b=>b≤fs.length) (fun b=>fs.length-b) 0 ?_ ?_ ?_
          ·exact Nat.zero_le _
          ·exact l9 (d8 [some 0,some 1,some 2] rfl (by simp) (by simp)) (by simp)
          rintro b b1;simp only[zP,Nat.reduceEqDiff,reduceIte];refine b6 fun K18 hK18=>?_;refine gS fun K hK=>?_;simp -dsimp;apply hK;clear hK K;refine d6 rfl (fun hc9=>?_) (fun hc9=>?_)
          ·have hbl:b<fs.length:=by simpa using hc9
           have wb:=zW b (by omega);have hbit:bits .and .i64 ((a:Int)/2^b) 1=if a.testBit b then 1 else 0:=by have:=T2 a b (by omega);rwa [Int.toNat_natCast]at this
           have hb64:b≤IntKind.i64.bits:=Nat.le_trans (show b≤12 by omega) (by decide);have hvd:-100000000000000000≤(fdI g (at0 fs b)).Volts*dw∧(fdI g (at0 fs b)).Volts*dw≤100000000000000000:=by
            have h:=hfa b hbl;have h1:=Int.mul_nonneg (show 0≤(fdI g (at0 fs b)).Volts by omega) (show 0≤dw by omega);have h2:=Int.mul_le_mul h.2.2.2.2.2.2.2.1 z3 (by omega) (by omega);omega
           have w1:IntKind.i64.wrap ((fdI g (at0 fs b)).Volts*dw)=(fdI g (at0 fs b)).Volts*dw:=f6 (by omega) (by omega);have hzp:=hzl _ _ (s6 (hfa b hbl).2.2.2.2.2.1);have hif:((if a.testBit b=true then(1:Int)else 0)==1)=a.testBit b:=by cases a.testBit b<;>rfl
           refine d7 ?_;simp only[zT,reduceIte,Nat.reduceEqDiff];refine hK18 _ _ ?_;refine b5 [2,3,4,5,11,15,22,23,24,25] (Or.inr (by simp)) ?_;simp only[zP,Nat.reduceEqDiff,reduceIte];refine b6 fun K19 hK19=>?_;refine d5 ?_;refine q9 k7 rfl (by decide) rfl rfl fun K hK=>?_;simp -dsimp [(hfa b hbl).1,(hfa b hbl).2.1,(hfa b hbl).2.2.2.1];refine hK _ _ _ (by decide+kernel) ?_;clear hK K;refine o4 k7 rfl (by decide) rfl rfl fun K hK=>?_;simp -dsimp [hbit,hb64,w1,hzp,hpi b hbl,hif];refine g6 _ (fun hm=>hix b hbl) (by simp) ?_;simp -dsimp [hbit,hb64,w1,hzp,hpi b hbl,hif];refine⟨fun w=>(Z2 _ _ _ _ _ w Q6 a0v).1,_,fun w=>(Z2 _ (.tmp 0) (.tmp 0) _ _ w Q6 a0v).2,?_⟩;simp -dsimp;refine hK _ _ _ (by decide+kernel) ?_;clear hK K;simp only[zT,reduceIte,Nat.reduceEqDiff];refine hK19 _ _ ?_;refine b5 [2,3,4,5,11,15,22,23,24,25] (Or.inr (by simp)) ?_;simp only[zP,Nat.reduceEqDiff,reduceIte];refine gR fun K hK=>?_;simp -dsimp [wb];apply hK;clear hK K;simp only[zT,reduceIte,Nat.reduceEqDiff];refine⟨b+1,by omega,by omega,l9 (d8 [some 0,some 1,some 2] rfl ?_ (by simp)) (by simp)⟩;rw[a8z];generalize (List.range b).all (a8n (fun(b:Nat)=>(fdI g (at0 fs b)).Volts) (fun(b:Nat)=>(fdI g (at0 fs b)).At.toNat) nu dw a)=q;unfold a8n
           cases q<;>simp
          ·have hbl:¬b<fs.length:=by simpa using hc9
           have hbe:b=fs.length:=by omega
           rw[hbe,←hfit];refine f8 ?_;simp only[zT,reduceIte,Nat.reduceEqDiff];refine hK17 _ _ ?_;refine b5 [2,3,4,5,11,15,22,23,24] (Or.inr (by simp)) ?_;simp only[zP,Nat.reduceEqDiff,reduceIte];refine gS fun K hK=>?_;simp -dsimp;apply hK;clear hK K;refine d6 rfl (fun hc10=>?_) (fun hc10=>?_)
           ·refine gS fun K hK=>?_;simp -dsimp;apply hK;clear hK K;have hae:a0=a:=by
             rcases Nat.lt_or_ge a a0 with h|h
             ·have:=hal a (by omega) h;rw[this]at hc10;cases hc10
             ·omega
            obtain⟨g1,g2⟩:=hnle a0 hae;have htk:List.take p.length (nlw.map i4)=nlw.map i4:=List.take_of_length_le (by simp;omega);exact i5 (by simp[e1,e2,e3,g1,g2,hnll,htk,y3,m6])
           ·refine d7 ?_;simp only[zT,reduceIte,Nat.reduceEqDiff];refine hK9 _ _ ?_;refine b5 [2,3,4,5,11,15] (Or.inr (by simp)) ?_;simp only[zP,Nat.reduceEqDiff,reduceIte];refine gR fun K hK=>?_;simp -dsimp [wa];apply hK;clear hK K;simp only[zT,reduceIte,Nat.reduceEqDiff];have hae:a0≠a:=by
             rintro rfl;rw[haf]at hc10;cases hc10
            exact⟨a+1,by omega,by omega,l9 (d8 [some 0,some 1] rfl (by simp) (by simp)) (by simp)⟩
     ·exfalso;have h:((a:Nat):Int)<2^fs.length:=by have:=Int.ofNat_lt.2 (show a<2^fs.length by omega);rwa [Int.natCast_pow]at this
      exact absurd h (of_decide_eq_false hc4)
end Go.Cur
end
section
namespace Go.Cur
open Go.AM Go.Proofs
def exG (lim:Int):Gr:=⟨3,[⟨0,1,2,false⟩,⟨1,2,1,true⟩],[⟨0,600,2,lim⟩,⟨2,600,1,30⟩],500⟩
def exS (b:Bool):Sta:=⟨[true,true],[true,b]⟩
def exL:List Ld:=[⟨1,40,0⟩]
theorem Z6:t4 (exG 100) (exS false) exL=true∧t4 (exG 100) (exS true) exL=true∧t4 (exG 39) (exS false) exL=true∧t4 (exG 39) (exS true) exL=true:=by decide+kernel
theorem a7v (lim:Int) (b:Bool):B6 (exG lim) (exS b)=false:=by
 show B6 (exG 0) (exS b)=false
 cases b<;>decide+kernel
theorem b4d (lim:Int) (b:Bool) (fe:List Bool):∀p∈j8 (exG lim) ⟨fe,[true,b]⟩,p.length≤5:=by
 show∀p∈j8 (exG 0) ⟨[],[true,b]⟩,p.length≤5
 cases b<;>decide+kernel
theorem b8K:okS (exG 100) (exS false) (tkK exL (H5 exL))=true∧vlA 3 (vfS (exG 100) (exS false) (tkK exL (H5 exL)))=[⟨580,1⟩,⟨560,1⟩,⟨600,1⟩]∧flA (exG 100) (exS false) (vfS (exG 100) (exS false) (tkK exL (H5 exL)))=[⟨40,1⟩,⟨0,1⟩]:=by decide+kernel
theorem c0R:okS (exG 100) (exS true) (tkK exL (H5 exL))=true∧vlA 3 (vfS (exG 100) (exS true) (tkK exL (H5 exL)))=[⟨1760,3⟩,⟨1720,3⟩,⟨1760,3⟩]:=by decide+kernel
theorem c1H:C9 (exG 39) [true,false] exL [true,true]=⟨[false],[false,true],[⟨4,0,⟨40,1⟩⟩,⟨1,0,⟨0,1⟩⟩]⟩:=by decide+kernel
theorem c0s:b0V [true,false] 2=[1]:=by decide+kernel
def exR (c:List Int):Bool:=rlB (exG 39) (exS false) c exL
theorem b6T:b5U exR [1]=(true,some [1]):=by decide+kernel
end Go.Cur
end
section
namespace Go.Cur
open Go.AM Go.Proofs
def b8Y (g:Gr) (s:Sta) (n:Nat):Bool:=decide (g.Wires.length≤100)&&(decide (g.Feeds.length≤20)&&(decide (s.Feeds.length≤20)&&(decide (s.Wires.length≤100)&&(decide (n≤50)&&(decide (g.Nodes≤12)||decide (40<g.Nodes))))))
theorem b9E (g:Gr) (s:Sta) (l:List Ld):d4 Try.prog 14 [g.av,s.av,lL l] (Bo (b8Y g s l.length)):=by
 refine d4.of_body Try.func14 rfl (by decide) (by simp[Try.ntmps14]) ?_;simp only[Try.ntmps14,Try.results14];refine aS fun K hK=>?_;simp -dsimp;apply hK;clear hK K;refine aS fun K hK=>?_;simp -dsimp;apply hK;clear hK K;have e:∀n m:Nat,decide ((n:Int)≤m)=decide (n≤m):=fun n m=>decide_eq_decide.2 (by omega);exact f7 (by simp[b8Y,←e,Bool.and_assoc])
theorem b0M (g:Gr) (s:Sta):a9I (j8 g s)= !B6 g s:=by
 unfold a9I B6;rw[List.not_any_eq_all_not]
 congr 1
 funext p
 by_cases h:p.length≤10
 ·simp[h]
 ·simp[h];omega
def b0S (g:Gr) (s:Sta) (l:List Ld):Int:=if t4 g s l=true then(if B6 g s=true then 3 else 0)else 2
theorem a6L (g:Gr) (s:Sta) (l:List Ld) (hw0:g.Wires.length≤100000) (hf0:g.Feeds.length≤100000) (hl0:l.length≤100000):d4 Try.prog 16 [g.av,s.av,lL l] (I (b0S g s l)):=by
 have hfn:=b8x g s l hw0 hf0 hl0;unfold b0S;refine d4.of_body Try.func16 rfl (by decide) (by simp[Try.ntmps16]) ?_;simp only[Try.ntmps16,Try.results16];refine aS fun K hK=>?_;simp -dsimp;apply hK;clear hK K;refine b9 fun K1 hK1=>?_;refine aS fun K hK=>?_;simp -dsimp;refine b8 _ (hfn) (by simp) ?_;simp -dsimp;apply hK;clear hK K;refine d9 rfl (fun hc0=>?_) (fun hc0=>?_)
 ·refine aS fun K hK=>?_;simp -dsimp;apply hK;clear hK K;have hf:t4 g s l=false:=by simpa using hc0
  exact f7 (by simp[hf])
 ·have hf:t4 g s l=true:=by simpa using hc0
  have hnt:=t6 hf;have hbd:=r6 hnt.gr;have hpl:=J0 g s;have hsm:=b4Z (j8 g s) (by omega);rw[b0M]at hsm;refine e8 ?_;simp only[zT,reduceIte,Nat.reduceEqDiff];refine hK1 _ _ ?_;refine b7 [3,4] ?_;simp only[zP,Nat.reduceEqDiff,reduceIte];refine b9 fun K2 hK2=>?_;refine aS fun K hK=>?_;simp -dsimp;refine b8 _ (a1n g s hnt) (by simp) ?_;simp -dsimp;refine b8 _ (hsm) (by simp) ?_;simp -dsimp;apply hK;clear hK K;refine d9 rfl (fun hc1=>?_) (fun hc1=>?_)
  ·refine aS fun K hK=>?_;simp -dsimp;apply hK;clear hK K;have h:B6 g s=true:=by simpa using hc1
   exact f7 (by simp[hf,h])
  ·refine e8 ?_;simp only[zT,reduceIte,Nat.reduceEqDiff];refine hK2 _ _ ?_;refine b7 [] ?_;simp only[zP,Nat.reduceEqDiff,reduceIte];refine aS fun K hK=>?_;simp -dsimp;apply hK;clear hK K;have h:B6 g s=false:=by simpa using hc1
   exact f7 (by simp[hf,h])
def b6W (g:Gr) (s:Sta) (p:List Nat):Bool:= !((decide (5<p.length)&&decide (p.length≤10))||decide (5<(m9 g s (upN p)).length))
def b7l (g:Gr) (s:Sta):Bool:=(j8 g s).all (b6W g s)
theorem a9X (g:Gr) (s:Sta) (hnt:o8 g s):d4 Try.prog 17 [g.av,s.av] (Bo (b7l g s)):=by
 have hbd:=r6 hnt.gr;have hpl:=J0 g s;have hlen:∀p∈j8 g s,p.length≤40:=fun p hp=>by
  obtain⟨i,hi,rfl⟩:=B4 hp;unfold cp;have:=List.length_filter_le (fun k=>decide (nm (a6Y g s) g.Nodes.toNat k=i)) (List.range g.Nodes.toNat);rw[List.length_range]at this;omega
 unfold b7l;have hps:=a1n g s hnt;generalize j8 g s=ps at hpl hlen hps ⊢;refine d4.of_body Try.func17 rfl (by decide) (by simp[Try.ntmps17]) ?_;simp only[Try.ntmps17,Try.results17];refine aS fun K hK=>?_;simp -dsimp;apply hK;clear hK K;refine aS fun K hK=>?_;simp -dsimp;refine b8 _ (hps) (by simp) ?_;simp -dsimp;apply hK;clear hK K;refine b9 fun K1 hK1=>?_;refine aS fun K hK=>?_;simp -dsimp;apply hK;clear hK K;refine e7 ?_;refine b7 [2,3,5,6] ?_;simp only[zP,Nat.reduceEqDiff,reduceIte];refine g7 [2,3,5] (α:=Nat) (fun k=>[(6,I k)]) (fun k=>[some (.els 4 [g.cells]),some (.els 2 [s.cells])]) (fun k=>k≤ps.length∧(ps.take k).all (b6W g s)=true) (fun k=>ps.length-k) 0 ?_ ?_ ?_
 ·exact⟨Nat.zero_le _,rfl⟩
 ·exact d8 [some 0,some 1] rfl (by simp) (by simp)
 rintro k ⟨k1,k2⟩;simp only[zP,Nat.reduceEqDiff,reduceIte];refine b9 fun K2 hK2=>?_;refine aS fun K hK=>?_;simp -dsimp;apply hK;clear hK K;refine d9 rfl (fun hc0=>?_) (fun hc0=>?_)
 ·have hkl:k<ps.length:=by simpa using hc0
  have wk:=zW k (by omega);obtain⟨p,hp⟩:∃p,ps[k]?=some p:=⟨_,List.getElem?_eq_getElem hkl⟩;have hul:=o9 p;have hp40:=hlen p (List.mem_of_getElem? hp);have hfd:=R6 g s (upN p) hnt.sf (by omega) (by omega);have hlt:b6W g s p= !((decide (5<((upN p).length:Int))&&decide (((upN p).length:Int)≤10))||decide (5<((m9 g s (upN p)).length:Int))):=by
   unfold b6W;rw[hul];have e1:decide (5<p.length)=decide ((5:Int)<(p.length:Int)):=decide_eq_decide.2 (by omega);have e2:decide (p.length≤10)=decide ((p.length:Int)≤10):=decide_eq_decide.2 (by omega);have e3:decide (5<(m9 g s (upN p)).length)=decide ((5:Int)<((m9 g s (upN p)).length:Int)):=decide_eq_decide.2 (by omega);rw[e1,e2,e3]
  refine e8 ?_;simp only[zT,reduceIte,Nat.reduceEqDiff];refine hK2 _ _ ?_;refine b7 [2,3,5,6] ?_;simp only[zP,Nat.reduceEqDiff,reduceIte];refine b9 fun K3 hK3=>?_;refine e7 ?_;refine v6 k7 rfl fun K hK=>?_;simp -dsimp [hp,pAV];refine l4 ([iL (upN p)]) (fun _=>by simp[hp,pAV]) ?_;simp -dsimp [hp,pAV];refine l4 ([iL (upN p)]) (fun _=>by simp[hp,pAV]) ?_;simp -dsimp [hp,pAV];refine g6 _ (fun hm=>hfd) (by simp) ?_;simp -dsimp [hp,pAV];refine hK _ _ _ (by decide+kernel) ?_;clear hK K;refine d9 rfl (fun hc1=>?_) (fun hc1=>?_)
  ·refine aS fun K hK=>?_;simp -dsimp;apply hK;clear hK K;have hf:b6W g s p=false:=by rw[hlt,hc1];rfl
   have hall:ps.all (b6W g s)=false:=by rw[List.all_eq_false];exact⟨p,List.mem_of_getElem? hp,by simp[hf]⟩
   exact f7 (by simp[hall])
  ·refine e8 ?_;simp only[zT,reduceIte,Nat.reduceEqDiff];refine hK3 _ _ ?_;refine b7 [2,3,5,6] ?_;simp only[zP,Nat.reduceEqDiff,reduceIte];refine aR fun K hK=>?_;simp -dsimp [wk];apply hK;clear hK K;simp only[zT,reduceIte,Nat.reduceEqDiff];have ht:b6W g s p=true:=by rw[hlt,hc1];rfl
   exact⟨k+1,⟨by omega,by rw[List.take_add_one,hp,List.all_append,k2];simp[ht]⟩,by omega,d8 [some 0,some 1] rfl (by simp) (by simp)⟩
 ·have hke:¬k<ps.length:=by simpa using hc0
  rw[List.take_of_length_le (by omega)]at k2;refine j0 ?_;simp only[zT,reduceIte,Nat.reduceEqDiff];refine hK1 _ _ ?_;refine b7 [] ?_;simp only[zP,Nat.reduceEqDiff,reduceIte];refine aS fun K hK=>?_;simp -dsimp;apply hK;clear hK K;exact f7 (by simp[k2])
theorem b6k (c:List Int) (hc:∀x∈c,x∈[(1:Int)]):A9 (exG 39) (y2 [true,false] c) exL:=by
 have e:y2 [true,false] c=[true,false]∨y2 [true,false] c=[true,true]:=by
  have gen:∀(c:List Int) (b:Bool),(∀x∈c,x∈[(1:Int)])→y2 [true,b] c=[true,false]∨y2 [true,b] c=[true,true]:=by
   intro c
   induction c with
   |nil=>intro b _;cases b<;>simp[y2]
   |cons x c ih=>
    intro b h;have hx:x=1:=by simpa using h x (by simp)
    have:=ih true fun y hy=>h y (by simp[hy]);unfold y2 at this ⊢;rw[List.foldl_cons,hx];exact this
  exact gen c false hc
 have ld:=U1 Z6.2.2.1;have h1:∀b,A9 (exG 39) [true,b] exL:=fun b=>⟨by decide+kernel,rfl,ld,by decide,b4d 39 b []⟩
 rcases e with e|e<;>rw[e]<;>exact h1 _
theorem c1L:∃vs fs,d4 Try.prog 27 [(exG 39).av,(exS false).av,lL exL] (.tup [.agg [fL vs,fL fs,bL [false,true],bL [true,false],bL [false],cL [⟨4,0,⟨40,1⟩⟩,⟨1,0,⟨0,1⟩⟩]],I 0]):=
 ⟨_,_,a7M (exG 39) (exS false) exL Z6.2.2.1 (a7v 39 false) (b6k [] (by simp)) (by simp[exS]) _ c1H⟩
theorem c1u:d4 Try.prog 35 [(exG 39).av,(exS false).av,lL exL] (.tup [iL [1],I 0]):=by
 refine b0P (exG 39) (exS false) exL (by decide) Z6.2.2.1 [1] c0s.symm exR (fun _ c hc hcl=>?_) _ (fun h=>by simp at h) (fun _ _=>by rw[b6T];rfl) (fun _ h=>by rw[b6T]at h;cases h);exact c1F (exG 39) (exS false) c exL (t6 Z6.2.2.1) (fun w hw=>by have:=hc w hw;simp at this;subst this;decide) (b6k c hc) (by omega)
abbrev exW:AV:= .lst 4 [[I 0,I 1,I 2,Bo false],[I 1,I 2,I 1,Bo true]]
abbrev c0F:List AV:=[.lst 1 [[Bo true],[Bo true]], .lst 1 [[Bo true],[Bo false]]]
abbrev exF (lim:Int):Option k8:=some (.els 4 [[I 0,I 600,I 2,I lim],[I 2,I 600,I 1,I 30]])
abbrev b9O:AV:= .lst 3 [[I 1,I 40,I 0]]
theorem b0Z:e9 Try.prog 46 [] [] [] (.tup [.agg [I 3,exW, .row 0 0 2,I 500], .agg c0F,b9O]) [] [exF 100,some (.els 4 [[I 3,exW, .row 0 0 2,I 500]]),some (.els 2 [c0F])]:=by
 refine e9.of_bodyG [] Try.func46 rfl (by decide) (by simp[Try.ntmps46]) rfl rfl ?_;intro J hJ;simp only[Try.ntmps46,Try.results46];refine gS fun K hK=>?_;simp -dsimp;apply hK;clear hK K;refine R8 (by decide) ?_;refine gS fun K hK=>?_;simp -dsimp;apply hK;clear hK K;refine gS fun K hK=>?_;simp -dsimp;apply hK;clear hK K;refine o5 (l9 (B9 (T':=[(0, .ptr 0 0 0),(1, .ptr 1 0 0),(2,b9O)]) (H':=[some (.els 4 [[I 3,exW, .row 2 0 2,I 500]]),some (.els 2 [c0F]),exF 100]) [some 0,some 1,some 3] rfl ⟨.inr (by simp), .inr (by simp), .inr (by simp),trivial⟩ (by simp)) (by simp)) ?_;exact i5 ⟨[some 2,some 0,some 1],rfl,by simp,by simp,by simp,by simp[y3,m6]⟩
theorem b1i (g:Gr) (s:Sta) (l:List Ld) (hl:l.length≤1000) (hf:t4 g s l=true) (hlo:B6 g s=false) (hz:∀p∈j8 g s,p.length≤5) (ho:okS g s (tkK l (H5 l))=true) (vs fs:List Fr) (hvs:vlA g.Nodes.toNat (vfS g s (tkK l (H5 l)))=vs) (hfs:flA g s (vfS g s (tkK l (H5 l)))=fs):
  e9 Try.prog 18 [g.av,s.av,lL l] [] [] (.tup [.row 0 0 g.Nodes.toNat, .row 1 0 g.Feeds.length,I 0]) [] [some (.els 2 (vs.map Fr.cells)),some (.els 2 (fs.map Fr.cells))]:=by
 have h:=a9u g s l hl hf hlo (fun p hp=>by have:=hz p hp;omega) (vfS g s (tkK l (H5 l))) fun p hp=>by
  unfold okS at ho;rw[List.all_eq_true]at ho;exact⟨_,_,b2e (t6 hf) hp (Or.inl (hz p hp)) (U3 _ _) (a4x (U1 hf) _) (ho p hp)⟩
 rw[hvs,hfs]at h;exact h
theorem b1s:d4 Try.prog 15 [] (Bo true):=by
 have h1:=b1i (exG 100) (exS false) exL (by decide) Z6.1 (a7v _ _) (b4d 100 false _) b8K.1 _ _ b8K.2.1 b8K.2.2;obtain⟨fs2,hfs2⟩:∃fs2,flA (exG 100) (exS true) (vfS (exG 100) (exS true) (tkK exL (H5 exL)))=fs2:=⟨_,rfl⟩;have h2:=b1i (exG 100) (exS true) exL (by decide) Z6.2.1 (a7v _ _) (b4d 100 true _) c0R.1 _ _ c0R.2 hfs2;obtain⟨vs3,fs3,h3⟩:=c1L;have h4:=c1u;have g1:=(a5g [⟨580,1⟩,⟨560,1⟩,⟨600,1⟩] [⟨580,1⟩,⟨560,1⟩,⟨600,1⟩] (by simp)).wk (args:=[fL [⟨580,1⟩,⟨560,1⟩,⟨600,1⟩], .full 2 [[I 580,I 1],[I 560,I 1],[I 600,I 1]]]) (by rfl);have g2:=(a5g [⟨40,1⟩,⟨0,1⟩] [⟨40,1⟩,⟨0,1⟩] (by simp)).wk (args:=[fL [⟨40,1⟩,⟨0,1⟩], .full 2 [[I 40,I 1],[I 0,I 1]]]) (by rfl);have g3:=(a5g [⟨1760,3⟩,⟨1720,3⟩,⟨1760,3⟩] [⟨1760,3⟩,⟨1720,3⟩,⟨1760,3⟩] (by simp)).wk (args:=[fL [⟨1760,3⟩,⟨1720,3⟩,⟨1760,3⟩], .full 2 [[I 1760,I 3],[I 1720,I 3],[I 1760,I 3]]]) (by rfl);have g4:=(b5z [1] [1] (by simp)).wk (args:=[iL [1], .full 1 [[I 1]]]) (by rfl);have hm:=b0Z;simp only[exG,exS,exL,Gr.av,Sta.av,Gr.cells,Sta.cells,List.map_cons,List.map_nil,Wr.cells,Fd.cells,Ld.cells,Fr.cells,i6,Cu.cells,i4]at h1 h2 h3 h4 g1 g2 g3 g4;refine d4.of_bodyG Try.func15 rfl (by decide) (by simp[Try.ntmps15]) ?_;intro J hJ;simp only[Try.ntmps15,Try.results15];refine gS fun K hK=>?_;simp -dsimp;apply hK;clear hK K;refine gS fun K hK=>?_;simp -dsimp;refine i8 [] [] [some 0,some 1,some 2] (hm) (by decide) rfl (by simp) (by simp) rfl (by simp) ?_;simp -dsimp;apply hK;clear hK K;refine V9 [4,5,6] [1,2,3] [(1, .iptr [I 3,exW, .lst 4 [[I 0,I 600,I 2,I 100],[I 2,I 600,I 1,I 30]],I 500]),(2, .iptr c0F),(3,b9O)] (⟨.inr (by simp), .inr (by simp), .inr (by simp),trivial⟩) (by decide) (fun T' H'=>Go.AM.l5 T' 4= .row 0 0 3∧Go.AM.l5 T' 5= .row 1 0 2∧Go.AM.l5 T' 6=I 0∧H'=[some (.els 2 [[I 580,I 1],[I 560,I 1],[I 600,I 1]]),some (.els 2 [[I 40,I 1],[I 0,I 1]])]) ?_ ?_
 ·intro J1 hJ1;refine gR fun K hK=>?_;simp -dsimp;refine i8 [] [] [some 0,some 1] (h1) (by decide) rfl (by simp) (by simp) rfl (by simp) ?_;simp -dsimp;apply hK;clear hK K;exact⟨rfl,rfl,by simp⟩
 ·intro T' H' hR;obtain⟨hR,hR5,hR6,rfl⟩:=hR;refine⟨by simp,?_⟩;simp only[List.map_cons,List.map_nil,List.cons_append,List.nil_append,List.length_cons,List.length_nil,Nat.reduceAdd,Nat.zero_add,Option.map_some,b4y,a2Y,Go.AM.l5,Nat.reduceEqDiff,reduceIte,hR,hR5,hR6];refine R8 (by decide) ?_;refine gS fun K hK=>?_;simp -dsimp;apply hK;clear hK K;refine V9 [8,10] [1,2,3,4,5,6] [(1, .iptr [I 3,exW, .lst 4 [[I 0,I 600,I 2,I 100],[I 2,I 600,I 1,I 30]],I 500]),(7, .iptr [.lst 1 [[Bo true],[Bo true]], .lst 1 [[Bo true],[Bo true]]]),(3,b9O)] (⟨.inr (by simp), .inr (by simp), .inr (by simp),trivial⟩) (by decide) (fun T' H'=>Go.AM.l5 T' 8= .row 0 0 3∧Go.AM.l5 T' 10=I 0∧H'=[some (.els 2 [[I 1760,I 3],[I 1720,I 3],[I 1760,I 3]]),some (.els 2 (fs2.map Fr.cells))]) ?_ ?_
  ·intro J1 hJ1;refine gR fun K hK=>?_;simp -dsimp;refine i8 [] [] [some 0,some 1] (h2) (by decide) rfl (by simp) (by simp) rfl (by simp) ?_;simp -dsimp;apply hK;clear hK K;exact⟨rfl,rfl,by simp⟩
  ·intro T' H' hR;obtain⟨hR,hR5,rfl⟩:=hR;refine⟨by simp,?_⟩;simp only[List.map_cons,List.map_nil,List.cons_append,List.nil_append,List.length_cons,List.length_nil,Nat.reduceAdd,Nat.zero_add,Option.map_some,b4y,a2Y,Go.AM.l5,Nat.reduceEqDiff,reduceIte,hR,hR5];refine gS fun K hK=>?_;simp -dsimp;apply hK;clear hK K;refine o5 (l9 (B9 (T':=[(1, .ptr 0 0 0),(2, .ptr 1 0 0),(3,b9O),(4,fL [⟨580,1⟩,⟨560,1⟩,⟨600,1⟩]),(5,fL [⟨40,1⟩,⟨0,1⟩]),(6,I 0),(8,fL [⟨1760,3⟩,⟨1720,3⟩,⟨1760,3⟩]),(10,I 0)]) (H':=[some (.els 4 [[I 3,exW, .lst 4 [[I 0,I 600,I 2,I 39],[I 2,I 600,I 1,I 30]],I 500]]),some (.els 2 [c0F])]) [some 3,some 4] rfl ⟨.inr (by simp), .inr (by simp), .inr (by simp), .inr (by simp), .inr (by simp), .inr (by simp), .inr (by simp), .inr (by simp),trivial⟩ (by simp)) (by simp)) ?_
   ·refine gS fun K hK=>?_;simp -dsimp;refine b8 _ (h3) (by simp) ?_;simp -dsimp;apply hK;clear hK K;refine gS fun K hK=>?_;simp -dsimp;refine b8 _ (h4) (by simp) ?_;simp -dsimp;apply hK;clear hK K;refine b6 fun K1 hK1=>?_;refine gS fun K hK=>?_;simp -dsimp;apply hK;clear hK K;refine d6 rfl (fun hc0=>?_) (fun hc0=>?_)
    ·simp at hc0
    ·refine d7 ?_;simp only[zT,reduceIte,Nat.reduceEqDiff];refine hK1 _ _ ?_;refine b5 [4,5,8,11,13] (Or.inr (by simp)) ?_;simp only[zP,Nat.reduceEqDiff,reduceIte];refine gS fun K hK=>?_;simp -dsimp;refine b8 _ (g1) (by simp) ?_;simp -dsimp;refine g6 _ (fun hm=>g2) (by simp) ?_;simp -dsimp;refine g6 _ (fun hm=>g3) (by simp) ?_;simp -dsimp;refine l4 ([I 4,I 0,I 40,I 1]) (fun _=>rfl) ?_;simp -dsimp;refine l4 ([I 1,I 0,I 0,I 1]) (fun _=>rfl) ?_;simp -dsimp;refine g6 _ (fun hm=>g4) (by simp) ?_;simp -dsimp;apply hK;clear hK K;exact i5 (by simp[y3,m6])
end Go.Cur
end
section
namespace Go.Cur
open Go.AM Go.Proofs
theorem a4J {g:Gr} {s:Sta} {n:Nat} (h:b8Y g s n=true):g.Wires.length≤100∧g.Feeds.length≤20∧s.Feeds.length≤20∧s.Wires.length≤100∧n≤50∧(g.Nodes≤12∨40<g.Nodes):=by
 simpa [b8Y]using h
theorem b6m {g:Gr} {s:Sta} {n:Nat} (h:b8Y g s n=true) (hg:grB g=true):H7 g s:=fun p hp=>by
 have h1:=a4J h;have h2:=r6 hg;obtain⟨i,hi,rfl⟩:=B4 hp;unfold cp;have:=List.length_filter_le (fun k=>decide (nm (a6Y g s) g.Nodes.toNat k=i)) (List.range g.Nodes.toNat);rw[List.length_range]at this;omega
end Go.Cur
end
section
namespace Go.Cur
open Go.AM Go.Proofs
theorem b8C {m d:Int} (hd:0<d):red (m*d) d=⟨m,1⟩:=by
 unfold red;have e:Int.gcd (m*d) d=d.natAbs:=by
  rw[Int.gcd_eq_natAbs_gcd_natAbs,Int.natAbs_mul];exact Nat.gcd_mul_left_left _ _
 rw[e,Int.natAbs_of_nonneg (Int.le_of_lt hd),Int.mul_ediv_cancel _ (by omega),Int.ediv_self (by omega)]
end Go.Cur
end
section
namespace Go.Cur
open Go.AM Go.Proofs
section
variable {g:Gr} {s:Sta} {p:List Nat} {us us':Kvs}
theorem R0 (hnt:o8 g s) (hp:p∈j8 g s) (h5:p.length≤5) (hus:∀x,-40≤igt us x∧igt us x≤40) (hok:(C5 g s us p).2.2=true):
  0<(C5 g s us p).2.1∧(C5 g s us p).2.1≤2000000000∧∀x∈(C5 g s us p).1,x.natAbs≤7000000000000:=by
 unfold C5 at hok ⊢
 by_cases h:m9 g s (upN p)=[]
 ·rw[if_pos h];refine⟨show(0:Int)<1 by decide,show(1:Int)≤2000000000 by decide,fun x hx=>?_⟩;have:x=0:=(List.mem_replicate.1 hx).2;omega
 ·rw [if_neg h]at hok ⊢
  by_cases h1:E9 us p<0
  ·rw[if_pos h1]at hok;cases hok
  ·rw [if_neg h1]at hok ⊢
   by_cases h2:E9 us p=0
   ·rw[if_pos h2];obtain⟨z1,z2,z3⟩:=b0K (us:=us) hnt hp h5 rfl hus (p.getD 0 0) rfl;change ∀k,((ptO g s us p).num0 (p.getD 0 0) k).natAbs≤_ at z1;change 0<(ptO g s us p).den0 (p.getD 0 0)at z2;change (ptO g s us p).den0 (p.getD 0 0)≤_ at z3;refine⟨z2,by simp only;omega,fun x hx=>?_⟩;obtain⟨k,_,rfl⟩:=List.mem_map.1 hx;have key:∀b,b<(m9 g s (upN p)).length→ -20000000000≤(ptO g s us p).V b*(ptO g s us p).den0 (p.getD 0 0)-(ptO g s us p).num0 (p.getD 0 0) ((ptO g s us p).p b)∧(ptO g s us p).V b*(ptO g s us p).den0 (p.getD 0 0)-(ptO g s us p).num0 (p.getD 0 0) ((ptO g s us p).p b)≤20000000000:=by
     intro b hb;have hf:=C8 hnt rfl hb;have h3:=z1 ((ptO g s us p).p b);have h4:0≤(ptO g s us p).V b∧(ptO g s us p).V b≤1000:=by
      show 0≤(fdI g _).Volts∧(fdI g _).Volts≤1000;omega
     have h5:=Int.mul_nonneg h4.1 (Int.le_of_lt z2);have h6:=Int.mul_le_mul h4.2 z3 (Int.le_of_lt z2) (by omega);omega
    have hpos:0<(m9 g s (upN p)).length:=List.length_pos_iff.2 h;have h3:=O7 (B:=20000000000) ((List.range (m9 g s (upN p)).length).map fun b=>(ptO g s us p).V b*(ptO g s us p).den0 (p.getD 0 0)-(ptO g s us p).num0 (p.getD 0 0) ((ptO g s us p).p b)) _ (key 0 hpos) fun x hx=>by
     obtain⟨b,hb,rfl⟩:=List.mem_map.1 hx;exact key b (List.mem_range.1 hb)
    have h4:=z1 k;omega
   ·rw[if_neg h2];obtain⟨k1,k2,k3,k4⟩:=a1q (P:=ptO g s us p) (a4O hnt hp rfl) (m:=(m9 g s (upN p)).length) rfl (by intro e;exact h (List.length_eq_zero_iff.1 e)) (by rw[a1U];omega);obtain⟨z1,z2,z3⟩:=a2g (us:=us) hnt hp h5 rfl hus _ (a2N k1 k2);refine⟨z2,z3,fun x hx=>?_⟩;obtain⟨k,_,rfl⟩:=List.mem_map.1 hx;exact z1 k
end
end Go.Cur
end
section
namespace Go.Cur
open Go.AM Go.Proofs
theorem a2D {n d k:Int} (hk:0<k):red (n*k) (d*k)=red n d:=by
 unfold red;have e:((Int.gcd (n*k) (d*k):Nat):Int)=(Int.gcd n d:Int)*k:=by
  rw[Int.gcd_mul_right,Int.natCast_mul,Int.natAbs_of_nonneg (Int.le_of_lt hk)]
 rw[e,Int.mul_ediv_mul_of_pos_left _ _ hk,Int.mul_ediv_mul_of_pos_left _ _ hk]
theorem a6g {a d b e:Int} (hd:0<d) (he:0<e) (h:a*e=b*d):red a d=red b e:=by
 rw[←a2D he,h,Int.mul_comm d e,a2D hd]
theorem b6h {d:Int} (hd:0<d):red 0 d=⟨0,1⟩:=by
 have:=b8C (m:=0) hd
 rwa [Int.zero_mul]at this
section
variable {g:Gr} {s:Sta} {us:Kvs} {p:List Nat}
theorem a9q:(pvR g s us p).2.2=(C5 g s us p).2.2:=by
 unfold pvR C5
 split
 ·rfl
 ·split
  ·rfl
  ·split<;>rfl
theorem b3D (hnt:o8 g s) (hp:p∈j8 g s) (h5:p.length≤5) (hus:∀x,-40≤igt us x∧igt us x≤40) (hok:(C5 g s us p).2.2=true):
  (pvR g s us p).1.length=p.length∧0<(pvR g s us p).2.1∧(pvR g s us p).2.1≤2000000000∧(∀x∈(pvR g s us p).1,x.natAbs≤7000000000000)∧∀i,i<p.length→red (at0 (pvR g s us p).1 (i:Nat)) (pvR g s us p).2.1=red (at0 (C5 g s us p).1 (i:Nat)) (C5 g s us p).2.1:=by
 by_cases h:m9 g s (upN p)=[]
 ·have e:pvR g s us p=C5 g s us p:=by unfold pvR C5;rw[if_pos h,if_pos h]
  obtain⟨t1,t2,t3⟩:=R0 hnt hp h5 hus hok;rw[e];refine⟨?_,t1,t2,t3,fun i _=>rfl⟩;unfold C5;rw[if_pos h];simp[a0Q]
 ·by_cases h1:E9 us p<0
  ·unfold C5 at hok;rw[if_neg h,if_pos h1]at hok;cases hok
  ·by_cases h2:E9 us p=0
   ·have e:pvR g s us p=C5 g s us p:=by unfold pvR C5;rw[if_neg h,if_neg h,if_neg h1,if_neg h1,if_pos h2,if_pos h2]
    obtain⟨t1,t2,t3⟩:=R0 hnt hp h5 hus hok;rw[e];refine⟨?_,t1,t2,t3,fun i _=>rfl⟩;unfold C5;rw[if_neg h,if_neg h1,if_pos h2];simp
   ·have hsum:0<sm (ptO g s us p).u (ptO g s us p).ns:=by rw[a1U];omega
    have hm:(m9 g s (upN p)).length≠0:=by intro e;exact h (List.length_eq_zero_iff.1 e)
    have ho:(ptO g s us p).Ok:=a4O hnt hp rfl;obtain⟨k1,k2,k3,k4⟩:=a4Q (P:=ptO g s us p) ho (m:=(m9 g s (upN p)).length) rfl hm hsum;obtain⟨d1,d2,hs⟩:=b3S (P:=ptO g s us p) ho (m:=(m9 g s (upN p)).length) rfl hm hsum;obtain⟨z1,z2,z3⟩:=a2g (us:=us) hnt hp h5 rfl hus _ (a2N k1 k2);have e1:pvR g s us p=(p.map fun k=>(ptO g s us p).num (s7 (V6 (ptO g s us p) (m9 g s (upN p)).length)) k,(ptO g s us p).den (s7 (V6 (ptO g s us p) (m9 g s (upN p)).length)),true):=by
     unfold pvR;rw[if_neg h,if_neg h1,if_neg h2]
    have e2:C5 g s us p=(p.map fun k=>(ptO g s us p).num (s7 (Y0 (ptO g s us p) (m9 g s (upN p)).length)) k,(ptO g s us p).den (s7 (Y0 (ptO g s us p) (m9 g s (upN p)).length)),true):=by
     unfold C5;rw[if_neg h,if_neg h1,if_neg h2]
    rw[e1,e2];refine⟨by simp,z2,z3,fun x hx=>?_,fun i hi=>?_⟩
    ·obtain⟨k,_,rfl⟩:=List.mem_map.1 hx;exact z1 k
    ·have g1:∀f:Nat→Int,at0 (p.map f) (i:Nat)=f (p.getD i 0):=fun f=>W5 (by rw[List.getElem?_map,F1 hi];rfl);simp only[g1];exact a6g d1 d2 (hs _ (a1z hi))
end
theorem ffR {g:Gr} {s:Sta} {vf:Nat→Fr} {f:Nat} {x d:Int} (hd:0<d) (hv:vf (fdI g (f:Int)).At.toNat=red x d) (hs:0<(fdI g (f:Int)).Siem) (hon:bAt s.Feeds f=true):
  red (if 0<(fdI g (f:Int)).Siem*((fdI g (f:Int)).Volts*d-x)then(fdI g (f:Int)).Siem*((fdI g (f:Int)).Volts*d-x)else 0) d=ffF g s vf f:=by
 unfold ffF;simp only[hv];obtain⟨a,b,G,hG,e,ha,hb⟩:=a5s (n:=x) hd;have er:red x d=⟨a,b⟩:=by
  unfold red;rw[e];have e1:x/G=a:=by rw[ha];exact Int.mul_ediv_cancel_left _ (by omega)
  have e2:d/G=b:=by rw[hb];exact Int.mul_ediv_cancel_left _ (by omega)
  rw[e1,e2]
 have hdd:(fdI g (f:Int)).Siem*((fdI g (f:Int)).Volts*d-x)=(fdI g (f:Int)).Siem*((fdI g (f:Int)).Volts*b-a)*G:=by
  rw[ha,hb,Int.mul_assoc]
  congr 1
  rw[Int.sub_mul,Int.mul_assoc,Int.mul_comm b G,Int.mul_comm a G]
 rw[er,hdd];simp only;generalize (fdI g (f:Int)).Volts*b-a=D;generalize (fdI g (f:Int)).Siem=S at hs
 by_cases h:0<D
 ·have h1:0<S*D:=Int.mul_pos hs h;have h2:0<S*D*G:=Int.mul_pos h1 hG;rw[if_pos h2,if_pos ⟨hon,h⟩,hb,Int.mul_comm G b,a2D hG]
 ·have h1:S*D≤0:=Int.mul_nonpos_of_nonneg_of_nonpos (Int.le_of_lt hs) (by omega);have h2:S*D*G≤0:=Int.mul_nonpos_of_nonpos_of_nonneg h1 (Int.le_of_lt hG);rw[if_neg (by omega),if_neg (fun h3=>h h3.2),b6h hd]
def flR (g:Gr) (s:Sta) (vf:Nat→Fr) (done:List Nat) (fs:List Int):List Fr:=(List.range g.Feeds.length).map fun(f:Nat)=>if (fdI g (f:Int)).At.toNat∈done∨(f:Int)∈fs then ffF g s vf f else⟨0,1⟩
section
variable {g:Gr} {s:Sta} {vf:Nat→Fr} {done:List Nat} {fs:List Int}
theorem a4Y:(flR g s vf done fs).length=g.Feeds.length:=by simp[flR]
theorem a7K {i:Nat} (h:i<g.Feeds.length):(flR g s vf done fs)[i]?=some (if (fdI g (i:Int)).At.toNat∈done∨(i:Int)∈fs then ffF g s vf i else⟨0,1⟩):=by
 unfold flR;rw[List.getElem?_map,List.getElem?_range h];rfl
theorem b8l {k:Nat}:(flR g s vf done fs).set k (ffF g s vf k)=flR g s vf done (fs++[(k:Int)]):=by
 refine List.ext_getElem? fun i=>?_
 by_cases hi:i<g.Feeds.length
 ·rw [a7K hi]
  by_cases h:i=k
  ·subst h;rw[List.getElem?_set_self (by rw[a4Y];exact hi),if_pos (Or.inr (by simp))]
  ·rw[List.getElem?_set_ne (fun e=>h e.symm),a7K hi];have:((i:Int)∈fs++[(k:Int)])↔(i:Int)∈fs:=by
    rw[List.mem_append,List.mem_singleton];constructor
    ·rintro(h1|h1)
     ·exact h1
     ·omega
    ·exact Or.inl
   simp only[this]
 ·rw[List.getElem?_eq_none (by rw[List.length_set,a4Y];omega),List.getElem?_eq_none (by rw[a4Y];omega)]
theorem b7n {i:Nat} (h:bAt s.Feeds i=false):ffF g s vf i=⟨0,1⟩:=by
 unfold ffF;simp only;rw[if_neg (by simp[h])]
theorem b5r (hnt:o8 g s) {p:List Nat}:flR g s vf done (m9 g s (upN p))=flR g s vf (done++p) []:=by
 unfold flR;refine List.map_congr_left fun i hi=>?_;rw[List.mem_range]at hi;have hg:g.Feeds[i]?=some (fdI g (i:Int)):=by have:=O6 (g:=g) (i:=(i:Int)) (by omega) (by omega);rwa [Int.toNat_natCast]at this
 have hb:=hnt.feeds _ (List.mem_of_getElem? hg);have hm:(i:Int)∈m9 g s (upN p)↔bAt s.Feeds i=true∧(fdI g (i:Int)).At.toNat∈p:=by
  unfold m9;rw[List.mem_filter,a4Z];unfold a1D;rw[Int.toNat_natCast,Bool.and_eq_true,decide_eq_true_eq,a2i];constructor
  ·rintro⟨_,h1,_,h2⟩;exact⟨h1,h2⟩
  ·rintro⟨h1,h2⟩;exact⟨⟨by omega,by omega⟩,h1,hb.1,h2⟩
 by_cases h1:(fdI g (i:Int)).At.toNat∈done
 ·rw[if_pos (Or.inl h1),if_pos (Or.inl (List.mem_append_left _ h1))]
 ·by_cases h2:(fdI g (i:Int)).At.toNat∈p
  ·rw[if_pos (Or.inl (List.mem_append_right _ h2))]
   cases h3:bAt s.Feeds i with
   |true=>rw[if_pos (Or.inr (hm.2 ⟨h3,h2⟩))]
   |false=>rw[b7n h3];split<;>rfl
  ·rw[if_neg (by rw[hm];rintro(h|h);exact h1 h;exact h2 h.2),if_neg (by rintro(h|h);exact(List.mem_append.1 h).elim h1 h2;simp at h)]
theorem b8T (h:∀i,i<g.Feeds.length→(fdI g (i:Int)).At.toNat∈done):flR g s vf done []=flA g s vf:=by
 unfold flR flA;exact List.map_congr_left fun i hi=>if_pos (Or.inl (h i (List.mem_range.1 hi)))
end
def fl0 (m i:Nat):List Fr:=(List.range m).map fun j=>if j<i then⟨0,1⟩else⟨0,0⟩
theorem a2J (m i:Nat):(fl0 m i).length=m:=by simp[fl0]
theorem a4U {m i j:Nat} (h:j<m):(fl0 m i)[j]?=some (if j<i then⟨0,1⟩else⟨0,0⟩):=by
 unfold fl0;rw[List.getElem?_map,List.getElem?_range h];rfl
theorem b7y {m k:Nat}:(fl0 m k).set k ⟨0,1⟩=fl0 m (k+1):=by
 refine List.ext_getElem? fun i=>?_
 by_cases hi:i<m
 ·rw[a4U hi]
  by_cases h:k=i
  ·subst h;rw[List.getElem?_set_self (by rw[a2J];exact hi),if_pos (by omega)]
  ·rw[List.getElem?_set_ne h,a4U hi]
   by_cases h2:i<k
   ·rw[if_pos h2,if_pos (by omega)]
   ·rw[if_neg h2,if_neg (by omega)]
 ·rw[List.getElem?_eq_none (by rw[List.length_set,a2J];omega),List.getElem?_eq_none (by rw[a2J];omega)]
theorem b5a (m:Nat):fl0 m 0=List.replicate m ⟨0,0⟩:=by
 refine List.ext_getElem? fun i=>?_
 by_cases hi:i<m
 ·rw[a4U hi,if_neg (by omega),List.getElem?_replicate,if_pos hi]
 ·rw[List.getElem?_eq_none (by rw[a2J];omega),List.getElem?_eq_none (by simp;omega)]
theorem b8B {g:Gr} {s:Sta} {vf:Nat→Fr}:fl0 g.Feeds.length g.Feeds.length=flR g s vf [] []:=by
 unfold fl0 flR;refine List.map_congr_left fun i hi=>?_;rw[if_pos (List.mem_range.1 hi),if_neg (by simp)]
theorem c0K (g:Gr) (s:Sta) (p:List Nat) (us:Kvs) (cu:List Int) (hnt:o8 g s) (hp:p∈j8 g s) (h5:p.length≤5) (hus:∀x,-40≤igt us x∧igt us x≤40) (hcu:∀k∈p,cu[k]?=some (igt us k)):
  d4 Try.prog 51 [g.av,s.av,iL (upN p),iL cu] (.tup [iL (pvR g s us p).1,I (pvR g s us p).2.1,Bo (pvR g s us p).2.2]):=by
 refine b4F g s p us (m9 g s (upN p)) cu rfl hnt hp h5 hus hcu _ _ _ ?_ ?_ ?_ ?_
 ·intro h;unfold pvR;rw[if_pos h];exact⟨rfl,rfl,rfl⟩
 ·intro h h1;unfold pvR;rw[if_neg h,if_pos h1];exact⟨rfl,rfl,rfl⟩
 ·intro h h1;have hr:=b4D g s p us (m9 g s (upN p)) cu rfl hnt (a5u hnt hp (by omega)) hus hcu h (p.getD 0 0) rfl (a2O hnt hp (Or.inl h5) rfl hus _ rfl) _ _ rfl rfl;unfold pvR;rw[if_neg h,if_neg (by omega),if_pos h1];exact⟨hr,rfl⟩
 ·intro h h1;obtain⟨k1,k2,k3,k4⟩:=a4Q (P:=ptO g s us p) (a4O hnt hp rfl) (m:=(m9 g s (upN p)).length) rfl (by intro e;exact h (List.length_eq_zero_iff.1 e)) (by rw[a1U];exact h1);unfold pvR;rw[if_neg h,if_neg (by omega),if_neg (by omega)];exact⟨rfl,_,k1,k2,k3,k4,rfl,rfl⟩
theorem b5L (g:Gr) (s:Sta) (l:List Ld) (sv:List Bool) (hnt:o8 g s) (hl:l.length≤1000) (hsl:sv.length=l.length) (ld:b9N g l) (h5:∀p∈j8 g s,p.length≤5):
  d4 Try.prog 19 [g.av,s.av,lL l,bL sv] (if okS g s (tkK l sv)=true then .tup [fL (vlA g.Nodes.toNat (vfS g s (tkK l sv))),fL (flA g s (vfS g s (tkK l sv))),Bo true]else .tup [.v (.slice none 0 0), .v (.slice none 0 0),Bo false]):=by
 have hbd:=r6 hnt.gr;have hus:=a4x ld sv;obtain⟨N,hnn⟩:∃N:Nat,g.Nodes.toNat=N:=⟨g.Nodes.toNat,rfl⟩;have hn0:0≤g.Nodes:=by omega
 have hnN:g.Nodes=(N:Int):=by omega
 rw[hnn];have hcr:=a2j g l sv N hnN (by omega) hl hsl (fun y hy=>by have:=ld.at_ y hy;omega);have hcv:=fun p (hp:p∈j8 g s)=>c0K g s p (tkK l sv) (a1e N l sv) hnt hp (h5 p hp) hus (fun k hk=>by rw[W0 (by have:=Q7 hp hk;omega),a4p]);have hcov:=fun k=>P7 (k:=k) hnt;have hlt:=fun p (hp:p∈j8 g s) k (hk:k∈p)=>Q7 hp hk;rw[hnn]at hcov hlt;have hpo:=fun p (hp:p∈j8 g s)=>b3D (us:=tkK l sv) hnt hp (h5 p hp) hus;have hfl:∀p,(pvR g s (tkK l sv) p).2.2=(C5 g s (tkK l sv) p).2.2:=fun p=>a9q;have hvf:∀p∈j8 g s,(C5 g s (tkK l sv) p).2.2=true→∀i k,p[i]?=some k→vfS g s (tkK l sv) k=red (at0 (pvR g s (tkK l sv) p).1 (i:Nat)) (pvR g s (tkK l sv) p).2.1:=fun p hp hok i k hk=>by
  obtain⟨hi,e⟩:=List.getElem?_eq_some_iff.1 hk;rw[(hpo p hp hok).2.2.2.2 i hi];have hnd:p.Nodup:=by obtain⟨_,_,e⟩:=B4 hp;rw[e];exact F3
  have hix:p.idxOf k=i:=by rw[←e];exact List.Nodup.idxOf_getElem hnd i hi
  unfold vfS;rw[←W9 hp (List.mem_of_getElem? hk),hix]
 have hpl:=J0 g s;have hrp:=a1n g s hnt;have hokS:okS g s (tkK l sv)=(j8 g s).all fun p=>(pvR g s (tkK l sv) p).2.2:=by unfold okS;congr 1;funext p;exact(hfl p).symm
 rw[hokS];generalize vfS g s (tkK l sv)=vf at hvf ⊢;generalize tkK l sv=us at hcv hpo hfl hvf ⊢;generalize a1e N l sv=cu at hcr hcv;have hps:∀p∈j8 g s,p∈j8 g s:=fun _ h=>h;obtain⟨L,hL⟩:∃L,L=j8 g s:=⟨_,rfl⟩;rw[←hL]at hcv hcov hlt hpo hvf hpl hrp ⊢;have f0:D8 N 17:=j7 (by omega) (by omega);have f1:D8 g.Feeds.length 17:=j7 (by omega) (by omega);refine d4.of_body Try.func19 rfl (by decide) (by simp[Try.ntmps19]) ?_;simp only[Try.ntmps19,Try.results19];refine aS fun K hK=>?_;simp -dsimp;apply hK;clear hK K;refine v6 k7 rfl fun K hK=>?_;simp -dsimp [hn0,hnn,f0,f1];refine hK _ _ _ (by decide+kernel) ?_;clear hK K;refine b9 fun K1 hK1=>?_;refine aS fun K hK=>?_;simp -dsimp;apply hK;clear hK K;refine e7 ?_;refine b7 [2,3,4,5,11,12,13] ?_;simp only[zP,Nat.reduceEqDiff,reduceIte];refine g7 [2,3,4,5,11,12] (α:=Nat) (fun i=>[(13,I i)]) (fun i=>[some (.els 4 [g.cells]),some (.els 2 [s.cells]),some (.els 2 ((vlF N vf []).map Fr.cells)),some (.els 2 ((fl0 g.Feeds.length i).map Fr.cells))]) (fun i=>i≤g.Feeds.length) (fun i=>g.Feeds.length-i) 0 ?_ ?_ ?_
 ·exact Nat.zero_le _
 ·exact d8 [some 0,some 1,some 2,some 3] rfl (by simp) (by simp[a8u,b5a])
 rintro i i1;simp only[zP,Nat.reduceEqDiff,reduceIte];refine b9 fun K2 hK2=>?_;refine aS fun K hK=>?_;simp -dsimp;apply hK;clear hK K;refine d9 rfl (fun hc0=>?_) (fun hc0=>?_)
 ·have hil:i<g.Feeds.length:=by simpa using hc0
  have wi:=zW i (by omega);have hst:=b7y (m:=g.Feeds.length) (k:=i);have gfl:=a4U (i:=i) hil;have hfll:=a2J g.Feeds.length i;generalize fl0 g.Feeds.length i=FL at hst gfl hfll ⊢;refine e8 ?_;simp only[zT,reduceIte,Nat.reduceEqDiff];refine hK2 _ _ ?_;refine b7 [2,3,4,5,11,12,13] ?_;simp only[zP,Nat.reduceEqDiff,reduceIte];refine b9 fun K3 hK3=>?_;refine e7 ?_;refine aR fun K hK=>?_;simp -dsimp [hil,hfll,gfl];apply hK;clear hK K;simp only[zT,reduceIte,Nat.reduceEqDiff];refine hK3 _ _ ?_;refine b7 [2,3,4,5,11,12,13] ?_;simp only[zP,Nat.reduceEqDiff,reduceIte];refine aR fun K hK=>?_;simp -dsimp [wi];apply hK;clear hK K;simp only[zT,reduceIte,Nat.reduceEqDiff];exact⟨i+1,by omega,by omega,d8 [some 0,some 1,some 2,some 3] rfl (by simp) (by simp[←hst,List.map_set])⟩
 ·have hie:i=g.Feeds.length:=by have hx:¬i<g.Feeds.length:=(by simpa using hc0);omega
  rw[hie,b8B (s:=s) (vf:=vf)];refine j0 ?_;simp only[zT,reduceIte,Nat.reduceEqDiff];refine hK1 _ _ ?_;refine b7 [2,3,4,5,11,12] ?_;simp only[zP,Nat.reduceEqDiff,reduceIte];refine aS fun K hK=>?_;simp -dsimp;refine b8 _ (hrp) (by simp) ?_;simp -dsimp;apply hK;clear hK K;refine b9 fun K4 hK4=>?_;refine aS fun K hK=>?_;simp -dsimp;apply hK;clear hK K;refine e7 ?_;refine b7 [2,3,4,5,11,12,14,15] ?_;simp only[zP,Nat.reduceEqDiff,reduceIte];refine g7 [2,3,4,5,11,12,14] (α:=Nat) (fun k=>[(15,I k)]) (fun k=>[some (.els 4 [g.cells]),some (.els 2 [s.cells]),some (.els 2 ((vlF N vf (L.take k).flatten).map Fr.cells)),some (.els 2 ((flR g s vf (L.take k).flatten []).map Fr.cells))]) (fun k=>k≤L.length∧((L.take k).all fun p=>(pvR g s us p).2.2)=true) (fun k=>L.length-k) 0 ?_ ?_ ?_
  ·exact⟨Nat.zero_le _,rfl⟩
  ·exact d8 [some 0,some 1,some 2,some 3] rfl (by simp) (by simp)
  rintro k ⟨k1,k2⟩;simp only[zP,Nat.reduceEqDiff,reduceIte];refine b9 fun K5 hK5=>?_;refine aS fun K hK=>?_;simp -dsimp;apply hK;clear hK K;refine d9 rfl (fun hc1=>?_) (fun hc1=>?_)
  ·have hkl:k<L.length:=by simpa using hc1
   have wk:=zW k (by omega);obtain⟨p,hp⟩:∃p,L[k]?=some p:=⟨_,List.getElem?_eq_getElem hkl⟩;have hpm:=List.mem_of_getElem? hp;have hul:=o9 p;have hcvp:=hcv p hpm;have hp5:=h5 p (hps p (hL▸hpm));have hfl2:(L.take (k+1)).flatten=(L.take k).flatten++p:=by rw[List.take_add_one,hp,List.flatten_append];simp
   refine e8 ?_;simp only[zT,reduceIte,Nat.reduceEqDiff];refine hK5 _ _ ?_;refine b7 [2,3,4,5,11,12,14,15] ?_;simp only[zP,Nat.reduceEqDiff,reduceIte];refine b9 fun K6 hK6=>?_;refine e7 ?_;refine v6 k7 rfl fun K hK=>?_;simp -dsimp [hp,pAV];refine b8 _ (hcr) (by simp) ?_;simp -dsimp [hp,pAV];refine b8 _ (hcvp) (by simp) ?_;simp -dsimp [hp,pAV];refine hK _ _ _ (by decide+kernel) ?_;clear hK K;refine b9 fun K7 hK7=>?_;refine aS fun K hK=>?_;simp -dsimp;apply hK;clear hK K;refine d9 rfl (fun hc2=>?_) (fun hc2=>?_)
   ·refine aS fun K hK=>?_;simp -dsimp;apply hK;clear hK K;have hf:(pvR g s us p).2.2=false:=by simpa using hc2
    have hall:(L.all fun p=>(pvR g s us p).2.2)=false:=by rw[List.all_eq_false];exact⟨p,hpm,by simp[hf]⟩
    exact f7 (by simp[hall])
   ·have hok:(pvR g s us p).2.2=true:=by simpa using hc2
    obtain⟨hvl,hd0,hd1,hvb,hve⟩:=hpo p hpm (by rw[←hfl];exact hok);have hvk:=hvf p hpm (by rw[←hfl];exact hok);obtain⟨v,hv⟩:∃v,v=(pvR g s us p).1:=⟨_,rfl⟩;obtain⟨d,hd⟩:∃d,d=(pvR g s us p).2.1:=⟨_,rfl⟩;rw[←hv]at hvl hvb hvk ⊢;rw[←hd]at hd0 hd1 hvk ⊢;refine e8 ?_;simp only[zT,reduceIte,Nat.reduceEqDiff];refine hK7 _ _ ?_;refine b7 [2,3,4,5,11,12,14,15,16,17] ?_;simp only[zP,Nat.reduceEqDiff,reduceIte];refine b9 fun K8 hK8=>?_;refine aS fun K hK=>?_;simp -dsimp;apply hK;clear hK K;refine e7 ?_;refine b7 [2,3,4,5,11,12,14,15,16,17,19] ?_;simp only[zP,Nat.reduceEqDiff,reduceIte];refine g7 [2,3,4,5,11,12,14,15,16,17] (α:=Nat) (fun i=>[(19,I i)]) (fun i=>[some (.els 4 [g.cells]),some (.els 2 [s.cells]),some (.els 2 ((vlF N vf ((L.take k).flatten++p.take i)).map Fr.cells)),some (.els 2 ((flR g s vf (L.take k).flatten []).map Fr.cells))]) (fun i=>i≤p.length) (fun i=>p.length-i) 0 ?_ ?_ ?_
    ·exact Nat.zero_le _
    ·exact d8 [some 0,some 1,some 2,some 3] rfl (by simp) (by simp)
    rintro i i1;simp only[zP,Nat.reduceEqDiff,reduceIte];refine b9 fun K9 hK9=>?_;refine aS fun K hK=>?_;simp -dsimp [hvl];apply hK;clear hK K;refine d9 rfl (fun hc3=>?_) (fun hc3=>?_)
    ·have hil:i<p.length:=by simpa [hvl]using hc3
     obtain⟨x,hx⟩:∃x,p[i]?=some x:=⟨_,List.getElem?_eq_getElem hil⟩;have gk:=B8 hx;have gv:=A5 (l:=v) (k:=i) (by omega);have hkN:=hlt p hpm x (List.mem_of_getElem? hx);have wi:=zW i (by omega);have hnb:=hvb _ (List.mem_of_getElem? gv);have hfr:=a0b (at0 v (i:Nat)) d hd0 (by omega) (by omega) (by omega);have hfk:=hvk i x hx;rw[←hfk]at hfr;have hvls:=a4M N vf ((L.take k).flatten++p.take i);have gvl:=a2G (vf:=vf) (done:=(L.take k).flatten++p.take i) hkN;have hst:=a8r (n:=N) (vf:=vf) (done:=(L.take k).flatten++p.take i) (k:=x);have hpt:p.take (i+1)=p.take i++[x]:=by rw[List.take_add_one,hx];rfl
     rw[List.append_assoc,←hpt]at hst;generalize vlF N vf ((L.take k).flatten++p.take i)=VL at hvls gvl hst ⊢;refine e8 ?_;simp only[zT,reduceIte,Nat.reduceEqDiff];refine hK9 _ _ ?_;refine b7 [2,3,4,5,11,12,14,15,16,17,19] ?_;simp only[zP,Nat.reduceEqDiff,reduceIte];refine b9 fun K10 hK10=>?_;refine e7 ?_;refine F4 k7 rfl fun K hK=>?_;simp -dsimp [hp,pAV,gk,gv,hkN,hvls,gvl];refine b8 _ (hfr) (by simp) ?_;simp -dsimp [hp,pAV,gk,gv,hkN,hvls,gvl];refine hK _ _ _ (by decide+kernel) ?_;clear hK K;simp only[zT,reduceIte,Nat.reduceEqDiff];refine hK10 _ _ ?_;refine b7 [2,3,4,5,11,12,14,15,16,17,19] ?_;simp only[zP,Nat.reduceEqDiff,reduceIte];refine aR fun K hK=>?_;simp -dsimp [wi];apply hK;clear hK K;simp only[zT,reduceIte,Nat.reduceEqDiff];exact⟨i+1,by omega,by omega,d8 [some 0,some 1,some 2,some 3] rfl (by simp) (by simp[←hst,List.map_set])⟩
    ·have hil:¬i<p.length:=by simpa [hvl]using hc3
     have hpt:p.take i=p:=List.take_of_length_le (by omega);rw[hpt,←hfl2];have hfd:=R6 g s (upN p) hnt.sf (by have:=h5 p (hps p (hL▸hpm));omega) (by omega);have hfa:=fun b (hb:b<(m9 g s (upN p)).length)=>C8 hnt (p:=p) rfl hb;have hpr:=b5r (vf:=vf) (done:=(L.take k).flatten) hnt (p:=p);have hF12:=a6Q hnt (p:=p) rfl;have hfm:=fun f (hf:f∈m9 g s (upN p))=>X2 hf;generalize m9 g s (upN p)=F at hfd hfa hpr hF12 hfm;refine j0 ?_;simp only[zT,reduceIte,Nat.reduceEqDiff];refine hK8 _ _ ?_;refine b7 [2,3,4,5,11,12,14,15,16,17] ?_;simp only[zP,Nat.reduceEqDiff,reduceIte];refine v6 k7 rfl fun K hK=>?_;simp -dsimp [hp,pAV];refine b8 _ (hfd) (by simp) ?_;simp -dsimp [hp,pAV];refine hK _ _ _ (by decide+kernel) ?_;clear hK K;refine aS fun K hK=>?_;simp -dsimp;apply hK;clear hK K;refine e7 ?_;refine b7 [2,3,4,5,11,12,14,15,16,17,20,21] ?_;simp only[zP,Nat.reduceEqDiff,reduceIte];refine g7 [2,3,4,5,11,12,14,15,16,17,20] (α:=Nat) (fun i=>[(21,I i)]) (fun i=>[some (.els 4 [g.cells]),some (.els 2 [s.cells]),some (.els 2 ((vlF N vf (L.take (k+1)).flatten).map Fr.cells)),some (.els 2 ((flR g s vf (L.take k).flatten (F.take i)).map Fr.cells))]) (fun i=>i≤F.length) (fun i=>F.length-i) 0 ?_ ?_ ?_
     ·exact Nat.zero_le _
     ·exact d8 [some 0,some 1,some 2,some 3] rfl (by simp) (by simp)
     rintro b b1;simp only[zP,Nat.reduceEqDiff,reduceIte];refine b9 fun K11 hK11=>?_;refine aS fun K hK=>?_;simp -dsimp;apply hK;clear hK K;refine d9 rfl (fun hc4=>?_) (fun hc4=>?_)
     ·have hbl:b<F.length:=by simpa using hc4
      have wb:=zW b (by omega);obtain⟨a1,a2,a3,a4,a5,a6,a7,a8,a9,a10⟩:=hfa b hbl;obtain⟨f,hf⟩:∃f:Nat,at0 F (b:Nat)=f:=⟨(at0 F (b:Nat)).toNat,by omega⟩;rw[hf]at a1 a2 a3 a4 a5 a6 a7 a8 a9 a10;rw[Int.toNat_natCast]at a4;have hfn:f<g.Feeds.length:=by omega
      have hix:=N3 (upN p) (fdI g (f:Int)).At (by have:=h5 p (hps p (hL▸hpm));omega);rw[C7 a5 a6]at hix;have hxg:=s6 a6;have hxl:p.idxOf (fdI g (f:Int)).At.toNat<v.length:=by rw[hvl];exact List.idxOf_lt_length_of_mem a6
      have gv:=A5 hxl;have hvx:=hvk _ _ hxg;have hxb:=hvb _ (List.mem_of_getElem? gv);generalize p.idxOf (fdI g (f:Int)).At.toNat=ix at hix hxg hxl gv hvx hxb;generalize at0 v (ix:Nat)=x at gv hvx hxb;have hvd:0≤(fdI g (f:Int)).Volts*d∧(fdI g (f:Int)).Volts*d≤2000000000000:=⟨Int.mul_nonneg (by omega) (by omega),Int.le_trans (Int.mul_le_mul a8 hd1 (by omega) (by omega)) (by omega)⟩;have hon:bAt s.Feeds f=true:=by have:=(hfm _ (List.mem_of_getElem? a1)).2.2.2;rwa [Int.toNat_natCast]at this
      have hff:=ffR (g:=g) (s:=s) (vf:=vf) (f:=f) hd0 hvx (by omega) hon;have w1:IntKind.i64.wrap ((fdI g (f:Int)).Volts*d)=(fdI g (f:Int)).Volts*d:=f6 (by omega) (by omega);have w2:IntKind.i64.wrap ((fdI g (f:Int)).Volts*d-x)=(fdI g (f:Int)).Volts*d-x:=f6 (by omega) (by omega);have hsd:(fdI g (f:Int)).Siem*((fdI g (f:Int)).Volts*d-x)≤40000000000000∧-40000000000000≤(fdI g (f:Int)).Siem*((fdI g (f:Int)).Volts*d-x):=by
       rcases(by omega:(fdI g (f:Int)).Siem=1∨(fdI g (f:Int)).Siem=2∨(fdI g (f:Int)).Siem=3∨(fdI g (f:Int)).Siem=4)with h|h|h|h<;>rw[h]<;>omega
      have w3:IntKind.i64.wrap ((fdI g (f:Int)).Siem*((fdI g (f:Int)).Volts*d-x))=(fdI g (f:Int)).Siem*((fdI g (f:Int)).Volts*d-x):=f6 (by omega) (by omega);have hfr:=a0b (if 0<(fdI g (f:Int)).Siem*((fdI g (f:Int)).Volts*d-x)then(fdI g (f:Int)).Siem*((fdI g (f:Int)).Volts*d-x)else 0) d hd0 (by split<;>omega) (by split<;>omega) (by omega);rw[hff]at hfr;have hsl:=a4Y (g:=g) (s:=s) (vf:=vf) (done:=(L.take k).flatten) (fs:=F.take b);have gfl:=a7K (g:=g) (s:=s) (vf:=vf) (done:=(L.take k).flatten) (fs:=F.take b) hfn;have hst:=b8l (g:=g) (s:=s) (vf:=vf) (done:=(L.take k).flatten) (fs:=F.take b) (k:=f);have hFt:F.take (b+1)=F.take b++[(f:Int)]:=by rw[List.take_add_one,a1];rfl
      rw[←hFt]at hst;generalize flR g s vf (L.take k).flatten (F.take b)=FL at hsl gfl hst ⊢;refine e8 ?_;simp only[zT,reduceIte,Nat.reduceEqDiff];refine hK11 _ _ ?_;refine b7 [2,3,4,5,11,12,14,15,16,17,20,21] ?_;simp only[zP,Nat.reduceEqDiff,reduceIte];refine b9 fun K12 hK12=>?_;refine e7 ?_;refine v6 k7 rfl fun K hK=>?_;simp -dsimp [a1,a4];refine hK _ _ _ (by decide+kernel) ?_;clear hK K;refine F4 k7 rfl fun K hK=>?_;simp -dsimp [a1,hp,pAV,gv,w1,w2,w3,hfn,hsl,gfl];refine b8 _ (hix) (by simp) ?_;simp -dsimp [a1,hp,pAV,gv,w1,w2,w3,hfn,hsl,gfl];refine b8 _ (hfr) (by simp) ?_;simp -dsimp [a1,hp,pAV,gv,w1,w2,w3,hfn,hsl,gfl];refine hK _ _ _ (by decide+kernel) ?_;clear hK K;simp only[zT,reduceIte,Nat.reduceEqDiff];refine hK12 _ _ ?_;refine b7 [2,3,4,5,11,12,14,15,16,17,20,21] ?_;simp only[zP,Nat.reduceEqDiff,reduceIte];refine aR fun K hK=>?_;simp -dsimp [wb];apply hK;clear hK K;simp only[zT,reduceIte,Nat.reduceEqDiff];exact⟨b+1,by omega,by omega,d8 [some 0,some 1,some 2,some 3] rfl (by simp) (by simp[←hst,List.map_set])⟩
     ·have hbe:¬b<F.length:=by simpa using hc4
      rw[show F.take b=F from List.take_of_length_le (by omega),hpr,←hfl2];refine j0 ?_;simp only[zT,reduceIte,Nat.reduceEqDiff];refine hK6 _ _ ?_;refine b7 [2,3,4,5,11,12,14,15] ?_;simp only[zP,Nat.reduceEqDiff,reduceIte];refine aR fun K hK=>?_;simp -dsimp [wk];apply hK;clear hK K;simp only[zT,reduceIte,Nat.reduceEqDiff];exact⟨k+1,⟨by omega,by rw[a1Q hp,k2,hok];rfl⟩,by omega,d8 [some 0,some 1,some 2,some 3] rfl (by simp) (by simp)⟩
  ·have hkl:¬k<L.length:=by simpa using hc1
   rw[List.take_of_length_le (by omega)]at k2 ⊢;have hva:vlF N vf L.flatten=vlA N vf:=b3M fun k hk=>hcov k hk;have hfa:flR g s vf L.flatten []=flA g s vf:=b8T fun i hi=>by
    have hg:g.Feeds[i]?=some (fdI g (i:Int)):=by have:=O6 (g:=g) (i:=(i:Int)) (by omega) (by omega);rwa [Int.toNat_natCast]at this
    have hb:=hnt.feeds _ (List.mem_of_getElem? hg);exact hcov _ (by omega)
   have hvN:(vlA N vf).length=N:=by simp[vlA]
   have hfN:(flA g s vf).length=g.Feeds.length:=by simp[flA]
   have htv:List.take N ((vlA N vf).map Fr.cells)=(vlA N vf).map Fr.cells:=List.take_of_length_le (by simp;omega);have htf:List.take g.Feeds.length ((flA g s vf).map Fr.cells)=(flA g s vf).map Fr.cells:=List.take_of_length_le (by simp;omega);rw[hva,hfa];refine j0 ?_;simp only[zT,reduceIte,Nat.reduceEqDiff];refine hK4 _ _ ?_;refine b7 [11,12] ?_;simp only[zP,Nat.reduceEqDiff,reduceIte];refine aS fun K hK=>?_;simp -dsimp;apply hK;clear hK K;exact f7 (by simp[k2,hvN,hfN,htv,htf])
end Go.Cur
end
section
namespace Go.Cur
open Go.AM Go.Proofs
def wf (p:List Nat) (x:Nat→Int):List Wn→Nat→Int
 |[],_=>0
 |w::W,i=>(if w.a∈p then w.s*(ew w i*(x w.a-x w.b))else 0)+wf p x W i
def ws (p:List Nat) (x:Nat→Int):List Wn→Int
 |[]=>0
 |w::W=>(if w.a∈p then w.s*(x w.a-x w.b)*(x w.a-x w.b)else 0)+ws p x W
theorem c0O {n d:Int} (hd:0<d):∃G:Int,0<G∧n=(red n d).Num*G∧d=(red n d).Den*G∧0<(red n d).Den:=by
 obtain⟨a,b,G,hG,e,ha,hb⟩:=a5s (n:=n) hd;have e1:n/G=a:=by rw[ha];exact Int.mul_ediv_cancel_left _ (by omega)
 have e2:d/G=b:=by rw[hb];exact Int.mul_ediv_cancel_left _ (by omega)
 refine⟨G,hG,?_,?_,(a9o hd).1⟩
 ·unfold red;rw[e,e1,ha,Int.mul_comm]
 ·unfold red;rw[e,e2,hb,Int.mul_comm]
end Go.Cur
end
section
namespace Go.Cur
open Go.AM Go.Proofs
def sF (h:Int→Int) (l:List Int):Int:=l.foldl (fun a f=>a+h f) 0
theorem b7Z {h:Int→Int} {l:List Int} {k:Nat} {x:Int} (e:l[k]?=some x):sF h (l.take (k+1))=sF h (l.take k)+h x:=by
 unfold sF;rw[List.take_add_one,e,List.foldl_append];rfl
theorem a7n (h:Int→Int):∀(l:List Int) (a:Int),l.foldl (fun a f=>a+h f) a=a+sF h l
 |[],a=>by simp[sF]
 |x::l,a=>by
  unfold sF;rw[List.foldl_cons,List.foldl_cons,a7n h l,a7n h l (0+h x)];omega
theorem a7p (h:Int→Int) (x:Int) (l:List Int):sF h (x::l)=h x+sF h l:=by
 show(x::l).foldl _ 0=_;rw[List.foldl_cons,a7n];omega
theorem c0h {h:Int→Int} {B:Int}:∀{l:List Int},(∀x∈l,0≤h x∧h x≤B)→0≤sF h l∧sF h l≤B*(l.length:Int)
 |[],_=>by simp[sF]
 |x::l,e=>by
  have ih:=c0h (l:=l) fun y hy=>e y (by simp[hy]);have hx:=e x (by simp);rw[a7p,List.length_cons,Int.natCast_add,Int.mul_add];omega
theorem a8V {h h':Int→Int} {c c':Int}:∀{l:List Int},(∀x∈l,h x*c=h' x*c')→sF h l*c=sF h' l*c'
 |[],_=>by simp[sF]
 |x::l,e=>by
  have ih:=a8V (l:=l) fun y hy=>e y (by simp[hy]);rw[a7p,a7p,Int.add_mul,Int.add_mul,ih,e x (by simp)]
theorem a4K {h h':Nat→Int} {c c':Int}:∀{l:List Nat},(∀x∈l,h x*c=h' x*c')→sm h l*c=sm h' l*c'
 |[],_=>by simp[sm]
 |x::l,e=>by
  have ih:=a4K (l:=l) fun y hy=>e y (by simp[hy]);rw[sm,sm,Int.add_mul,Int.add_mul,ih,e x (by simp)]
theorem b8y {f:Nat→Int} {B:Int}:∀{l:List Nat},(∀x∈l,-B≤f x∧f x≤B)→ -B*(l.length:Int)≤sm f l∧sm f l≤B*(l.length:Int)
 |[],_=>by simp[sm]
 |x::l,e=>by
  have ih:=b8y (l:=l) fun y hy=>e y (by simp[hy]);have hx:=e x (by simp);rw[sm,List.length_cons,Int.natCast_add,Int.mul_add,Int.mul_add];omega
theorem b1j {f:Nat→Int} {l:List Nat} {k x:Nat} (e:l[k]?=some x):sm f (l.take (k+1))=sm f (l.take k)+f x:=by
 rw[List.take_add_one,e,J5];simp[sm]
def mx0 (x:Int):Int:=if 0<x then x else 0
theorem a7i {x e:Int} (he:0<e):mx0 x*e=mx0 (x*e):=by
 unfold mx0
 by_cases h:0<x
 ·rw[if_pos h,if_pos (Int.mul_pos h he)]
 ·rw[if_neg h,if_neg (Int.not_lt.2 (Int.mul_nonpos_of_nonpos_of_nonneg (by omega) (Int.le_of_lt he))),Int.zero_mul]
theorem b5t {x e:Int} (he:0<e):mx0 (e*x)=e*mx0 x:=by rw[Int.mul_comm,←a7i he,Int.mul_comm]
def enG (g:Gr) (F:List Int) (X:Nat→Int) (d:Int):Int:=sF (fun f=>(fdI g f).Volts*((fdI g f).Siem*mx0 ((fdI g f).Volts*d-X (fdI g f).At.toNat))) F
def enT (us:Kvs) (X:Nat→Int) (p:List Nat):Int:=sm (fun k=>X k*mx0 (igt us k)) p
def enR (us:Kvs) (X:Nat→Int) (p:List Nat):Int:=sm (fun k=>X k*mx0 (-igt us k)) p
def enE (g:Gr) (F:List Int) (us:Kvs) (X:Nat→Int) (d:Int) (p:List Nat):En:=⟨red (enG g F X d) d,red (enT us X p) d,red (enR us X p) d,red (enG g F X d+enR us X p-enT us X p) d⟩
theorem b5h {g:Gr} {F:List Int} {us:Kvs} {X Y:Nat→Int} {d e:Int} {p:List Nat} (hd:0<d) (he:0<e) (hF:∀f∈F,(fdI g f).At.toNat∈p) (h:∀k∈p,X k*e=Y k*d):enE g F us X d p=enE g F us Y e p:=by
 have h1:enG g F X d*e=enG g F Y e*d:=a8V fun f hf=>by
  rw[Int.mul_assoc,Int.mul_assoc,Int.mul_assoc,Int.mul_assoc,a7i he,a7i hd,Int.sub_mul,Int.sub_mul,h _ (hF f hf),Int.mul_assoc,Int.mul_assoc,Int.mul_comm d e]
 have h2:enT us X p*e=enT us Y p*d:=a4K fun k hk=>by
  rw[Int.mul_right_comm,h k hk,Int.mul_right_comm]
 have h3:enR us X p*e=enR us Y p*d:=a4K fun k hk=>by
  rw[Int.mul_right_comm,h k hk,Int.mul_right_comm]
 unfold enE;rw[a6g hd he h1,a6g hd he h2,a6g hd he h3,a6g hd he (show(enG g F X d+enR us X p-enT us X p)*e=(enG g F Y e+enR us Y p-enT us Y p)*d by rw[Int.sub_mul,Int.add_mul,Int.sub_mul,Int.add_mul,h1,h2,h3])]
def xOf (v:List Int) (p:List Nat) (k:Nat):Int:=at0 v (p.idxOf k:Nat)
def enP (g:Gr) (s:Sta) (us:Kvs) (p:List Nat):En:=enE g (m9 g s (upN p)) us (xOf (C5 g s us p).1 p) (C5 g s us p).2.1 p
theorem b7X {a d b e:Int} (hd:0<d) (he:0<e) (h:red a d=red b e):a*e=b*d:=by
 obtain⟨G,hG,h1,h2,h3⟩:=c0O (n:=a) hd;obtain⟨G',hG',k1,k2,k3⟩:=c0O (n:=b) he;rw[h]at h1 h2;rw[h1,h2];generalize (red b e).Num=x at*
 generalize (red b e).Den=y at*
 rw[k1,k2,Int.mul_assoc,Int.mul_assoc]
 congr 1
 rw[Int.mul_comm y G',Int.mul_left_comm G,Int.mul_comm y G]
section
variable {g:Gr} {s:Sta} {us:Kvs} {p:List Nat}
theorem b8f (hp:p∈j8 g s):p.Nodup:=by obtain⟨_,_,e⟩:=B4 hp;rw[e];exact F3
theorem b9S (hp:p∈j8 g s) {i k:Nat} (hk:p[i]?=some k):p.idxOf k=i:=by
 obtain⟨hi,e⟩:=List.getElem?_eq_some_iff.1 hk;rw[←e];exact List.Nodup.idxOf_getElem (b8f hp) i hi
theorem c1D (hnt:o8 g s) (hp:p∈j8 g s) (h5:p.length≤5) (hus:∀x,-40≤igt us x∧igt us x≤40) (hok:(C5 g s us p).2.2=true):
  enP g s us p=enE g (m9 g s (upN p)) us (xOf (pvR g s us p).1 p) (pvR g s us p).2.1 p:=by
 obtain⟨t1,t2,t3⟩:=R0 hnt hp h5 hus hok;obtain⟨r1,r2,r3,r4,r5⟩:=b3D hnt hp h5 hus hok;refine b5h t1 r2 (fun f hf=>(X2 hf).2.2.1) fun k hk=>?_;have:=r5 (p.idxOf k) (List.idxOf_lt_length_of_mem hk);exact(b7X r2 t1 this).symm
theorem c0a {l:List Int} {B:Nat} (h:∀x∈l,x.natAbs≤B) (i:Int):(at0 l i).natAbs≤B:=by
 unfold at0
 cases hi:l[i.toNat]? with
 |none=>simp
 |some x=>exact h x (List.mem_of_getElem? hi)
theorem b3B (hp:p∈j8 g s) {v:List Int} (hv:v.length=p.length) {i k:Nat} (hk:p[i]?=some k):v[i]?=some (xOf v p k):=by
 have hi:=(List.getElem?_eq_some_iff.1 hk).1;unfold xOf;rw[b9S hp hk];exact A5 (by omega)
theorem b6R {v:List Int} {B:Nat} (h:∀x∈v,x.natAbs≤B) (k:Nat):(xOf v p k).natAbs≤B:=c0a h _
end
section
variable {g:Gr} {us:Kvs} {X:Nat→Int} {d:Int} {p:List Nat} {F:List Int}
theorem a9f {i:Nat} {f:Int} (h:F[i]?=some f):enG g (F.take (i+1)) X d=enG g (F.take i) X d+(fdI g f).Volts*((fdI g f).Siem*mx0 ((fdI g f).Volts*d-X (fdI g f).At.toNat)):=b7Z h
theorem a8K {i k:Nat} (h:p[i]?=some k):enT us X (p.take (i+1))=enT us X (p.take i)+X k*mx0 (igt us k):=b1j h
theorem a9m {i k:Nat} (h:p[i]?=some k):enR us X (p.take (i+1))=enR us X (p.take i)+X k*mx0 (-igt us k):=b1j h
theorem a7O {f:Int} (hf:1≤(fdI g f).Volts∧(fdI g f).Volts≤1000∧1≤(fdI g f).Siem∧(fdI g f).Siem≤4) {D:Int} (hD:D≤10000000000000):0≤(fdI g f).Volts*((fdI g f).Siem*mx0 D)∧(fdI g f).Volts*((fdI g f).Siem*mx0 D)≤40000000000000000:=by
 have h1:0≤mx0 D∧mx0 D≤10000000000000:=by unfold mx0;split<;>omega
 generalize mx0 D=m at h1;have h2:0≤(fdI g f).Siem*m∧(fdI g f).Siem*m≤40000000000000:=⟨Int.mul_nonneg (by omega) h1.1,Int.le_trans (Int.mul_le_mul hf.2.2.2 h1.2 h1.1 (by omega)) (by omega)⟩;exact⟨Int.mul_nonneg (by omega) h2.1,Int.le_trans (Int.mul_le_mul hf.2.1 h2.2 h2.1 (by omega)) (by omega)⟩
theorem a0y (hX:∀k,(X k).natAbs≤7000000000000) (k:Nat) {u:Int} (hu:u≤40):-280000000000000≤X k*mx0 u∧X k*mx0 u≤280000000000000:=by
 have h1:0≤mx0 u∧mx0 u≤40:=by unfold mx0;split<;>omega
 have h2:-7000000000000≤X k∧X k≤7000000000000:=by have:=hX k;omega
 generalize mx0 u=m at h1;generalize X k=x at h2;have a:=Int.mul_le_mul_of_nonneg_right h2.1 h1.1;have b:=Int.mul_le_mul_of_nonneg_right h2.2 h1.1;omega
theorem b6t (hX:∀k,(X k).natAbs≤7000000000000) (hus:∀x,-40≤igt us x∧igt us x≤40):-280000000000000*(p.length:Int)≤enT us X p∧enT us X p≤280000000000000*(p.length:Int):=b8y fun k _=>a0y hX k (hus k).2
theorem b6v (hX:∀k,(X k).natAbs≤7000000000000) (hus:∀x,-40≤igt us x∧igt us x≤40):-280000000000000*(p.length:Int)≤enR us X p∧enR us X p≤280000000000000*(p.length:Int):=b8y fun k _=>a0y hX k (by have:=(hus k).1;omega)
theorem a8y (hF:∀f∈F,1≤(fdI g f).Volts∧(fdI g f).Volts≤1000∧1≤(fdI g f).Siem∧(fdI g f).Siem≤4) (hX:∀k,(X k).natAbs≤7000000000000) (hd:0<d) (hd1:d≤2000000000):0≤enG g F X d∧enG g F X d≤40000000000000000*(F.length:Int):=c0h fun f hf=>by
 refine a7O (hF f hf) ?_;have h1:=Int.mul_le_mul (hF f hf).2.1 hd1 (Int.le_of_lt hd) (by omega);have:=hX (fdI g f).At.toNat;omega
end
end Go.Cur
end
section
namespace Go.Cur
open Go.AM Go.Proofs
abbrev eL (l:List En):AV:= .lst 8 (l.map En.cells)
theorem b0O (g:Gr) (s:Sta) (l:List Ld) (hl:l.length≤1000) (h5:t4 g s l=true→B6 g s=false→∀p∈j8 g s,p.length≤5) (h12:t4 g s l=true→H7 g s):
  d4 Try.prog 44 [g.av,s.av,lL l] (if t4 g s l=true then(if B6 g s=true then .tup [.v (.slice none 0 0),I 3]else if okS g s (tkK l (H5 l))=true then .tup [eL ((j8 g s).map (enP g s (tkK l (H5 l)))),I 0]else .tup [.v (.slice none 0 0),I 4])else .tup [.v (.slice none 0 0),I 2]):=by
 cases hf:t4 g s l with
 |false=>
  have hb:=a5E g s l hl hf;refine d4.of_bodyG Try.func44 rfl (by decide) (by simp[Try.ntmps44]) ?_;intro J hJ;simp only[Try.ntmps44,Try.results44];refine gS fun K hK=>?_;simp -dsimp;apply hK;clear hK K;refine gS fun K hK=>?_;simp -dsimp;refine b8 _ (hb) (by simp) ?_;simp -dsimp;apply hK;clear hK K;refine b6 fun K1 hK1=>?_;refine d5 ?_;refine gS fun K hK=>?_;simp -dsimp;apply hK;clear hK K;refine d6 rfl (fun hc0=>?_) (fun hc0=>?_)
  ·refine gS fun K hK=>?_;simp -dsimp;apply hK;clear hK K;exact i5 (by simp[y3,m6])
  ·simp at hc0
 | true =>
  have hnt:=t6 hf;have hb:=O2 g s l hl hf;have hlg:=W4 g s hnt (h12 hf)
  cases hlo:B6 g s with
  | true=>
   rw[hlo]at hlg;refine d4.of_bodyG Try.func44 rfl (by decide) (by simp[Try.ntmps44]) ?_;intro J hJ;simp only[Try.ntmps44,Try.results44];refine gS fun K hK=>?_;simp -dsimp;apply hK;clear hK K;refine gS fun K hK=>?_;simp -dsimp;refine b8 _ (hb) (by simp) ?_;simp -dsimp;apply hK;clear hK K;refine b6 fun K1 hK1=>?_;refine d5 ?_;refine gS fun K hK=>?_;simp -dsimp;apply hK;clear hK K;refine d6 rfl (fun hc0=>?_) (fun hc0=>?_)
   ·simp at hc0
   ·refine gS fun K hK=>?_;simp -dsimp;refine b8 _ (hlg) (by simp) ?_;simp -dsimp;apply hK;clear hK K;refine d6 rfl (fun hc1=>?_) (fun hc1=>?_)
    ·refine gS fun K hK=>?_;simp -dsimp;apply hK;clear hK K;exact i5 (by simp[y3,m6])
    ·simp at hc1
  | false =>
   rw[hlo]at hlg;have hbd:=r6 hnt.gr;have h5:=h5 hf hlo;have htk:=a2q l hl;have hI:=U3 l (H5 l);have hus:=a4x (U1 hf) (H5 l);have hit:=a6M g s hnt (h12 hf);have hc:=a1O (ntC g (bL s.Feeds) (bL s.Wires));unfold okS;generalize tkK l (H5 l)=us at htk hI hus ⊢;have hcall:=fun p (hp:p∈j8 g s)=>b2k (us:=us) hnt hp (Or.inl (h5 p hp)) hI hus;have htt:=fun p (hp:p∈j8 g s)=>R0 (us:=us) hnt hp (h5 p hp) hus;have hbb:=fun p (hp:p∈j8 g s)=>b3C (us:=us) hnt hp (Or.inl (h5 p hp)) hI hus;have hxg:=fun p (hp:p∈j8 g s) (v:List Int) (hv:v.length=p.length) i k (hk:p[i]?=some k)=>b3B hp hv hk;have hpl:=J0 g s;generalize hL:j8 g s=L at hit h5 hcall htt hbb hxg hpl ⊢;refine d4.of_bodyG Try.func44 rfl (by decide) (by simp[Try.ntmps44]) ?_;intro J hJ;simp only[Try.ntmps44,Try.results44];refine gS fun K hK=>?_;simp -dsimp;apply hK;clear hK K;refine gS fun K hK=>?_;simp -dsimp;refine b8 _ (hb) (by simp) ?_;simp -dsimp;apply hK;clear hK K;refine b6 fun K1 hK1=>?_;refine d5 ?_;refine gS fun K hK=>?_;simp -dsimp;apply hK;clear hK K;refine d6 rfl (fun hc0=>?_) (fun hc0=>?_)
   ·simp at hc0
   ·refine gS fun K hK=>?_;simp -dsimp;refine b8 _ (hlg) (by simp) ?_;simp -dsimp;apply hK;clear hK K;refine d6 rfl (fun hc1=>?_) (fun hc1=>?_)
    ·simp at hc1
    ·refine d7 ?_;simp only[zT,reduceIte,Nat.reduceEqDiff];refine hK1 _ _ ?_;refine b5 [2,6,7,8] (Or.inr (by simp)) ?_;simp only[zP,Nat.reduceEqDiff,reduceIte];refine gS fun K hK=>?_;simp -dsimp;refine b8 _ (htk) (by simp) ?_;simp -dsimp;apply hK;clear hK K;refine gS fun K hK=>?_;simp -dsimp;apply hK;clear hK K;refine b6 fun K2 hK2=>?_;refine gS fun K hK=>?_;simp -dsimp;refine b8 _ (hc) (by simp) ?_;simp -dsimp;apply hK;clear hK K;refine d5 ?_;refine b5 [6,7,8,10,11,41] (Or.inr (by simp)) ?_;simp only[zP,Nat.reduceEqDiff,reduceIte];refine G4 hJ [6,7,8,10,11,41] (fun t=>[some (.els 4 [g.cells]),some (.els 2 [s.cells]),some (.els 1 [[.v (.slice none 0 0)]]),some (.els 1 [[I 0]]),some (.els 1 [[net g s]]),some (.els 1 [[.mpc false [.i .i64] us]]),some (.els 1 [[.row 7 0 t]]),some (.els 8 (((L.take t).map (enP g s us)).map En.cells))]) (fun t=>((L.take t).all fun p=>(C5 g s us p).2.2)=true) rfl (hit) rfl (by simp) (by decide) (by decide) (by decide) (a2o L) ?_ ?_ ?_ ?_
     ·rfl
     ·exact(M6 6 0 0 8 (sz0:=1) (es:=[[.v (.slice none 0 0)]]) (e:=[.v (.slice none 0 0)]) (by simp) (by simp) (by simp)).trans (d8 [some 0,some 1,some 2,some 3,some 4,some 5,some 6,some 7] rfl (by simp) (by simp))
     ·intro n xv hxn hi l1 J1 hJ1;obtain⟨p,hp,rfl⟩:∃p,L[n]?=some p∧pAV p=xv:=by simpa using hxn
      have hpm:=List.mem_of_getElem? hp;have hnl:=(List.getElem?_eq_some_iff.1 hp).1;have hul:=o9 p;have hp5:=h5 p hpm;have hcl:=hcall p hpm;have hLp:p∈j8 g s:=hL▸hpm;obtain⟨R,hR⟩:∃R,R=((L.take n).map (enP g s us)):=⟨_,rfl⟩;have hRl:R.length=n:=by rw[hR];simp;omega
      have hRs:((L.take (n+1)).map (enP g s us))=R++[enP g s us p]:=by rw[List.take_add_one,hp,List.map_append,hR];rfl
      rw[←hR];simp only[pAV];simp only[List.zip_cons_cons,List.zip_nil_left,List.zip_nil_right,List.cons_append,List.nil_append];refine gR fun K hK=>?_;simp -dsimp;apply hK;clear hK K;simp only[a6D];intro J2 hJ2;refine b5 [6,7,8,10,11,12,41] (Or.inr (by simp)) ?_;simp only[zP,Nat.reduceEqDiff,reduceIte];refine d5 ?_;refine gS fun K hK=>?_;simp -dsimp;refine b8 _ (hcl) (by simp) ?_;simp -dsimp;apply hK;clear hK K;refine b6 fun K3 hK3=>?_;refine gS fun K hK=>?_;simp -dsimp;apply hK;clear hK K;refine d6 rfl (fun hc2=>?_) (fun hc2=>?_)
      ·refine gS fun K hK=>?_;simp -dsimp;apply hK;clear hK K;have hof:(C5 g s us p).2.2=false:=by simpa using hc2
       have hall:(L.all fun p=>(C5 g s us p).2.2)=false:=by rw[List.all_eq_false];exact⟨p,hpm,by simp[hof]⟩
       exact i5 ⟨[some (.els 4 [g.cells]),some (.els 2 [s.cells]),some (.els 1 [[.v (.slice none 0 0)]]),some (.els 1 [[I 4]]),some (.els 1 [[net g s]]),some (.els 1 [[.mpc false [.i .i64] us]]),some (.els 1 [[.row 7 0 n]]),some (.els 8 (R.map En.cells))],d8 [some 0,some 1,some 2,some 3,some 4,some 5,some 6,some 7] rfl (by simp) (by simp),by simp[hall,y3,m6]⟩
      ·have hok:(C5 g s us p).2.2=true:=by simpa using hc2
       obtain⟨t1,t2,t3⟩:=htt p hpm hok;obtain⟨b1,-,-,-⟩:=hbb p hpm hok;have hen:enP g s us p=enE g (m9 g s (upN p)) us (xOf (C5 g s us p).1 p) (C5 g s us p).2.1 p:=rfl;have hF12:=a6Q hnt (p:=p) rfl;have hfa:=fun b (hb:b<(m9 g s (upN p)).length)=>C8 hnt (p:=p) rfl hb;have hfd:=a4h g s (upN p) hnt.sf (by omega) (by omega);generalize m9 g s (upN p)=F at hen hF12 hfa hfd;obtain⟨v,hv⟩:∃v,v=(C5 g s us p).1:=⟨_,rfl⟩;obtain⟨d,hd⟩:∃d,d=(C5 g s us p).2.1:=⟨_,rfl⟩;rw[←hv]at t3 b1 hen ⊢;rw[←hd]at t1 t2 hen ⊢;have hX:=fun k=>b6R (p:=p) t3 k;have hxe:=fun i k (hk:p[i]?=some k)=>hxg p hpm v b1 i k hk;generalize xOf v p=X at hen hX hxe;refine d7 ?_;simp only[zT,reduceIte,Nat.reduceEqDiff];refine hK3 _ _ ?_;refine b5 [6,7,8,10,11,12,13,14,41] (Or.inr (by simp)) ?_;simp only[zP,Nat.reduceEqDiff,reduceIte];refine gS fun K hK=>?_;simp -dsimp;apply hK;clear hK K;refine b6 fun K4 hK4=>?_;refine gS fun K hK=>?_;simp -dsimp;refine b8 _ (hfd) (by simp) ?_;simp -dsimp;apply hK;clear hK K;refine d5 ?_;refine b5 [6,7,8,10,11,12,13,14,16,17,18,41,55,56,57] (Or.inr (by simp)) ?_;simp only[zP,Nat.reduceEqDiff,reduceIte];refine f5 [6,7,8,10,11,12,13,14,17,18,41,55,56] (α:=Nat) (fun i=>[(16,I (enG g (F.take i) X d)),(57,I i)]) (fun i=>[some (.els 4 [g.cells]),some (.els 2 [s.cells]),some (.els 1 [[.v (.slice none 0 0)]]),some (.els 1 [[I 0]]),some (.els 1 [[net g s]]),some (.els 1 [[.mpc false [.i .i64] us]]),some (.els 1 [[.row 7 0 n]]),some (.els 8 (R.map En.cells))]) (fun i=>i≤F.length) (fun i=>F.length-i) 0 ?_ ?_ ?_
       ·exact Nat.zero_le _
       ·exact l9 (d8 [some 0,some 1,some 2,some 3,some 4,some 5,some 6,some 7] rfl (by simp[enG,sF]) (by simp)) (by simp)
       rintro i i1;simp only[zP,Nat.reduceEqDiff,reduceIte];refine gS fun K hK=>?_;simp -dsimp;apply hK;clear hK K;refine b6 fun K5 hK5=>?_;refine d6 rfl (fun hc3=>?_) (fun hc3=>?_)
       ·have hil:i<F.length:=by simpa using hc3
        have wi:=zW i (by omega);obtain⟨a1,a2,a3,a4,a5,a6,a7,a8,a9,a10⟩:=hfa i hil;obtain⟨f,hfq⟩:∃f:Nat,at0 F (i:Nat)=f:=⟨(at0 F (i:Nat)).toNat,by omega⟩;rw[hfq]at a1 a2 a3 a4 a5 a6 a7 a8 a9 a10;rw[Int.toNat_natCast]at a4;have hfn:f<g.Feeds.length:=by omega
        have hix:=a4C (upN p) (fdI g (f:Int)).At (by omega);rw[C7 a5 a6]at hix;have gv:=hxe _ _ (s6 a6);have hxb:=hX (fdI g (f:Int)).At.toNat;have hsn:=a9f (g:=g) (X:=X) (d:=d) a1;have hG:=a8y (g:=g) (F:=F.take i) (X:=X) (d:=d) (fun f' hf'=>by obtain⟨b,hb⟩:=List.getElem?_of_mem (List.mem_of_mem_take hf');have h1:=hfa b (List.getElem?_eq_some_iff.1 hb).1;rw[W5 hb]at h1;exact⟨h1.2.2.2.2.2.2.1,h1.2.2.2.2.2.2.2⟩) hX t1 t2;rw[List.length_take]at hG;generalize p.idxOf (fdI g (f:Int)).At.toNat=ix at hix gv;generalize X (fdI g (f:Int)).At.toNat=x at gv hxb hsn;have hvd:0≤(fdI g (f:Int)).Volts*d∧(fdI g (f:Int)).Volts*d≤2000000000000:=⟨Int.mul_nonneg (by omega) (by omega),Int.le_trans (Int.mul_le_mul a8 t2 (by omega) (by omega)) (by omega)⟩;have hft:=a7O (g:=g) (f:=(f:Int)) ⟨a7,a8,a9,a10⟩ (D:=(fdI g (f:Int)).Volts*d-x) (by omega);have w0:IntKind.i64.wrap ((fdI g (f:Int)).Volts*(fdI g (f:Int)).Siem)=(fdI g (f:Int)).Volts*(fdI g (f:Int)).Siem:=f6 (by have:=Int.mul_nonneg (a:=(fdI g (f:Int)).Volts) (b:=(fdI g (f:Int)).Siem) (by omega) (by omega);omega) (by have:=Int.mul_le_mul a8 a10 (by omega) (by omega);omega);have w1:IntKind.i64.wrap ((fdI g (f:Int)).Volts*d)=(fdI g (f:Int)).Volts*d:=f6 (by omega) (by omega);have w2:IntKind.i64.wrap ((fdI g (f:Int)).Volts*d-x)=(fdI g (f:Int)).Volts*d-x:=f6 (by omega) (by omega);have hm:(if x<(fdI g (f:Int)).Volts*d then(fdI g (f:Int)).Volts*d-x else 0)=mx0 ((fdI g (f:Int)).Volts*d-x):=by unfold mx0;split<;>split<;>omega
        generalize mx0 ((fdI g (f:Int)).Volts*d-x)=m at hm hft hsn;rw[←Int.mul_assoc]at hft hsn;have w3:IntKind.i64.wrap ((fdI g (f:Int)).Volts*(fdI g (f:Int)).Siem*m)=(fdI g (f:Int)).Volts*(fdI g (f:Int)).Siem*m:=f6 (by omega) (by omega);have w4:IntKind.i64.wrap (enG g (F.take i) X d+(fdI g (f:Int)).Volts*(fdI g (f:Int)).Siem*m)=enG g (F.take i) X d+(fdI g (f:Int)).Volts*(fdI g (f:Int)).Siem*m:=f6 (by omega) (by omega);refine d7 ?_;simp only[zT,reduceIte,Nat.reduceEqDiff];refine hK5 _ _ ?_;refine b5 [6,7,8,10,11,12,13,14,16,17,18,41,55,56,57] (Or.inr (by simp)) ?_;simp only[zP,Nat.reduceEqDiff,reduceIte];refine b6 fun K6 hK6=>?_;refine d5 ?_;refine gS fun K hK=>?_;simp -dsimp [a1];apply hK;clear hK K;refine gS fun K hK=>?_;simp -dsimp [a4];apply hK;clear hK K;refine o4 k7 rfl (by decide) rfl rfl fun K hK=>?_;simp -dsimp [gv,w0,w1,w2,hm,w3,w4];refine b8 _ (hix) (by simp) ?_;simp -dsimp [gv,w0,w1,w2,hm,w3,w4];refine hK _ _ _ (by decide+kernel) ?_;clear hK K;simp only[zT,reduceIte,Nat.reduceEqDiff];refine hK6 _ _ ?_;refine b5 [6,7,8,10,11,12,13,14,16,17,18,41,55,56,57] (Or.inr (by simp)) ?_;simp only[zP,Nat.reduceEqDiff,reduceIte];refine gR fun K hK=>?_;simp -dsimp [wi];apply hK;clear hK K;simp only[zT,reduceIte,Nat.reduceEqDiff];exact⟨i+1,by omega,by omega,l9 (d8 [some 0,some 1,some 2,some 3,some 4,some 5,some 6,some 7] rfl (by simp[hsn]) (by simp)) (by simp)⟩
       ·have hie:¬i<F.length:=by simpa using hc3
        rw[show F.take i=F from List.take_of_length_le (by omega)];have hTa:=fun i=>b6t (us:=us) (p:=p.take i) hX hus;have hRa:=fun i=>b6v (us:=us) (p:=p.take i) hX hus;have hGa:=a8y (g:=g) (F:=F) (X:=X) (d:=d) (fun f' hf'=>by obtain⟨b,hb⟩:=List.getElem?_of_mem hf';have h1:=hfa b (List.getElem?_eq_some_iff.1 hb).1;rw[W5 hb]at h1;exact⟨h1.2.2.2.2.2.2.1,h1.2.2.2.2.2.2.2⟩) hX t1 t2;refine f8 ?_;simp only[zT,reduceIte,Nat.reduceEqDiff];refine hK4 _ _ ?_;refine b5 [6,7,8,10,11,12,13,14,16,17,18,41] (Or.inr (by simp)) ?_;simp only[zP,Nat.reduceEqDiff,reduceIte];refine b6 fun K7 hK7=>?_;refine gS fun K hK=>?_;simp -dsimp [hul];apply hK;clear hK K;refine d5 ?_;refine b5 [6,7,8,10,11,13,14,16,17,18,41,91,92,93] (Or.inr (by simp)) ?_;simp only[zP,Nat.reduceEqDiff,reduceIte];refine f5 [6,7,8,10,11,13,14,16,41,91,92] (α:=Nat) (fun j=>[(17,I (enT us X (p.take j))),(18,I (enR us X (p.take j))),(93,I j)]) (fun j=>[some (.els 4 [g.cells]),some (.els 2 [s.cells]),some (.els 1 [[.v (.slice none 0 0)]]),some (.els 1 [[I 0]]),some (.els 1 [[net g s]]),some (.els 1 [[.mpc false [.i .i64] us]]),some (.els 1 [[.row 7 0 n]]),some (.els 8 (R.map En.cells))]) (fun j=>j≤p.length) (fun j=>p.length-j) 0 ?_ ?_ ?_
        ·exact Nat.zero_le _
        ·exact l9 (d8 [some 0,some 1,some 2,some 3,some 4,some 5,some 6,some 7] rfl (by simp[enT,enR,sm]) (by simp)) (by simp)
        rintro j j1;simp only[zP,Nat.reduceEqDiff,reduceIte];refine gS fun K hK=>?_;simp -dsimp;apply hK;clear hK K;refine b6 fun K8 hK8=>?_;refine d6 rfl (fun hc4=>?_) (fun hc4=>?_)
        ·have hjl:j<p.length:=by simpa [hul]using hc4
         have wj:=zW j (by omega);obtain⟨k,hk⟩:∃k,p[j]?=some k:=⟨_,List.getElem?_eq_getElem hjl⟩;have gk:=B8 hk;have gv:=hxe _ _ hk;have hTs:=a8K (us:=us) (X:=X) hk;have hRs':=a9m (us:=us) (X:=X) hk;have hT0:=hTa j;have hT1:=hTa (j+1);have hR0:=hRa j;have hR1:=hRa (j+1);rw[List.length_take]at hT0 hT1 hR0 hR1;have hu:=hus k;have hxb:=hX k;have hxu:-600000000000000≤X k*igt us k∧X k*igt us k≤600000000000000:=by
          have h1:=a0y hX k (u:=igt us k) (by omega);have h2:=a0y hX k (u:=-igt us k) (by omega);have h3:X k*igt us k=X k*mx0 (igt us k)-X k*mx0 (-igt us k):=by rw[←Int.mul_sub];congr 1;unfold mx0;split<;>split<;>omega
          omega
         have we:IntKind.i64.wrap (X k*igt us k)=X k*igt us k:=f6 (by omega) (by omega);refine d7 ?_;simp only[zT,reduceIte,Nat.reduceEqDiff];refine hK8 _ _ ?_;refine b5 [6,7,8,10,11,13,14,16,17,18,41,91,92,93] (Or.inr (by simp)) ?_;simp only[zP,Nat.reduceEqDiff,reduceIte];refine b6 fun K9 hK9=>?_;refine d5 ?_;refine gS fun K hK=>?_;simp -dsimp [gk];apply hK;clear hK K;refine q9 k7 rfl (by decide) rfl rfl fun K hK=>?_;simp -dsimp [gk,gv,p6 hI,we];refine o3 (_) (fun hm=>rfl) ?_;simp -dsimp [gk,gv,p6 hI,we];refine hK _ _ _ (by decide+kernel) ?_;clear hK K;refine gS fun K hK=>?_;simp -dsimp [p6 hI];refine o3 (_) (fun hm=>rfl) ?_;simp -dsimp [p6 hI];apply hK;clear hK K;refine d6 rfl (fun hc5=>?_) (fun hc5=>?_)
         ·have hpos:0<igt us k:=by simpa using hc5
          have eT:X k*mx0 (igt us k)=X k*igt us k:=by unfold mx0;rw[if_pos hpos]
          have eR:X k*mx0 (-igt us k)=0:=by unfold mx0;rw[if_neg (by omega),Int.mul_zero]
          rw[eT]at hTs;rw[eR,Int.add_zero]at hRs';have w6:IntKind.i64.wrap (enT us X (p.take j)+X k*igt us k)=enT us X (p.take j)+X k*igt us k:=f6 (by omega) (by omega);refine gR fun K hK=>?_;simp -dsimp [w6];apply hK;clear hK K;simp only[zT,reduceIte,Nat.reduceEqDiff];refine hK9 _ _ ?_;refine b5 [6,7,8,10,11,13,14,16,17,18,41,91,92,93] (Or.inr (by simp)) ?_;simp only[zP,Nat.reduceEqDiff,reduceIte];refine gR fun K hK=>?_;simp -dsimp [wj];apply hK;clear hK K;simp only[zT,reduceIte,Nat.reduceEqDiff];exact⟨j+1,by omega,by omega,l9 (d8 [some 0,some 1,some 2,some 3,some 4,some 5,some 6,some 7] rfl (by simp[hTs,hRs']) (by simp)) (by simp)⟩
         ·have hpos:¬0<igt us k:=by simpa using hc5
          have eT:X k*mx0 (igt us k)=0:=by unfold mx0;rw[if_neg hpos,Int.mul_zero]
          have eR:X k*mx0 (-igt us k)=- (X k*igt us k):=by
           unfold mx0
           by_cases h:igt us k=0
           ·rw[h];simp
           ·rw[if_pos (by omega),Int.mul_neg]
          rw[eT,Int.add_zero]at hTs;rw[eR,←Int.sub_eq_add_neg]at hRs';have w6:IntKind.i64.wrap (enR us X (p.take j)-X k*igt us k)=enR us X (p.take j)-X k*igt us k:=f6 (by omega) (by omega);refine gR fun K hK=>?_;simp -dsimp [w6];apply hK;clear hK K;simp only[zT,reduceIte,Nat.reduceEqDiff];refine hK9 _ _ ?_;refine b5 [6,7,8,10,11,13,14,16,17,18,41,91,92,93] (Or.inr (by simp)) ?_;simp only[zP,Nat.reduceEqDiff,reduceIte];refine gR fun K hK=>?_;simp -dsimp [wj];apply hK;clear hK K;simp only[zT,reduceIte,Nat.reduceEqDiff];exact⟨j+1,by omega,by omega,l9 (d8 [some 0,some 1,some 2,some 3,some 4,some 5,some 6,some 7] rfl (by simp[hTs,hRs']) (by simp)) (by simp)⟩
        ·have hje:¬j<p.length:=by simpa [hul]using hc4
         rw[show p.take j=p from List.take_of_length_le (by omega)];have hT:=hTa p.length;have hB:=hRa p.length;rw[List.take_length]at hT hB;have fr1:=C4 (enG g F X d) d t1 (by omega) (by omega) (by omega);have fr2:=C4 (enT us X p) d t1 (by omega) (by omega) (by omega);have fr3:=C4 (enR us X p) d t1 (by omega) (by omega) (by omega);have fr4:=C4 (enG g F X d+enR us X p-enT us X p) d t1 (by omega) (by omega) (by omega);have w7:IntKind.i64.wrap (enG g F X d+enR us X p)=enG g F X d+enR us X p:=f6 (by omega) (by omega);have w8:IntKind.i64.wrap (enG g F X d+enR us X p-enT us X p)=enG g F X d+enR us X p-enT us X p:=f6 (by omega) (by omega);have htR:List.take n (R.map En.cells)=R.map En.cells:=List.take_of_length_le (by simp;omega);have f2:D8 (n+1) 65:=j7 (by omega) (by omega);refine f8 ?_;simp only[zT,reduceIte,Nat.reduceEqDiff];refine hK7 _ _ ?_;refine b5 [6,7,8,10,11,14,16,17,18,41] (Or.inr (by simp)) ?_;simp only[zP,Nat.reduceEqDiff,reduceIte];refine o4 k7 rfl (by decide) rfl rfl fun K hK=>?_;simp -dsimp [w7,w8,f2,hRl,htR];refine b8 _ (fr1) (by simp) ?_;simp -dsimp [w7,w8,f2,hRl,htR];refine b8 _ (fr2) (by simp) ?_;simp -dsimp [w7,w8,f2,hRl,htR];refine b8 _ (fr3) (by simp) ?_;simp -dsimp [w7,w8,f2,hRl,htR];refine b8 _ (fr4) (by simp) ?_;simp -dsimp [w7,w8,f2,hRl,htR];refine hK _ _ _ (by decide+kernel) ?_;clear hK K;simp only[P1,A2,a0C,reduceIte,Nat.reduceEqDiff,eq_self];exact⟨by rw[a1Q hp,hi,hok];rfl,d8 [some 0,some 1,some 2,some 3,some 4,some 5,some 6,some 8] rfl (by simp) (by simp[hRs,hen,enE])⟩
     ·intro hdone;simp only[zT,reduceIte,Nat.reduceEqDiff];refine hK2 _ _ ?_;refine b5 [6,7,11] (Or.inr (by simp)) ?_;simp only[zP,Nat.reduceEqDiff,reduceIte];refine gS fun K hK=>?_;simp -dsimp;apply hK;clear hK K;have hdone':(L.all fun p=>(C5 g s us p).2.2)=true:=by rw[List.take_of_length_le (by simp)]at hdone;exact hdone
      have htk:List.take L.length (L.map (En.cells∘enP g s us))=L.map (En.cells∘enP g s us):=List.take_of_length_le (by simp);exact i5 (by simp[y3,m6,hdone',htk])
end Go.Cur
end
section
namespace Go.Cur
open Go.AM Go.Proofs
def enL (g:Gr) (s:Sta) (us:Kvs) (L:List (List Nat)) (k:Nat):List En:=(L.take k).map (enP g s us)
theorem b2X {g:Gr} {s:Sta} {us:Kvs} {L:List (List Nat)} {k:Nat} (h:k≤L.length):(enL g s us L k).length=k:=by unfold enL;simp;omega
theorem b5c {g:Gr} {s:Sta} {us:Kvs} {L:List (List Nat)} {k:Nat} {p:List Nat} (h:L[k]?=some p):enL g s us L (k+1)=enL g s us L k++[enP g s us p]:=by unfold enL;rw[List.take_add_one,h,List.map_append];rfl
theorem a8w (g:Gr) (s:Sta) (l:List Ld) (hnt:o8 g s) (hl:l.length≤1000) (ld:b9N g l) (h5:∀p∈j8 g s,p.length≤5):
  d4 Try.prog 45 [g.av,s.av,lL l] (if okS g s (tkK l (H5 l))=true then .tup [eL ((j8 g s).map (enP g s (tkK l (H5 l)))),Bo true]else .tup [.v (.slice none 0 0),Bo false]):=by
 have hbd:=r6 hnt.gr;have hus:=a4x ld (H5 l);obtain⟨N,hnn⟩:∃N:Nat,g.Nodes.toNat=N:=⟨g.Nodes.toNat,rfl⟩;have hnN:g.Nodes=(N:Int):=by omega
 have hal:=b7h l.length (by omega);have hcr:=a2j g l (List.replicate l.length true) N hnN (by omega) hl (by simp) (fun y hy=>by have:=ld.at_ y hy;omega);have hcv:=fun p (hp:p∈j8 g s)=>c0K g s p (tkK l (H5 l)) (a1e N l (List.replicate l.length true)) hnt hp (h5 p hp) hus (fun k hk=>by rw[W0 (by have:=Q7 hp hk;omega),a4p]);have hcu:=fun p (hp:p∈j8 g s) k (hk:k∈p)=>(show(a1e N l (List.replicate l.length true))[k]?=some (igt (tkK l (H5 l)) k)by rw[W0 (by have:=Q7 hp hk;omega),a4p]);have hfl:∀p,(pvR g s (tkK l (H5 l)) p).2.2=(C5 g s (tkK l (H5 l)) p).2.2:=fun p=>a9q;have hpo:=fun p (hp:p∈j8 g s)=>b3D (us:=tkK l (H5 l)) hnt hp (h5 p hp) hus;have hen:=fun p (hp:p∈j8 g s)=>c1D (us:=tkK l (H5 l)) hnt hp (h5 p hp) hus;have hokS:okS g s (tkK l (H5 l))=(j8 g s).all fun p=>(pvR g s (tkK l (H5 l)) p).2.2:=by unfold okS;congr 1;funext p;exact(hfl p).symm
 rw[hokS];generalize a1e N l (List.replicate l.length true)=cu at hcr hcv hcu;generalize List.replicate l.length true=al at hal hcr;generalize tkK l (H5 l)=us at hus hcv hcu hfl hpo hen ⊢;have hxg:=fun p (hp:p∈j8 g s) (v:List Int) (hv:v.length=p.length) i k (hk:p[i]?=some k)=>b3B hp hv hk;have hpl:=J0 g s;have hrp:=a1n g s hnt;obtain⟨L,hL⟩:∃L,L=j8 g s:=⟨_,rfl⟩;rw[←hL]at hcv hcu hpo hpl hrp hen hxg h5 ⊢;refine d4.of_body Try.func45 rfl (by decide) (by simp[Try.ntmps45]) ?_;simp only[Try.ntmps45,Try.results45];refine aS fun K hK=>?_;simp -dsimp;apply hK;clear hK K;refine v6 k7 rfl fun K hK=>?_;simp -dsimp;refine b8 _ (hal) (by simp) ?_;simp -dsimp;refine b8 _ (hcr) (by simp) ?_;simp -dsimp;refine hK _ _ _ (by decide+kernel) ?_;clear hK K;refine aS fun K hK=>?_;simp -dsimp;refine b8 _ (hrp) (by simp) ?_;simp -dsimp;apply hK;clear hK K;refine aS fun K hK=>?_;simp -dsimp;apply hK;clear hK K;refine b9 fun K1 hK1=>?_;refine aS fun K hK=>?_;simp -dsimp;apply hK;clear hK K;refine e7 ?_;refine b7 [3,4,8,9,10,11] ?_;simp only[zP,Nat.reduceEqDiff,reduceIte];refine g7 [3,4,8,9] (α:=Nat) (fun k=>[(10, .row 2 0 k),(11,I k)]) (fun k=>[some (.els 4 [g.cells]),some (.els 2 [s.cells]),some (.els 8 ((enL g s us L k).map En.cells))]) (fun k=>k≤L.length∧((L.take k).all fun p=>(pvR g s us p).2.2)=true) (fun k=>L.length-k) 0 ?_ ?_ ?_
 ·exact⟨Nat.zero_le _,rfl⟩
 ·exact(z7 10 8 (by simp)).trans (i7 (by simp[enL]))
 rintro n ⟨k1,k2⟩;simp only[zP,Nat.reduceEqDiff,reduceIte];refine b9 fun K2 hK2=>?_;refine aS fun K hK=>?_;simp -dsimp;apply hK;clear hK K;refine d9 rfl (fun hc0=>?_) (fun hc0=>?_)
 ·have hkl:n<L.length:=by simpa using hc0
  have wk:=zW n (by omega);obtain⟨p,hp⟩:∃p,L[n]?=some p:=⟨_,List.getElem?_eq_getElem hkl⟩;have hpm:=List.mem_of_getElem? hp;have hul:=o9 p;have hcvp:=hcv p hpm;have hp5:=h5 p hpm;have hRl:=b2X (g:=g) (s:=s) (us:=us) k1;have hRs:=b5c (g:=g) (s:=s) (us:=us) hp;generalize enL g s us L n=R at hRl hRs ⊢;refine e8 ?_;simp only[zT,reduceIte,Nat.reduceEqDiff];refine hK2 _ _ ?_;refine b7 [3,4,8,9,10,11] ?_;simp only[zP,Nat.reduceEqDiff,reduceIte];refine b9 fun K3 hK3=>?_;refine e7 ?_;refine v6 k7 rfl fun K hK=>?_;simp -dsimp [hp,pAV];refine b8 _ (hcvp) (by simp) ?_;simp -dsimp [hp,pAV];refine hK _ _ _ (by decide+kernel) ?_;clear hK K;refine b9 fun K4 hK4=>?_;refine aS fun K hK=>?_;simp -dsimp;apply hK;clear hK K;refine d9 rfl (fun hc1=>?_) (fun hc1=>?_)
  ·refine aS fun K hK=>?_;simp -dsimp;apply hK;clear hK K;have hf:(pvR g s us p).2.2=false:=by simpa using hc1
   have hall:(L.all fun p=>(pvR g s us p).2.2)=false:=by rw[List.all_eq_false];exact⟨p,hpm,by simp[hf]⟩
   exact f7 (by simp[hall])
  ·have hok:(pvR g s us p).2.2=true:=by simpa using hc1
   obtain⟨b1,t1,t2,t3,-⟩:=hpo p hpm (by rw[←hfl];exact hok);have hen:=hen p hpm (by rw[←hfl];exact hok);have hF12:=a6Q hnt (p:=p) rfl;have hfa:=fun b (hb:b<(m9 g s (upN p)).length)=>C8 hnt (p:=p) rfl hb;have hfd:=R6 g s (upN p) hnt.sf (by omega) (by omega);generalize m9 g s (upN p)=F at hen hF12 hfa hfd;obtain⟨v,hv⟩:∃v,v=(pvR g s us p).1:=⟨_,rfl⟩;obtain⟨d,hd⟩:∃d,d=(pvR g s us p).2.1:=⟨_,rfl⟩;rw[←hv]at t3 b1 hen ⊢;rw[←hd]at t1 t2 hen ⊢;have hX:=fun k=>b6R (p:=p) t3 k;have hxe:=fun i k (hk:p[i]?=some k)=>hxg p hpm v b1 i k hk;generalize xOf v p=X at hen hX hxe;refine e8 ?_;simp only[zT,reduceIte,Nat.reduceEqDiff];refine hK4 _ _ ?_;refine b7 [3,4,8,9,10,11,12,13] ?_;simp only[zP,Nat.reduceEqDiff,reduceIte];refine aS fun K hK=>?_;simp -dsimp;apply hK;clear hK K;refine v6 k7 rfl fun K hK=>?_;simp -dsimp [hp,pAV];refine b8 _ (hfd) (by simp) ?_;simp -dsimp [hp,pAV];refine hK _ _ _ (by decide+kernel) ?_;clear hK K;refine b9 fun K5 hK5=>?_;refine aS fun K hK=>?_;simp -dsimp;apply hK;clear hK K;refine e7 ?_;refine b7 [3,4,8,9,10,11,12,13,15,16,17,18,19] ?_;simp only[zP,Nat.reduceEqDiff,reduceIte];refine g7 [3,4,8,9,10,11,12,13,16,17,18] (α:=Nat) (fun i=>[(15,I (enG g (F.take i) X d)),(19,I i)]) (fun i=>[some (.els 4 [g.cells]),some (.els 2 [s.cells]),some (.els 8 (R.map En.cells))]) (fun i=>i≤F.length) (fun i=>F.length-i) 0 ?_ ?_ ?_
   ·exact Nat.zero_le _
   ·exact d8 [some 0,some 1,some 2] rfl (by simp[enG,sF]) (by simp)
   rintro i i1;simp only[zP,Nat.reduceEqDiff,reduceIte];refine b9 fun K6 hK6=>?_;refine aS fun K hK=>?_;simp -dsimp;apply hK;clear hK K;refine d9 rfl (fun hc2=>?_) (fun hc2=>?_)
   ·have hil:i<F.length:=by simpa using hc2
    have wi:=zW i (by omega);obtain⟨a1,a2,a3,a4,a5,a6,a7,a8,a9,a10⟩:=hfa i hil;obtain⟨f,hfq⟩:∃f:Nat,at0 F (i:Nat)=f:=⟨(at0 F (i:Nat)).toNat,by omega⟩;rw[hfq]at a1 a2 a3 a4 a5 a6 a7 a8 a9 a10;rw[Int.toNat_natCast]at a4;have hix:=N3 (upN p) (fdI g (f:Int)).At (by omega);rw[C7 a5 a6]at hix;have gv:=hxe _ _ (s6 a6);have hxb:=hX (fdI g (f:Int)).At.toNat;have hsn:=a9f (g:=g) (X:=X) (d:=d) a1;have hG:=a8y (g:=g) (F:=F.take i) (X:=X) (d:=d) (fun f' hf'=>by obtain⟨b,hb⟩:=List.getElem?_of_mem (List.mem_of_mem_take hf');have h1:=hfa b (List.getElem?_eq_some_iff.1 hb).1;rw[W5 hb]at h1;exact⟨h1.2.2.2.2.2.2.1,h1.2.2.2.2.2.2.2⟩) hX t1 t2;rw[List.length_take]at hG;generalize p.idxOf (fdI g (f:Int)).At.toNat=ix at hix gv;generalize X (fdI g (f:Int)).At.toNat=x at gv hxb hsn;have hvd:0≤(fdI g (f:Int)).Volts*d∧(fdI g (f:Int)).Volts*d≤2000000000000:=⟨Int.mul_nonneg (by omega) (by omega),Int.le_trans (Int.mul_le_mul a8 t2 (by omega) (by omega)) (by omega)⟩;have hft:=a7O (g:=g) (f:=(f:Int)) ⟨a7,a8,a9,a10⟩ (D:=(fdI g (f:Int)).Volts*d-x) (by omega);have w1:IntKind.i64.wrap ((fdI g (f:Int)).Volts*d)=(fdI g (f:Int)).Volts*d:=f6 (by omega) (by omega);have w2:IntKind.i64.wrap ((fdI g (f:Int)).Volts*d-x)=(fdI g (f:Int)).Volts*d-x:=f6 (by omega) (by omega);have hsd:(fdI g (f:Int)).Siem*((fdI g (f:Int)).Volts*d-x)≤40000000000000∧-40000000000000≤(fdI g (f:Int)).Siem*((fdI g (f:Int)).Volts*d-x):=by
     rcases(by omega:(fdI g (f:Int)).Siem=1∨(fdI g (f:Int)).Siem=2∨(fdI g (f:Int)).Siem=3∨(fdI g (f:Int)).Siem=4)with h|h|h|h<;>rw[h]<;>omega
    have w0:IntKind.i64.wrap ((fdI g (f:Int)).Siem*((fdI g (f:Int)).Volts*d-x))=(fdI g (f:Int)).Siem*((fdI g (f:Int)).Volts*d-x):=f6 (by omega) (by omega);have hm:(if 0<(fdI g (f:Int)).Siem*((fdI g (f:Int)).Volts*d-x)then(fdI g (f:Int)).Siem*((fdI g (f:Int)).Volts*d-x)else 0)=(fdI g (f:Int)).Siem*mx0 ((fdI g (f:Int)).Volts*d-x):=by rw[←b5t (show 0<(fdI g (f:Int)).Siem by omega)];rfl
    generalize (fdI g (f:Int)).Siem*mx0 ((fdI g (f:Int)).Volts*d-x)=m at hm hft hsn;have w3:IntKind.i64.wrap ((fdI g (f:Int)).Volts*m)=(fdI g (f:Int)).Volts*m:=f6 (by omega) (by omega);have w4:IntKind.i64.wrap (enG g (F.take i) X d+(fdI g (f:Int)).Volts*m)=enG g (F.take i) X d+(fdI g (f:Int)).Volts*m:=f6 (by omega) (by omega);refine e8 ?_;simp only[zT,reduceIte,Nat.reduceEqDiff];refine hK6 _ _ ?_;refine b7 [3,4,8,9,10,11,12,13,15,16,17,18,19] ?_;simp only[zP,Nat.reduceEqDiff,reduceIte];refine b9 fun K7 hK7=>?_;refine e7 ?_;refine v6 k7 rfl fun K hK=>?_;simp -dsimp [a1,a4];refine hK _ _ _ (by decide+kernel) ?_;clear hK K;refine F4 k7 rfl fun K hK=>?_;simp -dsimp [hp,pAV,gv,w0,w1,w2,hm,w3,w4];refine b8 _ (hix) (by simp) ?_;simp -dsimp [hp,pAV,gv,w0,w1,w2,hm,w3,w4];refine hK _ _ _ (by decide+kernel) ?_;clear hK K;simp only[zT,reduceIte,Nat.reduceEqDiff];refine hK7 _ _ ?_;refine b7 [3,4,8,9,10,11,12,13,15,16,17,18,19] ?_;simp only[zP,Nat.reduceEqDiff,reduceIte];refine aR fun K hK=>?_;simp -dsimp [wi];apply hK;clear hK K;simp only[zT,reduceIte,Nat.reduceEqDiff];exact⟨i+1,by omega,by omega,d8 [some 0,some 1,some 2] rfl (by simp[hsn]) (by simp)⟩
   ·have hie:¬i<F.length:=by simpa using hc2
    rw[show F.take i=F from List.take_of_length_le (by omega)];have hTa:=fun i=>b6t (us:=us) (p:=p.take i) hX hus;have hRa:=fun i=>b6v (us:=us) (p:=p.take i) hX hus;have hGa:=a8y (g:=g) (F:=F) (X:=X) (d:=d) (fun f' hf'=>by obtain⟨b,hb⟩:=List.getElem?_of_mem hf';have h1:=hfa b (List.getElem?_eq_some_iff.1 hb).1;rw[W5 hb]at h1;exact⟨h1.2.2.2.2.2.2.1,h1.2.2.2.2.2.2.2⟩) hX t1 t2;refine j0 ?_;simp only[zT,reduceIte,Nat.reduceEqDiff];refine hK5 _ _ ?_;refine b7 [3,4,8,9,10,11,12,13,15,16,17] ?_;simp only[zP,Nat.reduceEqDiff,reduceIte];refine b9 fun K8 hK8=>?_;refine aS fun K hK=>?_;simp -dsimp;apply hK;clear hK K;refine e7 ?_;refine b7 [3,4,8,9,10,11,12,13,15,16,17,21] ?_;simp only[zP,Nat.reduceEqDiff,reduceIte];refine g7 [3,4,8,9,10,11,12,13,15] (α:=Nat) (fun j=>[(16,I (enT us X (p.take j))),(17,I (enR us X (p.take j))),(21,I j)]) (fun j=>[some (.els 4 [g.cells]),some (.els 2 [s.cells]),some (.els 8 (R.map En.cells))]) (fun j=>j≤p.length) (fun j=>p.length-j) 0 ?_ ?_ ?_
    ·exact Nat.zero_le _
    ·exact d8 [some 0,some 1,some 2] rfl (by simp[enT,enR,sm]) (by simp)
    rintro j j1;simp only[zP,Nat.reduceEqDiff,reduceIte];refine b9 fun K9 hK9=>?_;refine aS fun K hK=>?_;simp -dsimp [b1];apply hK;clear hK K;refine d9 rfl (fun hc3=>?_) (fun hc3=>?_)
    ·have hjl:j<p.length:=by simpa [b1]using hc3
     have wj:=zW j (by omega);obtain⟨k,hk⟩:∃k,p[j]?=some k:=⟨_,List.getElem?_eq_getElem hjl⟩;have gk:=B8 hk;have gv:=hxe _ _ hk;have gc:=hcu p hpm k (List.mem_of_getElem? hk);have hTs:=a8K (us:=us) (X:=X) hk;have hRs':=a9m (us:=us) (X:=X) hk;have hT0:=hTa j;have hT1:=hTa (j+1);have hR0:=hRa j;have hR1:=hRa (j+1);rw[List.length_take]at hT0 hT1 hR0 hR1;have hu:=hus k;have n1:=a0y hX k (u:=igt us k) (by omega);have n2:=a0y hX k (u:=-igt us k) (by omega);have m1:(if 0<igt us k then igt us k else 0)=mx0 (igt us k):=rfl;have m2:(if igt us k<0 then-igt us k else 0)=mx0 (-igt us k):=by unfold mx0;split<;>split<;>omega
     have wn:IntKind.i64.wrap (-igt us k)=-igt us k:=f6 (by omega) (by omega);generalize mx0 (igt us k)=e1 at m1 n1 hTs;generalize mx0 (-igt us k)=e2 at m2 n2 hRs';have w5:IntKind.i64.wrap (X k*e1)=X k*e1:=f6 (by omega) (by omega);have w6:IntKind.i64.wrap (X k*e2)=X k*e2:=f6 (by omega) (by omega);have w7:IntKind.i64.wrap (enT us X (p.take j)+X k*e1)=enT us X (p.take j)+X k*e1:=f6 (by omega) (by omega);have w8:IntKind.i64.wrap (enR us X (p.take j)+X k*e2)=enR us X (p.take j)+X k*e2:=f6 (by omega) (by omega);refine e8 ?_;simp only[zT,reduceIte,Nat.reduceEqDiff];refine hK9 _ _ ?_;refine b7 [3,4,8,9,10,11,12,13,15,16,17,21] ?_;simp only[zP,Nat.reduceEqDiff,reduceIte];refine b9 fun K10 hK10=>?_;refine e7 ?_;refine aS fun K hK=>?_;simp -dsimp [hp,pAV,gk,gc];apply hK;clear hK K;refine F4 k7 rfl fun K hK=>?_;simp -dsimp [gv,wn,m1,m2,w5,w6,w7,w8];refine hK _ _ _ (by decide+kernel) ?_;clear hK K;simp only[zT,reduceIte,Nat.reduceEqDiff];refine hK10 _ _ ?_;refine b7 [3,4,8,9,10,11,12,13,15,16,17,21] ?_;simp only[zP,Nat.reduceEqDiff,reduceIte];refine aR fun K hK=>?_;simp -dsimp [wj];apply hK;clear hK K;simp only[zT,reduceIte,Nat.reduceEqDiff];exact⟨j+1,by omega,by omega,d8 [some 0,some 1,some 2] rfl (by simp[hTs,hRs']) (by simp)⟩
    ·have hje:¬j<p.length:=by simpa [b1]using hc3
     rw[show p.take j=p from List.take_of_length_le (by omega)];have hT:=hTa p.length;have hB:=hRa p.length;rw[List.take_length]at hT hB;have fr1:=a0b (enG g F X d) d t1 (by omega) (by omega) (by omega);have fr2:=a0b (enT us X p) d t1 (by omega) (by omega) (by omega);have fr3:=a0b (enR us X p) d t1 (by omega) (by omega) (by omega);have fr4:=a0b (enG g F X d+enR us X p-enT us X p) d t1 (by omega) (by omega) (by omega);have w7:IntKind.i64.wrap (enG g F X d+enR us X p)=enG g F X d+enR us X p:=f6 (by omega) (by omega);have w8:IntKind.i64.wrap (enG g F X d+enR us X p-enT us X p)=enG g F X d+enR us X p-enT us X p:=f6 (by omega) (by omega);have htR:List.take n (R.map En.cells)=R.map En.cells:=List.take_of_length_le (by simp;omega);have f2:D8 (n+1) 65:=j7 (by omega) (by omega);refine j0 ?_;simp only[zT,reduceIte,Nat.reduceEqDiff];refine hK8 _ _ ?_;refine b7 [3,4,8,9,10,11,13,15,16,17] ?_;simp only[zP,Nat.reduceEqDiff,reduceIte];refine aR fun K hK=>?_;simp -dsimp [w7,w8,f2,hRl,htR];refine b8 _ (fr1) (by simp) ?_;simp -dsimp [w7,w8,f2,hRl,htR];refine b8 _ (fr2) (by simp) ?_;simp -dsimp [w7,w8,f2,hRl,htR];refine b8 _ (fr3) (by simp) ?_;simp -dsimp [w7,w8,f2,hRl,htR];refine b8 _ (fr4) (by simp) ?_;simp -dsimp [w7,w8,f2,hRl,htR];apply hK;clear hK K;simp only[zT,reduceIte,Nat.reduceEqDiff];refine hK3 _ _ ?_;refine b7 [3,4,8,9,10,11] ?_;simp only[zP,Nat.reduceEqDiff,reduceIte];refine aR fun K hK=>?_;simp -dsimp [wk];apply hK;clear hK K;simp only[zT,reduceIte,Nat.reduceEqDiff];exact⟨n+1,⟨by omega,by rw[a1Q hp,k2,hok];rfl⟩,by omega,d8 [some 0,some 1,some 3] rfl (by simp) (by simp[hRs,hen,enE])⟩
 ·have hkl:¬n<L.length:=by simpa using hc0
  have hnl:n=L.length:=by omega
  subst hnl;rw[List.take_length]at k2;have hRl:=b2X (g:=g) (s:=s) (us:=us) k1;have htk:List.take L.length ((enL g s us L L.length).map En.cells)=(enL g s us L L.length).map En.cells:=List.take_of_length_le (by simp[hRl]);have hall:enL g s us L L.length=L.map (enP g s us):=by unfold enL;rw[List.take_length]
  refine j0 ?_;simp only[zT,reduceIte,Nat.reduceEqDiff];refine hK1 _ _ ?_;refine b7 [10] ?_;simp only[zP,Nat.reduceEqDiff,reduceIte];refine aS fun K hK=>?_;simp -dsimp;apply hK;clear hK K;exact f7 (by simp[k2,htk,hRl,hall])
end Go.Cur
end
section
namespace Go.Cur
open Go.AM Go.Proofs
theorem V1 (g:Gr) (s:Sta) (l:List Ld):(t4 g s l=false∧b0S g s l=2)∨(t4 g s l=true∧B6 g s=true∧b0S g s l=3)∨(t4 g s l=true∧B6 g s=false∧b0S g s l=0):=by
 unfold b0S
 cases t4 g s l<;>cases B6 g s<;>simp
theorem b7a {g:Gr} {s:Sta} (hl:b7l g s=true) (hlo:B6 g s=false):∀p∈j8 g s,p.length≤5:=fun p hp=>by
 unfold b7l at hl;rw[List.all_eq_true]at hl;unfold B6 at hlo;rw[List.any_eq_false]at hlo;have h1:=hl p hp;have h2:=hlo p hp;simp[b6W]at h1 h2;omega
end Go.Cur
end
