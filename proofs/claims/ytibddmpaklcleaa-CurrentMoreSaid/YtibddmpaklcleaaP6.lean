import Derived.Test.YtibddmpaklcleaaP5
import Derived.OpenShut
import Derived.ProofKit
import Derived.WalkKit
import Derived.Test.YtibddmpaklcleaaRows
set_option maxRecDepth 100000
set_option maxHeartbeats 8000000
set_option linter.unusedVariables false
set_option linter.unusedSimpArgs false
section
namespace Go.Cur
open Go.AM Go.Proofs
theorem c2b (g:Gr) (s:Sta) (ws:List Int) (l:List Ld) (hnt:o7 g s) (hw:∀w∈ws,0≤w∧w<s.Wires.length) (h:C4 g (A3 s.Wires ws) l) (hwl:ws.length≤1000):
  d6 Try.prog 60 [net g s,iL ws,lL l] (Bo (rlB g s ws l)):=by
 by_cases hwn:s.Wires=[]
 ·have hws:ws=[]:=by
   cases ws with
   |nil=>rfl
   |cons w ws=>
    have:=hw w (by simp);rw[hwn]at this;simp at this;omega
  subst hws
  by_cases hf:s.Feeds=[]
  ·exact a6m g s l hnt h hf hwn
  ·exact a6l g s l hnt h hf hwn
 ·by_cases hf:s.Feeds=[]
  ·exact a7l g s ws l hnt hw h hwl hf hwn
  ·exact a7J g s ws l hnt hw h hwl hf hwn
def fA:Option (List Int)→AV
 |none=> .v (.slice none 0 0)
 |some c=>iL c
@[simp] theorem c2V (g:List (Option Nat)) (k:Nat) (o:Option (List Int)):m9 g k (fA o)=fA o:=by
 cases o<;>cases k<;>rfl
@[simp] theorem c1S (k:Nat) (o:Option (List Int)):AV.noRef k (fA o)=true:=by
 cases o<;>cases k<;>rfl
theorem b9H (c:List Int):fA (some c)=iL c:=rfl
theorem b3M:fA none= .v (.slice none 0 0):=rfl
def chA (c:List Int):Option (List Int):=if c=[]then none else some c
def chF (rl:List Int→Bool):Nat→List Int→List Int→Option (List Int)→Bool×Option (List Int)
 |0,c,_,_=>(rl c,chA c)
 |d+1,c,r,f=>(List.range r.length).foldl (fun q i=>if q.1=true then q else chF rl d (c++[at0 r (i:Nat)]) (r.drop (i+1)) q.2) (false,f)
def chS (rl:List Int→Bool) (d:Nat) (c r:List Int) (q:Bool×Option (List Int)) (i:Nat):Bool×Option (List Int):=if q.1=true then q else chF rl d (c++[at0 r (i:Nat)]) (r.drop (i+1)) q.2
theorem a9d (rl:List Int→Bool) (d:Nat) (c r:List Int) (f:Option (List Int)):chF rl (d+1) c r f=(List.range r.length).foldl (chS rl d c r) (false,f):=rfl
theorem a5r (rl:List Int→Bool) (d:Nat) (c r:List Int) (q:Bool×Option (List Int)) (hq:q.1=true):∀l:List Nat,l.foldl (chS rl d c r) q=q
 |[]=>rfl
 |i::l=>by
  rw[List.foldl_cons,show chS rl d c r q i=q from if_pos hq];exact a5r rl d c r q hq l
theorem X6 {α:Type} (f:α→Nat→α) (x:α) {i n:Nat} (h:i≤n):(List.range n).foldl f x=((List.range (n-i)).map (fun j=>i+j)).foldl f ((List.range i).foldl f x):=by
 rw[←List.foldl_append]
 congr 1
 rw[show n=i+(n-i)by omega,List.range_add];simp
abbrev chR (g:Gr) (s:Sta) (l:List Ld) (f:Option (List Int)):Hp:=[some (.els 1 [[fA f]]),some (.els 1 [[net g s]]),some (.els 1 [[lL l]]),some (.els 1 [[.clo 59 [.ptr 0 0 0, .ptr 1 0 0, .ptr 2 0 0, .ptr 3 0 0]]])]
theorem c2l (t:List Int) (hne:t≠[]) (hn:t.length≤1000):g6 Try.prog 61 [iL t] [] [] (.row 0 0 t.length) [] [some (.els 1 (t.map j0))]:=by
 have f1:I9 t.length 9:=m8 (by omega) (by omega);refine g6.of_bodyG [] Try.func61 rfl (by decide) (by simp[Try.ntmps61]) rfl rfl ?_;intro J hJ;simp only[Try.ntmps61,Try.results61];refine gS fun K hK=>?_;simp -dsimp;apply hK;clear hK K;refine b9 fun K1 hK1=>?_;refine gS fun K hK=>?_;simp -dsimp [hne];apply hK;clear hK K;refine d9 rfl (fun hc0=>?_) (fun hc0=>?_)
 ·simp at hc0
 ·refine f6 ?_;simp only[zT,reduceIte,Nat.reduceEqDiff];refine hK1 _ _ ?_;refine b6 [0] (Or.inr (by simp)) ?_;simp only[zP,Nat.reduceEqDiff,reduceIte];refine gS fun K hK=>?_;simp -dsimp [hne,f1];apply hK;clear hK K;exact j6 ⟨[some 0],rfl,by simp,by simp,by simp,by simp[C2,n6]⟩
theorem b3E (g:Gr) (s:Sta) (l:List Ld) (rl:List Int→Bool) (c r:List Int) (f:Option (List Int)) (hc:c≠[]) (hrl:d6 Try.prog 60 [net g s,iL c,lL l] (Bo (rl c))):
  g6 Try.prog 59 [.row 4 0 c.length,iL r,I 0, .ptr 0 0 0, .ptr 1 0 0, .ptr 2 0 0, .ptr 3 0 0] (chR g s l f) [some (.els 1 (c.map j0))] (Bo (rl c)) (chR g s l (some c)) []:=by
 have htc:List.take c.length (c.map j0)=c.map j0:=List.take_of_length_le (by simp);refine g6.of_bodyG [3,4,5,6] Try.func59 rfl (by decide) (by simp[Try.ntmps59]) rfl rfl ?_;intro J hJ;simp only[Try.ntmps59,Try.results59];refine gS fun K hK=>?_;simp -dsimp;apply hK;clear hK K;refine b9 fun K1 hK1=>?_;refine gS fun K hK=>?_;simp -dsimp;apply hK;clear hK K;refine d9 rfl (fun hc0=>?_) (fun hc0=>?_)
 ·refine gS fun K hK=>?_;simp -dsimp;apply hK;clear hK K;refine gS fun K hK=>?_;simp -dsimp [htc];refine d5 _ (hrl) (by simp) ?_;simp -dsimp [htc];apply hK;clear hK K;refine p9 (o1 (D5 (T':=[(3, .ptr 0 0 0),(4, .ptr 1 0 0),(5, .ptr 2 0 0),(6, .ptr 3 0 0),(10,Bo (rl c))]) (H':=chR g s l (some c)) [some 0,some 1,some 2,some 3] rfl ⟨.inr (by simp), .inr (by simp), .inr (by simp), .inr (by simp), .inr (by simp),trivial⟩ (by simp[htc,b9H])) (by simp)) ?_;exact j6 ⟨[some 0,some 1,some 2,some 3],rfl,by simp,by simp,by simp,by simp[C2,n6]⟩
 ·simp at hc0
theorem b0Z (g:Gr) (s:Sta) (l:List Ld) (rl:List Int→Bool) (r:List Int) (f:Option (List Int)) (hrl:d6 Try.prog 60 [net g s, .v (.slice none 0 0),lL l] (Bo (rl []))):
  g6 Try.prog 59 [.v (.slice none 0 0),iL r,I 0, .ptr 0 0 0, .ptr 1 0 0, .ptr 2 0 0, .ptr 3 0 0] (chR g s l f) [] (Bo (rl [])) (chR g s l none) []:=by
 refine g6.of_bodyG [3,4,5,6] Try.func59 rfl (by decide) (by simp[Try.ntmps59]) rfl rfl ?_;intro J hJ;simp only[Try.ntmps59,Try.results59];refine gS fun K hK=>?_;simp -dsimp;apply hK;clear hK K;refine b9 fun K1 hK1=>?_;refine gS fun K hK=>?_;simp -dsimp;apply hK;clear hK K;refine d9 rfl (fun hc0=>?_) (fun hc0=>?_)
 ·refine gS fun K hK=>?_;simp -dsimp;apply hK;clear hK K;refine gS fun K hK=>?_;simp -dsimp;refine d5 _ (hrl) (by simp) ?_;simp -dsimp;apply hK;clear hK K;exact j6 ⟨[some 0,some 1,some 2,some 3],rfl,by simp,by simp[b3M],by simp,by simp[C2,n6]⟩
 ·simp at hc0
theorem b3Y (g:Gr) (s:Sta) (l:List Ld) (rl:List Int→Bool) (d:Nat) (c r:List Int) (f:Option (List Int)) (hd:d≤100) (hc:c≠[]) (hcl:c.length≤900) (hr:r.length≤1000)
  (hb:∀(i:Nat) (f:Option (List Int)),i<r.length→g6 Try.prog 59 [.row 4 0 (c++[at0 r i]).length,iL (r.drop (i+1)),I d, .ptr 0 0 0, .ptr 1 0 0, .ptr 2 0 0, .ptr 3 0 0] (chR g s l f) [some (.els 1 ((c++[at0 r i]).map j0))] (Bo (chF rl d (c++[at0 r i]) (r.drop (i+1)) f).1) (chR g s l (chF rl d (c++[at0 r i]) (r.drop (i+1)) f).2) []):
  g6 Try.prog 59 [.row 4 0 c.length,iL r,I (d+1:Nat), .ptr 0 0 0, .ptr 1 0 0, .ptr 2 0 0, .ptr 3 0 0] (chR g s l f) [some (.els 1 (c.map j0))] (Bo (chF rl (d+1) c r f).1) (chR g s l (chF rl (d+1) c r f).2) []:=by
 have htc:List.take c.length (c.map j0)=c.map j0:=List.take_of_length_le (by simp);have f1:I9 (c.length+1) 9:=m8 (by omega) (by omega);rw[a9d];refine g6.of_bodyG [3,4,5,6] Try.func59 rfl (by decide) (by simp[Try.ntmps59]) rfl rfl ?_;intro J hJ;simp only[Try.ntmps59,Try.results59];refine gS fun K hK=>?_;simp -dsimp;apply hK;clear hK K;refine b9 fun K1 hK1=>?_;refine gS fun K hK=>?_;simp -dsimp;apply hK;clear hK K;refine d9 rfl (fun hc0=>?_) (fun hc0=>?_)
 ·exfalso;simp at hc0;omega
 ·refine f6 ?_;simp only[zT,reduceIte,Nat.reduceEqDiff];refine hK1 _ _ ?_;refine b6 [0,1,2,3,4,5,6] (Or.inr (by simp)) ?_;simp only[zP,Nat.reduceEqDiff,reduceIte];refine b9 fun K2 hK2=>?_;refine gS fun K hK=>?_;simp -dsimp;apply hK;clear hK K;refine d7 ?_;refine b6 [0,1,2,3,4,5,6,20,21,22] (Or.inr (by simp)) ?_;simp only[zP,Nat.reduceEqDiff,reduceIte];refine g9 [0,1,2,3,4,5,6,20,21] (α:=Nat×Option (List Int)) (fun x=>[(22,I x.1)]) (fun x=>chR g s l x.2++[some (.els 1 (c.map j0))]) (fun x=>x.1≤r.length∧(List.range x.1).foldl (chS rl d c r) (false,f)=(false,x.2)) (fun x=>r.length-x.1) (0,f) ?_ ?_ ?_
  ·exact⟨Nat.zero_le _,rfl⟩
  ·exact o1 (e9 [some 0,some 1,some 2,some 3,some 4] rfl (by simp) (by simp)) (by simp)
  rintro⟨i,fi⟩ ⟨k1,k2⟩;simp only at k1 k2 ⊢;simp only[zP,Nat.reduceEqDiff,reduceIte];refine gS fun K hK=>?_;simp -dsimp;apply hK;clear hK K;refine b9 fun K3 hK3=>?_;refine d9 rfl (fun hc1=>?_) (fun hc1=>?_)
  ·have hil:i<r.length:=by simpa using hc1
   have wi:=zW i (by omega);have wd:IntKind.i64.wrap (d:Int)=(d:Int):=f7 (by omega) (by omega);have gr:=C3 hil;have hcall:=hb i fi hil;have hst:(List.range (i+1)).foldl (chS rl d c r) (false,f)=chF rl d (c++[at0 r i]) (r.drop (i+1)) fi:=by rw[List.range_succ,List.foldl_append,k2];rfl
   generalize chF rl d (c++[at0 r i]) (r.drop (i+1)) fi=q at hcall hst;refine f6 ?_;simp only[zT,reduceIte,Nat.reduceEqDiff];refine hK3 _ _ ?_;refine b6 [0,1,2,3,4,5,6,20,21,22] (Or.inr (by simp)) ?_;simp only[zP,Nat.reduceEqDiff,reduceIte];refine b9 fun K4 hK4=>?_;refine d7 ?_;refine gS fun K hK=>?_;simp -dsimp [gr];apply hK;clear hK K;refine w9 l9 rfl (by decide) rfl rfl fun K hK=>?_;simp -dsimp [htc,wi,wd,f1,(by omega:(0:Int)≤(i:Int)+1),(by omega:i+1≤r.length)];refine F0 [] [] [none,none,none,none,none,some 0] (c2l c hc (by omega)) (by decide) rfl (by simp) (by simp) rfl (by simp) (by simp) (by simp) ?_;simp -dsimp [htc,wi,wd,f1,(by omega:(0:Int)≤(i:Int)+1),(by omega:i+1≤r.length)];refine k9 [0,1,2,3] [6] [some 0,some 1,some 2,some 3,none,none,none] (hcall) (by decide) rfl (by simp) (by simp) rfl (by simp) ?_;simp -dsimp [htc,wi,wd,f1,(by omega:(0:Int)≤(i:Int)+1),(by omega:i+1≤r.length)];refine hK _ _ _ (by decide+kernel) ?_;clear hK K;refine d9 rfl (fun hc2=>?_) (fun hc2=>?_)
   ·refine gS fun K hK=>?_;simp -dsimp;apply hK;clear hK K;have hfin:(List.range r.length).foldl (chS rl d c r) (false,f)=q:=by rw[X6 _ _ (show i+1≤r.length by omega),hst];exact a5r _ _ _ _ _ hc2 _
    rw[hfin];exact j6 ⟨[some 0,some 1,some 2,some 3],rfl,by simp,by simp,by simp,by simp[C2,n6,hc2]⟩
   ·refine f6 ?_;simp only[zT,reduceIte,Nat.reduceEqDiff];refine hK4 _ _ ?_;refine b6 [0,1,2,3,4,5,6,20,21,22] (Or.inr (by simp)) ?_;simp only[zP,Nat.reduceEqDiff,reduceIte];refine gR fun K hK=>?_;simp -dsimp [wi];apply hK;clear hK K;simp only[zT,reduceIte,Nat.reduceEqDiff];exact⟨(i+1,q.2),⟨by simp only;omega,by rw[hst];exact Prod.ext hc2 rfl⟩,by simp only;omega,o1 (e9 [some 0,some 1,some 2,some 3,some 4] rfl (by simp) (by simp)) (by simp)⟩
  ·have hie:i=r.length:=by have hn:¬i<r.length:=(by simpa using hc1);omega
   subst hie;refine i6 ?_;simp only[zT,reduceIte,Nat.reduceEqDiff];refine hK2 _ _ ?_;refine b6 [3,4,5,6] (Or.inr (by simp)) ?_;simp only[zP,Nat.reduceEqDiff,reduceIte];refine gS fun K hK=>?_;simp -dsimp;apply hK;clear hK K;rw[k2];exact j6 ⟨[some 0,some 1,some 2,some 3],rfl,by simp,by simp,by simp,by simp[C2,n6]⟩
theorem a7k:d6 Try.prog 61 [.v (.slice none 0 0)] (.v (.slice none 0 0)):=by
 refine d6.of_body Try.func61 rfl (by decide) (by simp[Try.ntmps61]) ?_;simp only[Try.ntmps61,Try.results61];refine aS fun K hK=>?_;simp -dsimp;apply hK;clear hK K;refine b8 fun K1 hK1=>?_;refine aS fun K hK=>?_;simp -dsimp;apply hK;clear hK K;refine d8 rfl (fun hc0=>?_) (fun hc0=>?_)
 ·refine aS fun K hK=>?_;simp -dsimp;apply hK;clear hK K;exact g7 (by simp)
 ·simp at hc0
theorem b1a (g:Gr) (s:Sta) (l:List Ld) (rl:List Int→Bool) (d:Nat) (r:List Int) (f:Option (List Int)) (hd:d≤100) (hr:r.length≤1000)
  (hb:∀(i:Nat) (f:Option (List Int)),i<r.length→g6 Try.prog 59 [.row 4 0 [at0 r i].length,iL (r.drop (i+1)),I d, .ptr 0 0 0, .ptr 1 0 0, .ptr 2 0 0, .ptr 3 0 0] (chR g s l f) [some (.els 1 ([at0 r i].map j0))] (Bo (chF rl d [at0 r i] (r.drop (i+1)) f).1) (chR g s l (chF rl d [at0 r i] (r.drop (i+1)) f).2) []):
  g6 Try.prog 59 [.v (.slice none 0 0),iL r,I (d+1:Nat), .ptr 0 0 0, .ptr 1 0 0, .ptr 2 0 0, .ptr 3 0 0] (chR g s l f) [] (Bo (chF rl (d+1) [] r f).1) (chR g s l (chF rl (d+1) [] r f).2) []:=by
 have f1:I9 1 9:=m8 (by omega) (by omega);rw[a9d];refine g6.of_bodyG [3,4,5,6] Try.func59 rfl (by decide) (by simp[Try.ntmps59]) rfl rfl ?_;intro J hJ;simp only[Try.ntmps59,Try.results59];refine gS fun K hK=>?_;simp -dsimp;apply hK;clear hK K;refine b9 fun K1 hK1=>?_;refine gS fun K hK=>?_;simp -dsimp;apply hK;clear hK K;refine d9 rfl (fun hc0=>?_) (fun hc0=>?_)
 ·exfalso;simp at hc0;omega
 ·refine f6 ?_;simp only[zT,reduceIte,Nat.reduceEqDiff];refine hK1 _ _ ?_;refine b6 [0,1,2,3,4,5,6] (Or.inr (by simp)) ?_;simp only[zP,Nat.reduceEqDiff,reduceIte];refine b9 fun K2 hK2=>?_;refine gS fun K hK=>?_;simp -dsimp;apply hK;clear hK K;refine d7 ?_;refine b6 [0,1,2,3,4,5,6,20,21,22] (Or.inr (by simp)) ?_;simp only[zP,Nat.reduceEqDiff,reduceIte];refine g9 [0,1,2,3,4,5,6,20,21] (α:=Nat×Option (List Int)) (fun x=>[(22,I x.1)]) (fun x=>chR g s l x.2) (fun x=>x.1≤r.length∧(List.range x.1).foldl (chS rl d [] r) (false,f)=(false,x.2)) (fun x=>r.length-x.1) (0,f) ?_ ?_ ?_
  ·exact⟨Nat.zero_le _,rfl⟩
  ·exact o1 (e9 [some 0,some 1,some 2,some 3] rfl (by simp) (by simp)) (by simp)
  rintro⟨i,fi⟩ ⟨k1,k2⟩;simp only at k1 k2 ⊢;simp only[zP,Nat.reduceEqDiff,reduceIte];refine gS fun K hK=>?_;simp -dsimp;apply hK;clear hK K;refine b9 fun K3 hK3=>?_;refine d9 rfl (fun hc1=>?_) (fun hc1=>?_)
  ·have hil:i<r.length:=by simpa using hc1
   have wi:=zW i (by omega);have wd:IntKind.i64.wrap (d:Int)=(d:Int):=f7 (by omega) (by omega);have gr:=C3 hil;have hcall:=hb i fi hil;have hst:(List.range (i+1)).foldl (chS rl d [] r) (false,f)=chF rl d [at0 r i] (r.drop (i+1)) fi:=by rw[List.range_succ,List.foldl_append,k2];rfl
   generalize chF rl d [at0 r i] (r.drop (i+1)) fi=q at hcall hst;refine f6 ?_;simp only[zT,reduceIte,Nat.reduceEqDiff];refine hK3 _ _ ?_;refine b6 [0,1,2,3,4,5,6,20,21,22] (Or.inr (by simp)) ?_;simp only[zP,Nat.reduceEqDiff,reduceIte];refine b9 fun K4 hK4=>?_;refine d7 ?_;refine gS fun K hK=>?_;simp -dsimp [gr];apply hK;clear hK K;refine w9 l9 rfl (by decide) rfl rfl fun K hK=>?_;simp -dsimp [wi,wd,(by omega:(0:Int)≤(i:Int)+1),(by omega:i+1≤r.length),f1];refine d5 _ (a7k) (by simp) ?_;simp -dsimp [wi,wd,(by omega:(0:Int)≤(i:Int)+1),(by omega:i+1≤r.length),f1];refine k9 [0,1,2,3] [4] [some 0,some 1,some 2,some 3,none] (hcall) (by decide) rfl (by simp) (by simp) rfl (by simp) ?_;simp -dsimp [wi,wd,(by omega:(0:Int)≤(i:Int)+1),(by omega:i+1≤r.length),f1];refine hK _ _ _ (by decide+kernel) ?_;clear hK K;refine d9 rfl (fun hc2=>?_) (fun hc2=>?_)
   ·refine gS fun K hK=>?_;simp -dsimp;apply hK;clear hK K;have hfin:(List.range r.length).foldl (chS rl d [] r) (false,f)=q:=by rw[X6 _ _ (show i+1≤r.length by omega),hst];exact a5r _ _ _ _ _ hc2 _
    rw[hfin];exact j6 ⟨[some 0,some 1,some 2,some 3],rfl,by simp,by simp,by simp,by simp[C2,n6,hc2]⟩
   ·refine f6 ?_;simp only[zT,reduceIte,Nat.reduceEqDiff];refine hK4 _ _ ?_;refine b6 [0,1,2,3,4,5,6,20,21,22] (Or.inr (by simp)) ?_;simp only[zP,Nat.reduceEqDiff,reduceIte];refine gR fun K hK=>?_;simp -dsimp [wi];apply hK;clear hK K;simp only[zT,reduceIte,Nat.reduceEqDiff];exact⟨(i+1,q.2),⟨by simp only;omega,by rw[hst];exact Prod.ext hc2 rfl⟩,by simp only;omega,o1 (e9 [some 0,some 1,some 2,some 3] rfl (by simp) (by simp)) (by simp)⟩
  ·have hie:i=r.length:=by have hn:¬i<r.length:=(by simpa using hc1);omega
   subst hie;refine i6 ?_;simp only[zT,reduceIte,Nat.reduceEqDiff];refine hK2 _ _ ?_;refine b6 [3,4,5,6] (Or.inr (by simp)) ?_;simp only[zP,Nat.reduceEqDiff,reduceIte];refine gS fun K hK=>?_;simp -dsimp;apply hK;clear hK K;rw[k2];exact j6 ⟨[some 0,some 1,some 2,some 3],rfl,by simp,by simp,by simp,by simp[C2,n6]⟩
theorem c2X (g:Gr) (s:Sta) (l:List Ld) (rl:List Int→Bool) (off:List Int) (hol:off.length≤6) (hrl:∀c:List Int,(∀x∈c,x∈off)→c.length≤900→d6 Try.prog 60 [net g s,iL c,lL l] (Bo (rl c))):
  ∀(d:Nat) (c r:List Int) (f:Option (List Int)),c≠[]→(∀x∈c,x∈off)→(∀x∈r,x∈off)→r.length≤6→c.length+d≤100→
   g6 Try.prog 59 [.row 4 0 c.length,iL r,I d, .ptr 0 0 0, .ptr 1 0 0, .ptr 2 0 0, .ptr 3 0 0] (chR g s l f) [some (.els 1 (c.map j0))] (Bo (chF rl d c r f).1) (chR g s l (chF rl d c r f).2) []
 |0,c,r,f,hc,hco,hro,hr,hcd=>by
  have e:chA c=some c:=if_neg hc;show g6 _ _ _ _ _ (Bo (rl c)) (chR g s l (chA c)) [];rw[e];exact b3E g s l rl c r f hc (hrl c hco (by omega))
 |d+1,c,r,f,hc,hco,hro,hr,hcd=>by
  refine b3Y g s l rl d c r f (by omega) hc (by omega) (by omega) fun i f' hi=>?_;refine c2X g s l rl off hol hrl d (c++[at0 r i]) (r.drop (i+1)) f' (by simp) (fun x hx=>?_) (fun x hx=>hro x (List.mem_of_mem_drop hx)) (by simp;omega) (by simp;omega)
  rcases List.mem_append.1 hx with h|h
  ·exact hco x h
  ·rw[List.mem_singleton.1 h];exact hro _ (List.mem_of_getElem? (C3 hi))
theorem c2g (g:Gr) (s:Sta) (l:List Ld) (rl:List Int→Bool) (off:List Int) (hol:off.length≤6) (hrl:∀c:List Int,(∀x∈c,x∈off)→c.length≤900→d6 Try.prog 60 [net g s,iL c,lL l] (Bo (rl c))) (d:Nat) (f:Option (List Int)) (hd:d≤6):
  g6 Try.prog 59 [.v (.slice none 0 0),iL off,I d, .ptr 0 0 0, .ptr 1 0 0, .ptr 2 0 0, .ptr 3 0 0] (chR g s l f) [] (Bo (chF rl d [] off f).1) (chR g s l (chF rl d [] off f).2) []:=by
 cases d with
 | zero=>
  refine b0Z g s l rl off f ?_;refine d6.argR (hrl [] (by simp) (by simp)) rfl fun i c c' h1 h2 w S y h=>?_
  match i,h1,h2 with
  |0,h1,h2=>
   simp only[List.getElem?_cons_zero,Option.some.injEq]at h1 h2;rw[←h2,h1];exact h
  |1,h1,h2=>
   simp only[List.getElem?_cons_succ,List.getElem?_cons_zero,Option.some.injEq]at h1 h2;rw[←h2];rw[←h1]at h;exact b3J h
  |2,h1,h2=>
   simp only[List.getElem?_cons_succ,List.getElem?_cons_zero,Option.some.injEq]at h1 h2;rw[←h2,h1];exact h
  |i+3,h1,h2=>simp at h1
 |succ d=>
  refine b1a g s l rl d off f (by omega) (by omega) fun i f' hi=>?_;refine c2X g s l rl off hol hrl d [at0 off i] (off.drop (i+1)) f' (by simp) (fun x hx=>?_) (fun x hx=>List.mem_of_mem_drop hx) (by simp;omega) (by simp;omega);rw[List.mem_singleton.1 hx];exact List.mem_of_getElem? (C3 hi)
def c1K (wi:List Bool) (s:List Int) (i:Nat):List Int:=if bAt wi i=true then s else s++[(i:Int)]
def b1k (wi:List Bool) (n:Nat):List Int:=(List.range n).foldl (c1K wi) []
theorem a5G (wi:List Bool) (n:Nat):b1k wi (n+1)=c1K wi (b1k wi n) n:=by
 unfold b1k;rw[List.range_succ,List.foldl_append];rfl
theorem a4U (wi:List Bool):∀n,(b1k wi n).length≤n
 |0=>by simp[b1k]
 |n+1=>by
  have:=a4U wi n;rw[a5G];unfold c1K
  split
  ·omega
  ·simp;omega
def c1e (rl:List Int→Bool) (off:List Int) (q:Bool×Option (List Int)) (k:Nat):Bool×Option (List Int):=if q.1=true then q else chF rl k [] off q.2
def b6s (rl:List Int→Bool) (off:List Int):Bool×Option (List Int):=(List.range (off.length+1)).foldl (c1e rl off) (false,none)
theorem a2R (rl:List Int→Bool) (off:List Int) (q:Bool×Option (List Int)) (hq:q.1=true):∀l:List Nat,l.foldl (c1e rl off) q=q
 |[]=>rfl
 |i::l=>by
  rw[List.foldl_cons,show c1e rl off q i=q from if_pos hq];exact a2R rl off q hq l
theorem b0P (g:Gr) (s:Sta) (l:List Ld) (hl:l.length≤1000) (hf:t7 g s l=true) (off:List Int) (hoff:off=b1k s.Wires s.Wires.length) (rl:List Int→Bool)
  (hrl:off.length≤6→∀c:List Int,(∀x∈c,x∈off)→c.length≤900→d6 Try.prog 60 [net g s,iL c,lL l] (Bo (rl c))) (res:AV)
  (h6:6<off.length→res= .tup [.v (.slice none 0 0),I 2]) (ht:off.length≤6→(b6s rl off).1=true→res= .tup [fA (b6s rl off).2,I 0]) (hn:off.length≤6→(b6s rl off).1=false→res= .tup [.v (.slice none 0 0),I 4]):
  d6 Try.prog 35 [g.av,s.av,lL l] res:=by
 have hb:=R2 g s l hl hf;have hnt:=u6 hf;have hbd:=t9 hnt.gr;have hsw:=hnt.sw;have hlo:off.length≤s.Wires.length:=by rw[hoff];exact a4U _ _
 refine d6.of_bodyG Try.func35 rfl (by decide) (by simp[Try.ntmps35]) ?_;intro J hJ;simp only[Try.ntmps35,Try.results35];refine gS fun K hK=>?_;simp -dsimp;apply hK;clear hK K;refine gS fun K hK=>?_;simp -dsimp;refine d5 _ (hb) (by simp) ?_;simp -dsimp;apply hK;clear hK K;refine b9 fun K1 hK1=>?_;refine gS fun K hK=>?_;simp -dsimp;apply hK;clear hK K;refine d9 rfl (fun hc0=>?_) (fun hc0=>?_)
 ·simp at hc0
 ·refine f6 ?_;simp only[zT,reduceIte,Nat.reduceEqDiff];refine hK1 _ _ ?_;refine b6 [4,5,8] (Or.inr (by simp)) ?_;simp only[zP,Nat.reduceEqDiff,reduceIte];refine gS fun K hK=>?_;simp -dsimp;apply hK;clear hK K;refine b9 fun K2 hK2=>?_;refine gS fun K hK=>?_;simp -dsimp;apply hK;clear hK K;refine d7 ?_;refine b6 [5,8,10,26,27,28] (Or.inr (by simp)) ?_;simp only[zP,Nat.reduceEqDiff,reduceIte];refine g9 [5,8,26,27] (α:=Nat) (fun k=>[(10, .row 4 0 (b1k s.Wires k).length),(28,I k)]) (fun k=>[some (.els 4 [g.cells]),some (.els 2 [s.cells]),some (.els 1 [[lL l]]),some (.els 1 [[net g s]]),some (.els 1 ((b1k s.Wires k).map j0))]) (fun k=>k≤s.Wires.length) (fun k=>s.Wires.length-k) 0 ?_ ?_ ?_
  ·exact Nat.zero_le _
  ·exact o1 ((H4 10 1 (by simp)).trans (e9 [some 0,some 1,some 2,some 3,some 4] rfl (by simp[b1k]) (by simp[b1k]))) (by simp)
  rintro k k1;simp only[zP,Nat.reduceEqDiff,reduceIte];refine gS fun K hK=>?_;simp -dsimp;apply hK;clear hK K;refine b9 fun K3 hK3=>?_;refine d9 rfl (fun hc1=>?_) (fun hc1=>?_)
  ·have hkl:k<s.Wires.length:=by simpa using hc1
   have wk:=zW k (by omega);have gb:=v9 (l:=s.Wires) (k:=k) hkl;have hos:=a5G s.Wires k;unfold c1K at hos;have hol:=a4U s.Wires k;have f1:I9 ((b1k s.Wires k).length+1) 9:=m8 (by omega) (by omega);refine f6 ?_;simp only[zT,reduceIte,Nat.reduceEqDiff];refine hK3 _ _ ?_;refine b6 [5,8,10,26,27,28] (Or.inr (by simp)) ?_;simp only[zP,Nat.reduceEqDiff,reduceIte];refine b9 fun K4 hK4=>?_;refine d7 ?_;refine gS fun K hK=>?_;simp -dsimp [gb];apply hK;clear hK K;refine gS fun K hK=>?_;simp -dsimp;apply hK;clear hK K;refine d9 rfl (fun hc2=>?_) (fun hc2=>?_)
   ·have hbf:bAt s.Wires k=false:=by simpa using hc2
    refine gR fun K hK=>?_;simp -dsimp [f1];apply hK;clear hK K;simp only[zT,reduceIte,Nat.reduceEqDiff];refine hK4 _ _ ?_;refine b6 [5,8,10,26,27,28] (Or.inr (by simp)) ?_;simp only[zP,Nat.reduceEqDiff,reduceIte];refine gR fun K hK=>?_;simp -dsimp [wk];apply hK;clear hK K;simp only[zT,reduceIte,Nat.reduceEqDiff];rw[if_neg (by simp[hbf])]at hos;exact⟨k+1,by omega,by omega,o1 (e9 [some 0,some 1,some 2,some 3,some 5] rfl (by simp[hos]) (by simp[hos])) (by simp)⟩
   ·have hbt:bAt s.Wires k=true:=by simpa using hc2
    refine f6 ?_;simp only[zT,reduceIte,Nat.reduceEqDiff];refine hK4 _ _ ?_;refine b6 [5,8,10,26,27,28] (Or.inr (by simp)) ?_;simp only[zP,Nat.reduceEqDiff,reduceIte];refine gR fun K hK=>?_;simp -dsimp [wk];apply hK;clear hK K;simp only[zT,reduceIte,Nat.reduceEqDiff];rw[if_pos hbt]at hos;exact⟨k+1,by omega,by omega,o1 (e9 [some 0,some 1,some 2,some 3,some 4] rfl (by simp[hos]) (by simp[hos])) (by simp)⟩
  ·have hke:k=s.Wires.length:=by have hn:¬k<s.Wires.length:=(by simpa using hc1);omega
   subst hke;rw[←hoff];have hto:List.take off.length (off.map j0)=off.map j0:=List.take_of_length_le (by simp);refine i6 ?_;simp only[zT,reduceIte,Nat.reduceEqDiff];refine hK2 _ _ ?_;refine b6 [5,8,10] (Or.inr (by simp)) ?_;simp only[zP,Nat.reduceEqDiff,reduceIte];refine b9 fun K5 hK5=>?_;refine p9 (o1 (D5 (T':=[(5, .ptr 0 0 0),(8, .ptr 1 0 0),(10,iL off)]) (H':=[some (.els 1 [[lL l]]),some (.els 1 [[net g s]])]) [some 2,some 3] rfl ⟨.inr (by simp), .inr (by simp), .inr (by simp[hto]),trivial⟩ (by simp)) (by simp)) ?_
   ·refine gS fun K hK=>?_;simp -dsimp;apply hK;clear hK K;refine d9 rfl (fun hc3=>?_) (fun hc3=>?_)
    ·refine gS fun K hK=>?_;simp -dsimp;apply hK;clear hK K;have h6':6<off.length:=by have:=(by simpa using hc3:(6:Int)<off.length);omega
     exact j6 (by simp[h6 h6',C2,n6])
    ·have hl6:off.length≤6:=by have:=(by simpa using hc3:(off.length:Int)≤6);omega
     have hch:=c2g g s l rl off hl6 (hrl hl6);have wo:IntKind.i64.wrap ((off.length:Int)+1)=(off.length:Int)+1:=f7 (by omega) (by omega);refine f6 ?_;simp only[zT,reduceIte,Nat.reduceEqDiff];refine hK5 _ _ ?_;refine b6 [5,8,10] (Or.inr (by simp)) ?_;simp only[zP,Nat.reduceEqDiff,reduceIte];refine gS fun K hK=>?_;simp -dsimp;apply hK;clear hK K;refine gS fun K hK=>?_;simp -dsimp;apply hK;clear hK K;refine gS fun K hK=>?_;simp -dsimp;apply hK;clear hK K;refine b9 fun K6 hK6=>?_;refine gS fun K hK=>?_;simp -dsimp [wo];apply hK;clear hK K;refine d7 ?_;refine b6 [10,13,14,46,47] (Or.inr (by simp)) ?_;simp only[zP,Nat.reduceEqDiff,reduceIte];refine g9 [10,13,14,46] (α:=Nat×Option (List Int)) (fun x=>[(47,I x.1)]) (fun x=>[some (.els 1 [[lL l]]),some (.els 1 [[net g s]]),some (.els 1 [[fA x.2]]),some (.els 1 [[.clo 59 [.ptr 2 0 0, .ptr 1 0 0, .ptr 0 0 0, .ptr 3 0 0]]])]) (fun x=>x.1≤off.length+1∧(List.range x.1).foldl (c1e rl off) (false,none)=(false,x.2)) (fun x=>off.length+1-x.1) (0,none) ?_ ?_ ?_
     ·exact⟨Nat.zero_le _,rfl⟩
     ·exact o1 (e9 [some 0,some 1,some 2,some 3] rfl (by simp) (by simp[b3M])) (by simp)
     rintro⟨k,f⟩ ⟨k1,k2⟩;simp only at k1 k2 ⊢;simp only[zP,Nat.reduceEqDiff,reduceIte];refine gS fun K hK=>?_;simp -dsimp;apply hK;clear hK K;refine b9 fun K7 hK7=>?_;refine d9 rfl (fun hc4=>?_) (fun hc4=>?_)
     ·have hko:k≤off.length:=by have:=(by simpa using hc4:(k:Int)<off.length+1);omega
      have wk:=zW k (by omega);have hcall:=hch k f (by omega);have hst:(List.range (k+1)).foldl (c1e rl off) (false,none)=chF rl k [] off f:=by rw[List.range_succ,List.foldl_append,k2];rfl
      generalize chF rl k [] off f=q at hcall hst;refine f6 ?_;simp only[zT,reduceIte,Nat.reduceEqDiff];refine hK7 _ _ ?_;refine b6 [10,13,14,46,47] (Or.inr (by simp)) ?_;simp only[zP,Nat.reduceEqDiff,reduceIte];refine b9 fun K8 hK8=>?_;refine d7 ?_;refine gS fun K hK=>?_;simp -dsimp;apply hK;clear hK K;refine gS fun K hK=>?_;simp -dsimp;refine k9 [2,1,0,3] [] [some 2,some 1,some 0,some 3] (hcall) (by decide) rfl (by simp) (by simp) rfl (by simp) ?_;simp -dsimp;apply hK;clear hK K;refine d9 rfl (fun hc5=>?_) (fun hc5=>?_)
      ·obtain⟨o,ho⟩:∃o,q.2=o:=⟨_,rfl⟩;rw[ho]
       rcases o with _|cc
       ·refine gS fun K hK=>?_;simp -dsimp [fA];apply hK;clear hK K;have hfin:b6s rl off=q:=by unfold b6s;rw[X6 _ _ (show k+1≤off.length+1 by omega),hst];exact a2R _ _ _ hc5 _
        have hr:=ht hl6 (by rw[hfin];exact hc5);rw[hfin]at hr;exact j6 (by simp[hr,ho,fA,C2,n6])
       ·refine gS fun K hK=>?_;simp -dsimp [fA];apply hK;clear hK K;have hfin:b6s rl off=q:=by unfold b6s;rw[X6 _ _ (show k+1≤off.length+1 by omega),hst];exact a2R _ _ _ hc5 _
        have hr:=ht hl6 (by rw[hfin];exact hc5);rw[hfin]at hr;exact j6 (by simp[hr,ho,fA,C2,n6])
      ·refine f6 ?_;simp only[zT,reduceIte,Nat.reduceEqDiff];refine hK8 _ _ ?_;refine b6 [10,13,14,46,47] (Or.inr (by simp)) ?_;simp only[zP,Nat.reduceEqDiff,reduceIte];refine gR fun K hK=>?_;simp -dsimp [wk];apply hK;clear hK K;simp only[zT,reduceIte,Nat.reduceEqDiff];exact⟨(k+1,q.2),⟨by simp only;omega,by rw[hst];exact Prod.ext hc5 rfl⟩,by simp only;omega,o1 (e9 [some 0,some 1,some 2,some 3] rfl (by simp) (by simp)) (by simp)⟩
     ·have hko:k=off.length+1:=by have:=(by simpa using hc4:(off.length:Int)+1≤k);omega
      subst hko;refine i6 ?_;simp only[zT,reduceIte,Nat.reduceEqDiff];refine hK6 _ _ ?_;refine b6 [] (Or.inr (by simp)) ?_;simp only[zP,Nat.reduceEqDiff,reduceIte];refine gS fun K hK=>?_;simp -dsimp;apply hK;clear hK K;have hr:=hn hl6 (by unfold b6s;rw[k2]);exact j6 (by simp[hr,C2,n6])
end Go.Cur
end
section
namespace Go.Cur
open Go.AM Go.Proofs
theorem c0F (n:Nat) (hn:n≤1000):d6 Try.prog 20 [I n] (bL (List.replicate n true)):=by
 have f0:I9 n 2:=m8 (by omega) (by omega);refine d6.of_body Try.func20 rfl (by decide) (by simp[Try.ntmps20]) ?_;simp only[Try.ntmps20,Try.results20];refine aS fun K hK=>?_;simp -dsimp;apply hK;clear hK K;refine aS fun K hK=>?_;simp -dsimp [f0];apply hK;clear hK K;refine b8 fun K1 hK1=>?_;refine aS fun K hK=>?_;simp -dsimp;apply hK;clear hK K;refine e8 ?_;refine b7 [0,3,4] ?_;simp only[zP,Nat.reduceEqDiff,reduceIte];refine i4 [0,3] (α:=Nat) (fun k=>[(4,I k)]) (fun k=>[some (.els 1 ((svK n k).map i9))]) (fun k=>k≤n) (fun k=>n-k) 0 ?_ ?_ ?_
 ·exact Nat.zero_le _
 ·exact e9 [some 0] rfl (by simp) (by simp[a5q,i9])
 rintro k k1;simp only[zP,Nat.reduceEqDiff,reduceIte];refine b8 fun K2 hK2=>?_;refine aS fun K hK=>?_;simp -dsimp;apply hK;clear hK K;refine d8 rfl (fun hc0=>?_) (fun hc0=>?_)
 ·have hkl:k<n:=by simpa using hc0
  have wk:=zW k (by omega);have hsl:=a7N (n:=n) (k:=k) k1;have hst:=a7s hkl;refine f5 ?_;simp only[zT,reduceIte,Nat.reduceEqDiff];refine hK2 _ _ ?_;refine b7 [0,3,4] ?_;simp only[zP,Nat.reduceEqDiff,reduceIte];refine b8 fun K3 hK3=>?_;refine e8 ?_;refine aR fun K hK=>?_;simp -dsimp [hkl,hsl];apply hK;clear hK K;simp only[zT,reduceIte,Nat.reduceEqDiff];refine hK3 _ _ ?_;refine b7 [0,3,4] ?_;simp only[zP,Nat.reduceEqDiff,reduceIte];refine aR fun K hK=>?_;simp -dsimp [wk];apply hK;clear hK K;simp only[zT,reduceIte,Nat.reduceEqDiff];exact⟨k+1,by omega,by omega,e9 [some 0] rfl (by simp) (by simp[←hst,List.map_set,i9])⟩
 ·have hke:k=n:=by have hn:¬k<n:=(by simpa using hc0);omega
  subst hke;have htk:List.take k ((List.replicate k true).map i9)=(List.replicate k true).map i9:=List.take_of_length_le (by simp);refine j8 ?_;simp only[zT,reduceIte,Nat.reduceEqDiff];refine hK1 _ _ ?_;refine b7 [3] ?_;simp only[zP,Nat.reduceEqDiff,reduceIte];refine aS fun K hK=>?_;simp -dsimp;apply hK;clear hK K;exact g7 (by rw[a7P];simp[htk])
theorem b4X (l:List Int) (x:Int) (hn:l.length≤100000):d6 Try.prog 53 [iL l,I x] (I (P1 l fun y=>decide (x=y))):=by
 refine d6.of_body Try.func53 rfl (by decide) (by simp[Try.ntmps53]) ?_;simp only[Try.ntmps53,Try.results53];refine aS fun K hK=>?_;simp -dsimp;apply hK;clear hK K;refine b8 fun K1 hK1=>?_;refine aS fun K hK=>?_;simp -dsimp;apply hK;clear hK K;refine e8 ?_;refine b7 [0,1,5] ?_;simp only[zP,Nat.reduceEqDiff,reduceIte];refine i4 [0,1] (α:=Nat) (fun k=>[(5,I k)]) (fun k=>[]) (fun k=>k≤l.length∧((l.take k).any fun y=>decide (x=y))=false) (fun k=>l.length-k) 0 ?_ ?_ ?_
 ·exact⟨Nat.zero_le _,rfl⟩
 ·exact j9 (by simp)
 rintro k ⟨k1,k2⟩;simp only[zP,Nat.reduceEqDiff,reduceIte];refine b8 fun K2 hK2=>?_;refine aS fun K hK=>?_;simp -dsimp;apply hK;clear hK K;refine d8 rfl (fun hc0=>?_) (fun hc0=>?_)
 ·have hkl:k<l.length:=by simpa using hc0
  have wk:=zW k (by omega);obtain⟨y,hy⟩:∃y,l[k]?=some y:=⟨_,List.getElem?_eq_getElem hkl⟩;refine f5 ?_;simp only[zT,reduceIte,Nat.reduceEqDiff];refine hK2 _ _ ?_;refine b7 [0,1,5] ?_;simp only[zP,Nat.reduceEqDiff,reduceIte];refine b8 fun K3 hK3=>?_;refine e8 ?_;refine aS fun K hK=>?_;simp -dsimp [hy];apply hK;clear hK K;refine d8 rfl (fun hc1=>?_) (fun hc1=>?_)
  ·refine aS fun K hK=>?_;simp -dsimp;apply hK;clear hK K;have hxy:x=y:=by have:y=x:=(by simpa using hc1);exact this.symm
   exact g7 (by simp[a0q hy (by simp[hxy]) k2])
  ·refine f5 ?_;simp only[zT,reduceIte,Nat.reduceEqDiff];refine hK3 _ _ ?_;refine b7 [0,1,5] ?_;simp only[zP,Nat.reduceEqDiff,reduceIte];refine aR fun K hK=>?_;simp -dsimp [wk];apply hK;clear hK K;simp only[zT,reduceIte,Nat.reduceEqDiff];have hxy:¬x=y:=by intro h;simp[h]at hc1
   exact⟨k+1,⟨by omega,by rw[List.take_add_one,hy,List.any_append,k2];simp[hxy]⟩,by omega,e9 [] rfl (by simp) (by simp)⟩
 ·have hkl:¬k<l.length:=by simpa using hc0
  rw[List.take_of_length_le (by omega)]at k2;refine j8 ?_;simp only[zT,reduceIte,Nat.reduceEqDiff];refine hK1 _ _ ?_;refine b7 [] ?_;simp only[zP,Nat.reduceEqDiff,reduceIte];refine aS fun K hK=>?_;simp -dsimp;apply hK;clear hK K;exact g7 (by simp[W4 k2])
theorem b5W (l:List Int) (x:Int):decide (0≤P1 l fun y=>decide (x=y))=decide (x∈l):=by rw[a6X,b6y]
theorem a0x (g:Gr) (s:Sta) (part:List Int) (hs:s.Feeds.length=g.Feeds.length) (hp:part.length≤1000) (hn:g.Feeds.length≤1000):d6 Try.prog 25 [g.av,s.av,iL part] (iL (k8 g s part)):=by
 unfold k8;refine d6.of_body Try.func25 rfl (by decide) (by simp[Try.ntmps25]) ?_;simp only[Try.ntmps25,Try.results25];refine aS fun K hK=>?_;simp -dsimp;apply hK;clear hK K;refine aS fun K hK=>?_;simp -dsimp;apply hK;clear hK K;refine b8 fun K1 hK1=>?_;refine aS fun K hK=>?_;simp -dsimp;apply hK;clear hK K;refine e8 ?_;refine b7 [2,3,4,7,8] ?_;simp only[zP,Nat.reduceEqDiff,reduceIte];refine i4 [2,3,4] (α:=Nat) (fun k=>[(7, .row 2 0 ((upI k).filter (a3e g s part)).length),(8,I k)]) (fun k=>[some (.els 4 [g.cells]),some (.els 2 [s.cells]),some (.els 1 (((upI k).filter (a3e g s part)).map j0))]) (fun k=>k≤g.Feeds.length) (fun k=>g.Feeds.length-k) 0 ?_ ?_ ?_
 ·exact Nat.zero_le _
 ·exact(H4 7 1 (by simp)).trans (j9 (by simp[upI]))
 rintro k k1;simp only[zP,Nat.reduceEqDiff,reduceIte];refine b8 fun K2 hK2=>?_;refine aS fun K hK=>?_;simp -dsimp;apply hK;clear hK K;refine d8 rfl (fun hc0=>?_) (fun hc0=>?_)
 ·have hkl:k<g.Feeds.length:=by simpa using hc0
  have wk:=zW k (by omega);have hfl:((upI k).filter (a3e g s part)).length≤k:=by have:=List.length_filter_le (a3e g s part) (upI k);rw[M9]at this;omega
  have hfs:(upI (k+1)).filter (a3e g s part)=(upI k).filter (a3e g s part)++if a3e g s part k then [(k:Int)]else []:=by rw[a5g,List.filter_append];cases hq:a3e g s part k<;>simp[hq]
  have f1:I9 (((upI k).filter (a3e g s part)).length+1) 9:=m8 (by omega) (by omega);have gb:=v9 (l:=s.Feeds) (k:=k) (by omega);have gf:g.Feeds[k]?=some (fdI g k):=by have:=a0B (g:=g) (i:=(k:Int)) (by omega) (by omega);rwa [Int.toNat_natCast]at this
  have hon:a3e g s part k=(bAt s.Feeds k&&decide (0≤P1 part fun y=>decide ((fdI g k).At=y))):=by rw[b5W];unfold a3e;rw[Int.toNat_natCast]
  have hix:=b4X part (fdI g k).At (by omega);generalize (upI k).filter (a3e g s part)=L at hfs hfl f1 ⊢;generalize (P1 part fun y=>decide ((fdI g k).At=y))=ix at hon hix;refine f5 ?_;simp only[zT,reduceIte,Nat.reduceEqDiff];refine hK2 _ _ ?_;refine b7 [2,3,4,7,8] ?_;simp only[zP,Nat.reduceEqDiff,reduceIte];refine b8 fun K3 hK3=>?_;refine e8 ?_;refine aS fun K hK=>?_;simp -dsimp [gb,gf,hs];refine l3 (fdI g k).cells (fun _=>by simp[gf]) ?_;simp -dsimp [gb,gf,hs];refine g8 _ (fun hm=>hix) (by simp) ?_;simp -dsimp [gb,gf,hs];apply hK;clear hK K;refine d8 rfl (fun hc1=>?_) (fun hc1=>?_)
  ·refine aR fun K hK=>?_;simp -dsimp [f1];apply hK;clear hK K;simp only[zT,reduceIte,Nat.reduceEqDiff];refine hK3 _ _ ?_;refine b7 [2,3,4,7,8] ?_;simp only[zP,Nat.reduceEqDiff,reduceIte];refine aR fun K hK=>?_;simp -dsimp [wk];apply hK;clear hK K;simp only[zT,reduceIte,Nat.reduceEqDiff];have hb:a3e g s part k=true:=by rw[hon];simpa using hc1
   exact⟨k+1,by omega,by omega,e9 [some 0,some 1,some 3] rfl (by simp[hfs,hb]) (by simp[hfs,hb])⟩
  ·refine f5 ?_;simp only[zT,reduceIte,Nat.reduceEqDiff];refine hK3 _ _ ?_;refine b7 [2,3,4,7,8] ?_;simp only[zP,Nat.reduceEqDiff,reduceIte];refine aR fun K hK=>?_;simp -dsimp [wk];apply hK;clear hK K;simp only[zT,reduceIte,Nat.reduceEqDiff];have hb:a3e g s part k=false:=by rw[hon];simpa using hc1
   exact⟨k+1,by omega,by omega,e9 [some 0,some 1,some 2] rfl (by simp[hfs,hb]) (by simp[hfs,hb])⟩
 ·have hke:k=g.Feeds.length:=by have hn:¬k<g.Feeds.length:=(by simpa using hc0);omega
  subst hke;refine j8 ?_;simp only[zT,reduceIte,Nat.reduceEqDiff];refine hK1 _ _ ?_;refine b7 [7] ?_;simp only[zP,Nat.reduceEqDiff,reduceIte];refine aS fun K hK=>?_;simp -dsimp;apply hK;clear hK K;exact g7 (by simp)
def a3f (n:Nat) (l:List Ld) (sv:List Bool):List Int:=(List.range n).map fun(k:Nat)=>cur l sv k
theorem a5o {n:Nat} {l:List Ld} {sv:List Bool} {k:Nat} (h:k<n):(a3f n l sv)[k]?=some (cur l sv k):=by
 unfold a3f;rw[List.getElem?_map,List.getElem?_range h];rfl
theorem a9b {l:List Ld} {sv:List Bool} {k:Nat} {f:Ld} {b:Bool} (hl:l[k]?=some f) (hs:sv[k]?=some b) (x:Int):cur (l.take (k+1)) (sv.take (k+1)) x=a5D x (cur (l.take k) (sv.take k) x) (f,b):=by
 have hk:=(List.getElem?_eq_some_iff.1 hl).1;have hk2:=(List.getElem?_eq_some_iff.1 hs).1;unfold cur;rw[List.take_add_one,List.take_add_one,hl,hs,List.zip_append (by simp;omega)];simp
theorem b5H {n:Nat} {l:List Ld} {sv:List Bool} {k a:Nat} {f:Ld} (hl:l[k]?=some f) (hs:sv[k]?=some true) (ha:f.At=a):(a3f n (l.take k) (sv.take k)).set a f.Units=a3f n (l.take (k+1)) (sv.take (k+1)):=by
 refine List.ext_getElem? fun i=>?_
 by_cases hi:i<n
 ·rw[a5o hi,a9b hl hs];unfold a5D
  by_cases h:i=a
  ·subst h;rw[List.getElem?_set_self (by simp[a3f];omega),if_pos ⟨rfl,ha⟩]
  ·rw[List.getElem?_set_ne (fun e=>h e.symm),a5o hi,if_neg (fun e=>h (by have:=e.2;simp only at this;omega))]
 ·rw[List.getElem?_eq_none (by simp[a3f];omega),List.getElem?_eq_none (by simp[a3f];omega)]
theorem c1s (n:Nat) (f:Nat→Int) (h:∀k,f k=0):List.replicate n [AV.v (Value.int .i64 0)]=((List.range n).map f).map j0:=by
 refine List.ext_getElem? fun i=>?_
 by_cases hi:i<n
 ·rw[List.getElem?_replicate,if_pos hi,List.getElem?_map,List.getElem?_map,List.getElem?_range hi];simp[h]
 ·rw[List.getElem?_eq_none (by simp;omega),List.getElem?_eq_none (by simp;omega)]
theorem a7T (g:Gr) (l:List Ld) (sv:List Bool) (n:Nat) (hg:g.Nodes=n) (hn:n≤1000) (hl:l.length≤1000) (hs:sv.length=l.length) (hat:∀y∈l,0≤y.At∧y.At<n):d6 Try.prog 22 [g.av,lL l,bL sv] (iL (a3f n l sv)):=by
 have f0:I9 n 9:=m8 (by omega) (by omega);have hz:List.replicate n [AV.v (Value.int .i64 0)]=(a3f n [] []).map j0:=c1s n _ fun k=>rfl;refine d6.of_body Try.func22 rfl (by decide) (by simp[Try.ntmps22]) ?_;simp only[Try.ntmps22,Try.results22];refine aS fun K hK=>?_;simp -dsimp;apply hK;clear hK K;refine aS fun K hK=>?_;simp -dsimp [hg,f0];apply hK;clear hK K;refine b8 fun K1 hK1=>?_;refine aS fun K hK=>?_;simp -dsimp;apply hK;clear hK K;refine e8 ?_;refine b7 [1,2,7,8] ?_;simp only[zP,Nat.reduceEqDiff,reduceIte];refine i4 [1,2,7] (α:=Nat) (fun k=>[(8,I k)]) (fun k=>[some (.els 4 [g.cells]),some (.els 1 ((a3f n (l.take k) (sv.take k)).map j0))]) (fun k=>k≤l.length) (fun k=>l.length-k) 0 ?_ ?_ ?_
 ·exact Nat.zero_le _
 ·exact e9 [some 0,some 1] rfl (by simp) (by simp[hg,hz])
 rintro k k1;simp only[zP,Nat.reduceEqDiff,reduceIte];refine b8 fun K2 hK2=>?_;refine aS fun K hK=>?_;simp -dsimp;apply hK;clear hK K;refine d8 rfl (fun hc0=>?_) (fun hc0=>?_)
 ·have hkl:k<l.length:=by simpa using hc0
  have wk:=zW k (by omega);have gl:=z8 hkl;have gb:=v9 (l:=sv) (k:=k) (by omega);have hne:¬sv=[]:=by intro e;rw[e]at hs;simp at hs;omega
  have hya:=hat _ (List.mem_of_getElem? gl);obtain⟨a,ha⟩:∃a:Nat,(ldA l k).At=a:=⟨(ldA l k).At.toNat,by omega⟩;have han:a<n:=by omega
  have hcl:(a3f n (l.take k) (sv.take k)).length=n:=by simp[a3f]
  have hks:k<sv.length:=by omega
  have hbe:sv[k]=bAt sv k:=Option.some.inj (by rw[←List.getElem?_eq_getElem hks];exact gb);refine f5 ?_;simp only[zT,reduceIte,Nat.reduceEqDiff];refine hK2 _ _ ?_;refine b7 [1,2,7,8] ?_;simp only[zP,Nat.reduceEqDiff,reduceIte];refine b8 fun K3 hK3=>?_;refine e8 ?_;refine aS fun K hK=>?_;simp -dsimp [gb,hks,hbe];apply hK;clear hK K;refine d8 rfl (fun hc1=>?_) (fun hc1=>?_)
  ·have hb:sv[k]?=some true:=by rw[gb,hc1]
   have hst:=b5H (n:=n) gl hb ha;refine O0 l9 rfl fun K hK=>?_;simp -dsimp [gl,ha,hcl,han];refine hK _ _ _ (by decide+kernel) ?_;clear hK K;simp only[zT,reduceIte,Nat.reduceEqDiff];refine hK3 _ _ ?_;refine b7 [1,2,7,8] ?_;simp only[zP,Nat.reduceEqDiff,reduceIte];refine aR fun K hK=>?_;simp -dsimp [wk];apply hK;clear hK K;simp only[zT,reduceIte,Nat.reduceEqDiff];exact⟨k+1,by omega,by omega,e9 [some 0,some 1] rfl (by simp) (by simp[←hst,List.map_set,j0])⟩
  ·refine f5 ?_;simp only[zT,reduceIte,Nat.reduceEqDiff];refine hK3 _ _ ?_;refine b7 [1,2,7,8] ?_;simp only[zP,Nat.reduceEqDiff,reduceIte];refine aR fun K hK=>?_;simp -dsimp [wk];apply hK;clear hK K;simp only[zT,reduceIte,Nat.reduceEqDiff];have hb:sv[k]?=some false:=by rw[gb,hc1]
   have hst:a3f n (l.take k) (sv.take k)=a3f n (l.take (k+1)) (sv.take (k+1)):=by unfold a3f;refine List.map_congr_left fun i _=>?_;rw[a9b gl hb];simp[a5D]
   exact⟨k+1,by omega,by omega,e9 [some 0,some 1] rfl (by simp) (by simp[←hst])⟩
 ·have hke:k=l.length:=by have hn:¬k<l.length:=(by simpa using hc0);omega
  subst hke;have htl:List.take n ((a3f n l sv).map j0)=(a3f n l sv).map j0:=List.take_of_length_le (by rw[List.length_map];simp[a3f]);rw[List.take_of_length_le (Nat.le_refl _),List.take_of_length_le (by omega)];have hcl2:(a3f n l sv).length=n:=by simp[a3f]
  refine j8 ?_;simp only[zT,reduceIte,Nat.reduceEqDiff];refine hK1 _ _ ?_;refine b7 [7] ?_;simp only[zP,Nat.reduceEqDiff,reduceIte];refine aS fun K hK=>?_;simp -dsimp;apply hK;clear hK K;exact g7 (by simp[htl,hcl2])
def a8M (ps:List (List Nat)):Bool:=ps.all fun p=>decide (p.length≤10)
theorem b5V (ps:List (List Nat)) (hn:ps.length≤100000):d6 Try.prog 34 [.lst 1 (ps.map pAV)] (Bo (a8M ps)):=by
 unfold a8M;refine d6.of_body Try.func34 rfl (by decide) (by simp[Try.ntmps34]) ?_;simp only[Try.ntmps34,Try.results34];refine aS fun K hK=>?_;simp -dsimp;apply hK;clear hK K;refine b8 fun K1 hK1=>?_;refine aS fun K hK=>?_;simp -dsimp;apply hK;clear hK K;refine e8 ?_;refine b7 [0,3] ?_;simp only[zP,Nat.reduceEqDiff,reduceIte];refine i4 [0] (α:=Nat) (fun k=>[(3,I k)]) (fun k=>[]) (fun k=>k≤ps.length∧((ps.take k).all fun p=>decide (p.length≤10))=true) (fun k=>ps.length-k) 0 ?_ ?_ ?_
 ·exact⟨Nat.zero_le _,rfl⟩
 ·exact j9 (by simp)
 rintro k ⟨k1,k2⟩;simp only[zP,Nat.reduceEqDiff,reduceIte];refine b8 fun K2 hK2=>?_;refine aS fun K hK=>?_;simp -dsimp;apply hK;clear hK K;refine d8 rfl (fun hc0=>?_) (fun hc0=>?_)
 ·have hkl:k<ps.length:=by simpa using hc0
  have wk:=zW k (by omega);obtain⟨p,hp⟩:∃p,ps[k]?=some p:=⟨_,List.getElem?_eq_getElem hkl⟩;have hul:=o9 p;refine f5 ?_;simp only[zT,reduceIte,Nat.reduceEqDiff];refine hK2 _ _ ?_;refine b7 [0,3] ?_;simp only[zP,Nat.reduceEqDiff,reduceIte];refine b8 fun K3 hK3=>?_;refine e8 ?_;refine aS fun K hK=>?_;simp -dsimp [hp,pAV];apply hK;clear hK K;refine d8 rfl (fun hc1=>?_) (fun hc1=>?_)
  ·refine aS fun K hK=>?_;simp -dsimp;apply hK;clear hK K;have hf:(ps.all fun p=>decide (p.length≤10))=false:=by
    rw[List.all_eq_false];exact⟨p,List.mem_of_getElem? hp,by have:=(by simpa using hc1:(10:Int)<(upN p).length);simp;omega⟩
   exact g7 (by simp[hf])
  ·refine f5 ?_;simp only[zT,reduceIte,Nat.reduceEqDiff];refine hK3 _ _ ?_;refine b7 [0,3] ?_;simp only[zP,Nat.reduceEqDiff,reduceIte];refine aR fun K hK=>?_;simp -dsimp [wk];apply hK;clear hK K;simp only[zT,reduceIte,Nat.reduceEqDiff];exact⟨k+1,⟨by omega,by rw[List.take_add_one,hp,List.all_append,k2];have:=(by simpa using hc1:((upN p).length:Int)≤10);simp;omega⟩,by omega,e9 [] rfl (by simp) (by simp)⟩
 ·have hkl:¬k<ps.length:=by simpa using hc0
  rw[List.take_of_length_le (by omega)]at k2;refine j8 ?_;simp only[zT,reduceIte,Nat.reduceEqDiff];refine hK1 _ _ ?_;refine b7 [] ?_;simp only[zP,Nat.reduceEqDiff,reduceIte];refine aS fun K hK=>?_;simp -dsimp;apply hK;clear hK K;exact g7 (by simp[k2])
end Go.Cur
end
section
namespace Go.Cur
open Go.AM Go.Proofs
def Q1:List Int→Int→Int
 |[],_=>0
 |a::l,x=>(if a=x then 1 else 0)+Q1 l x
theorem a0N (x:Int):∀l,0≤Q1 l x∧Q1 l x≤l.length
 |[]=>by simp[Q1]
 |a::l=>by
  have:=a0N x l;simp only[Q1,List.length_cons]
  split<;>omega
theorem I0 (x:Int):∀(a b:List Int),Q1 (a++b) x=Q1 a x+Q1 b x
 |[],b=>by simp[Q1]
 |w::a,b=>by simp only[List.cons_append,Q1,I0 x a b];omega
theorem a0b {x:Int}:∀{l:List Int},Q1 l x=0↔x∉l
 |[]=>by simp[Q1]
 |a::l=>by
  have h1:=a0b (x:=x) (l:=l);have h2:=a0N x l;simp only[Q1,List.mem_cons,not_or]
  by_cases h:a=x
  ·simp[h];omega
  ·rw[if_neg h,←h1];exact⟨fun e=>⟨fun k=>h k.symm,by omega⟩,fun e=>by omega⟩
theorem b3X {x:Int} {l:List Int} (k:Nat):Q1 (l.take k) x≤Q1 l x:=by
 have h:=I0 x (l.take k) (l.drop k);rw[List.take_append_drop]at h;have:=a0N x (l.drop k);omega
theorem a2J (x:Int) (l:List Wr) (k:Nat):deg (l.take k) x≤deg l x:=by
 have h:=S8 x (l.take k) (l.drop k);rw[List.take_append_drop]at h;have:=a6a x (l.drop k);omega
def fdR (g:Gr) (f:Fd):Bool:=inr f.At 0 (g.Nodes-1)&&inr f.Volts 1 1000&&inr f.Siem 1 4&&inr f.Limit 0 2000
def fAt (l:List Fd):List Int:=l.map fun f=>f.At
theorem b7m {l:List Fd} {x:Int}:(l.any fun f=>decide (f.At=x))=decide (x∈fAt l):=by
 unfold fAt;rw[Bool.eq_iff_iff];simp
@[simp] theorem c2f:fAt []=[]:=rfl
theorem a4M {l:List Fd} {k:Nat} {f:Fd} (h:l[k]?=some f):fAt (l.take (k+1))=fAt (l.take k)++[f.At]:=by
 unfold fAt;rw[List.take_add_one,h];simp
theorem b5m (l:List Fd) (k:Nat):fAt (l.take k)=(fAt l).take k:=by unfold fAt;rw[List.map_take]
theorem b7a {g:Gr}:∀{k:Nat},k≤g.Feeds.length→a7C g k=true→∀x,Q1 (fAt (g.Feeds.take k)) x≤1
 |0,_,_,x=>by simp[Q1]
 |k+1,hk,h,x=>by
  simp only[a7C,Bool.and_eq_true]at h;have ih:=b7a (k:=k) (by omega) h.1 x;obtain⟨f,hf⟩:∃f,g.Feeds[k]?=some f:=⟨_,List.getElem?_eq_getElem (by omega)⟩;have h2:=h.2;rw[hf]at h2;simp only[fdB,Bool.and_eq_true,b7m,Bool.not_eq_true',decide_eq_false_iff_not]at h2;have e:=a4M hf;rw[e,I0];simp only[Q1]
  by_cases hx:f.At=x
  ·have:=a0b.2 h2.2;rw[hx]at this;rw[this,if_pos hx];omega
  ·rw[if_neg hx];omega
theorem b9g {g:Gr} (h:grB g=true) (x:Int):Q1 (fAt g.Feeds) x≤1:=by
 simp only[grB,Bool.and_eq_true]at h;have:=b7a (Nat.le_refl _) h.2 x
 rwa [List.take_length]at this
theorem c0m {g:Gr} (h1:grH g=true) (h2:∀(k:Nat) w,g.Wires[k]?=some w→wrB g w=true) (h3:∀(k:Nat) f,g.Feeds[k]?=some f→fdR g f=true) (h4:∀k:Nat,(k:Int)<g.Nodes→deg g.Wires k≤3∧Q1 (fAt g.Feeds) k≤1):grB g=true:=by
 have a:∀k,k≤g.Wires.length→a7D g k=true:=by
  intro k
  induction k with
  |zero=>intro _;rfl
  |succ k ih=>
   intro hk;obtain⟨w,hw⟩:∃w,g.Wires[k]?=some w:=⟨_,List.getElem?_eq_getElem (by omega)⟩;have hwb:=h2 k w hw;have hwb2:=hwb;simp only[wrB,Bool.and_eq_true,t4]at hwb2;simp only[a7D,ih (by omega),hw,hwb,wrD,Bool.true_and,Bool.and_eq_true,decide_eq_true_eq];have e1:=h4 w.A.toNat (by omega);have e2:=h4 w.B.toNat (by omega);rw[Int.toNat_of_nonneg (by omega)]at e1 e2;exact⟨Int.le_trans (a2J _ _ _) e1.1,Int.le_trans (a2J _ _ _) e2.1⟩
 have b:∀k,k≤g.Feeds.length→a7C g k=true:=by
  intro k
  induction k with
  |zero=>intro _;rfl
  | succ k ih=>
   intro hk;obtain⟨f,hf⟩:∃f,g.Feeds[k]?=some f:=⟨_,List.getElem?_eq_getElem (by omega)⟩;have hfb:=h3 k f hf;have hfb2:=hfb;simp only[fdR,Bool.and_eq_true,t4]at hfb2;have hany:((g.Feeds.take k).any fun x=>decide (x.At=f.At))=false:=by
    rw[b7m,decide_eq_false_iff_not,←a0b];have e1:=(h4 f.At.toNat (by omega)).2;rw[Int.toNat_of_nonneg (by omega)]at e1;have e2:=a4M hf;have e3:=b3X (x:=f.At) (l:=fAt g.Feeds) (k+1);rw[←b5m,e2,I0]at e3;simp only[Q1,if_true]at e3;have:=a0N f.At (fAt (g.Feeds.take k));omega
   simp only[a7C,ih (by omega),hf,fdB,hany,Bool.true_and,Bool.not_false,Bool.and_true];exact hfb
 simp only[grB,h1,a _ (Nat.le_refl _),b _ (Nat.le_refl _),Bool.and_self]
def a5F (n:Nat) (l:List Wr):List Int:=(List.range n).map fun(k:Nat)=>deg l k
theorem Z5 {n:Nat} {l:List Wr} {k:Nat} (h:k<n):(a5F n l)[k]?=some (deg l k):=by
 unfold a5F;rw[List.getElem?_map,List.getElem?_range h];rfl
theorem a9Z (n:Nat) (l:List Wr):(a5F n l).length=n:=by simp[a5F]
theorem b4P {n:Nat} {l:List Wr} {k a b:Nat} {w:Wr} (hw:l[k]?=some w) (ha:w.A=a) (hb:w.B=b) (hab:a≠b):((a5F n (l.take k)).set a (deg (l.take k) a+1)).set b (deg (l.take k) b+1)=a5F n (l.take (k+1)):=by
 have e:l.take (k+1)=l.take k++[w]:=by rw[List.take_add_one,hw];rfl
 refine List.ext_getElem? fun i=>?_
 by_cases hi:i<n
 ·rw[Z5 hi,e,S8];simp only[deg,ha,hb]
  by_cases h1:i=b
  ·subst h1;rw[List.getElem?_set_self (by simp[a5F];omega),if_neg (by omega),if_pos rfl]
   all_goals exact congrArg some (by omega)
  ·rw[List.getElem?_set_ne (fun e=>h1 e.symm)]
   by_cases h2:i=a
   ·subst h2;rw[List.getElem?_set_self (by simp[a5F];omega),if_pos rfl,if_neg (by omega)]
    all_goals exact congrArg some (by omega)
   ·rw[List.getElem?_set_ne (fun e=>h2 e.symm),Z5 hi,if_neg (by omega),if_neg (by omega)]
    all_goals exact congrArg some (by omega)
 ·rw[List.getElem?_eq_none (by simp[a5F];omega),List.getElem?_eq_none (by simp[a5F];omega)]
def a3l (n:Nat) (l:List Int):List Int:=(List.range n).map fun(k:Nat)=>Q1 l k
theorem a0f {n:Nat} {l:List Int} {k:Nat} (h:k<n):(a3l n l)[k]?=some (Q1 l k):=by
 unfold a3l;rw[List.getElem?_map,List.getElem?_range h];rfl
theorem a4O (n:Nat) (l:List Int):(a3l n l).length=n:=by simp[a3l]
theorem a8X {n:Nat} {l:List Int} {a:Nat}:(a3l n l).set a (Q1 l a+1)=a3l n (l++[(a:Int)]):=by
 refine List.ext_getElem? fun i=>?_
 by_cases hi:i<n
 ·rw[a0f hi,I0];simp only[Q1]
  by_cases h2:i=a
  ·subst h2;rw[List.getElem?_set_self (by simp[a3l];omega),if_pos rfl]
   all_goals exact congrArg some (by omega)
  ·rw[List.getElem?_set_ne (fun e=>h2 e.symm),a0f hi,if_neg (by omega)]
   all_goals exact congrArg some (by omega)
 ·rw[List.getElem?_eq_none (by simp[a3l];omega),List.getElem?_eq_none (by simp[a3l];omega)]
theorem b8K (g:Gr) (hw0:g.Wires.length≤100000) (hf0:g.Feeds.length≤100000):d6 Try.prog 41 [g.av] (Bo (grB g)):=by
 refine d6.of_body Try.func41 rfl (by decide) (by simp[Try.ntmps41]) ?_;simp only[Try.ntmps41,Try.results41];refine aS fun K hK=>?_;simp -dsimp;apply hK;clear hK K;refine b8 fun K1 hK1=>?_;refine aS fun K hK=>?_;simp -dsimp;refine d5 _ (V7 g.Nodes 1 40) (by simp) ?_;simp -dsimp;refine g8 _ (fun hm=>V7 g.Least 0 1000) (by simp) ?_;simp -dsimp;apply hK;clear hK K;refine d8 rfl (fun hc0=>?_) (fun hc0=>?_)
 ·refine aS fun K hK=>?_;simp -dsimp;apply hK;clear hK K;have hf:grH g=false:=by
   cases hh:grH g with
   |false=>rfl
   |true=>
    simp only[grH,Bool.and_eq_true,decide_eq_true_eq]at hh;have h1:(g.Wires.length:Int)≤80:=by omega
    have h2:(g.Feeds.length:Int)≤12:=by omega
    simp[hh.1.1.1,hh.2]at hc0;omega
  exact g7 (by simp[grB,hf])
 ·have hH:grH g=true:=by
   simp at hc0;simp only[grH,hc0.1.1.1,hc0.2,Bool.and_eq_true,decide_eq_true_eq,and_true,true_and];omega
  have hN:=hH;simp only[grH,Bool.and_eq_true,decide_eq_true_eq,t4]at hN;obtain⟨n,hn⟩:∃n:Nat,g.Nodes=n:=⟨g.Nodes.toNat,by omega⟩;have f0:I9 n 9:=m8 (by omega) (by omega);have wn:IntKind.i64.wrap ((n:Int)-1)=(n:Int)-1:=f7 (by omega) (by omega);have hz1:List.replicate n [AV.v (Value.int .i64 0)]=(a5F n []).map j0:=c1s n _ fun k=>rfl;have hz2:(a3l n []).map j0=(a5F n []).map j0:=rfl;refine f5 ?_;simp only[zT,reduceIte,Nat.reduceEqDiff];refine hK1 _ _ ?_;refine b7 [1] ?_;simp only[zP,Nat.reduceEqDiff,reduceIte];refine s9 l9 rfl fun K hK=>?_;simp -dsimp [hn,f0];refine hK _ _ _ (by decide+kernel) ?_;clear hK K;refine b8 fun K2 hK2=>?_;refine aS fun K hK=>?_;simp -dsimp;apply hK;clear hK K;refine e8 ?_;refine b7 [1,3,4,5] ?_;simp only[zP,Nat.reduceEqDiff,reduceIte];refine i4 [1,3,4] (α:=Nat) (fun k=>[(5,I k)]) (fun k=>[some (.els 4 [g.cells]),some (.els 1 ((a5F n (g.Wires.take k)).map j0)),some (.els 1 ((a3l n []).map j0))]) (fun k=>k≤g.Wires.length∧∀i w,i<k→g.Wires[i]?=some w→wrB g w=true) (fun k=>g.Wires.length-k) 0 ?_ ?_ ?_
  ·exact⟨Nat.zero_le _,fun i w h=>by omega⟩
  ·exact e9 [some 0,some 1,some 2] rfl (by simp) (by simp[hn,hz1,hz2])
  rintro k ⟨k1,k2⟩;simp only[zP,Nat.reduceEqDiff,reduceIte];refine b8 fun K3 hK3=>?_;refine aS fun K hK=>?_;simp -dsimp;apply hK;clear hK K;refine d8 rfl (fun hc1=>?_) (fun hc1=>?_)
  ·have hkl:k<g.Wires.length:=by simpa using hc1
   obtain⟨w,hw⟩:∃w,g.Wires[k]?=some w:=⟨_,List.getElem?_eq_getElem hkl⟩;have wk:=zW k (by omega);refine f5 ?_;simp only[zT,reduceIte,Nat.reduceEqDiff];refine hK3 _ _ ?_;refine b7 [1,3,4,5] ?_;simp only[zP,Nat.reduceEqDiff,reduceIte];refine b8 fun K4 hK4=>?_;refine e8 ?_;refine aS fun K hK=>?_;simp -dsimp [hw];apply hK;clear hK K;refine b8 fun K5 hK5=>?_;refine aS fun K hK=>?_;simp -dsimp [hn,wn];refine d5 _ (V7 _ _ _) (by simp) ?_;simp -dsimp [hn,wn];refine g8 _ (fun hm=>V7 w.B 0 ((n:Int)-1)) (by simp) ?_;simp -dsimp [hn,wn];refine g8 _ (fun hm=>V7 w.Siem 1 4) (by simp) ?_;simp -dsimp [hn,wn];apply hK;clear hK K;refine d8 rfl (fun hc2=>?_) (fun hc2=>?_)
   ·have hwr:wrB g w= !(!inr w.A 0 ((n:Int)-1)|| !inr w.B 0 ((n:Int)-1)||w.A==w.B|| !inr w.Siem 1 4):=by
     simp only[wrB,a4n,hn]
     cases inr w.A 0 ((n:Int)-1)<;>cases inr w.B 0 ((n:Int)-1)<;>cases decide (w.A=w.B)<;>cases inr w.Siem 1 4<;>rfl
    refine aS fun K hK=>?_;simp -dsimp;apply hK;clear hK K;have hwf:wrB g w=false:=by rw[hwr,hc2];rfl
    exact g7 (by simp[b9y hw (by rw[hwf];rfl)])
   ·have hwr:wrB g w= !(!inr w.A 0 ((n:Int)-1)|| !inr w.B 0 ((n:Int)-1)||w.A==w.B|| !inr w.Siem 1 4):=by
     simp only[wrB,a4n,hn]
     cases inr w.A 0 ((n:Int)-1)<;>cases inr w.B 0 ((n:Int)-1)<;>cases decide (w.A=w.B)<;>cases inr w.Siem 1 4<;>rfl
    have hwo:wrB g w=true:=by rw[hwr,hc2];rfl
    have hwb:=hwo;simp only[wrB,Bool.and_eq_true,t4,Bool.not_eq_true',decide_eq_false_iff_not,hn]at hwb;obtain⟨a,ha⟩:∃a:Nat,w.A=a:=⟨w.A.toNat,by omega⟩;obtain⟨b,hb⟩:∃b:Nat,w.B=b:=⟨w.B.toNat,by omega⟩;have han:a<n:=by omega
    have hbn:b<n:=by omega
    have hab:a≠b:=by omega
    have hst:=b4P (n:=n) hw ha hb hab;have ga:=Z5 (l:=g.Wires.take k) han;have gb:=Z5 (l:=g.Wires.take k) hbn;have hd:=fun x=>a6a x (g.Wires.take k);have hlt:(g.Wires.take k).length≤k:=by rw[List.length_take];omega
    have hdl:=a9Z n (g.Wires.take k);have wa:IntKind.i64.wrap (deg (g.Wires.take k) a+1)=deg (g.Wires.take k) a+1:=by have:=hd a;exact f7 (by omega) (by omega)
    have wb:IntKind.i64.wrap (deg (g.Wires.take k) b+1)=deg (g.Wires.take k) b+1:=by have:=hd b;exact f7 (by omega) (by omega)
    generalize a5F n (g.Wires.take k)=dr at hst ga gb hdl ⊢;have hal:a<dr.length:=by omega
    have hbl:b<dr.length:=by omega
    have hga:dr[a]=deg (g.Wires.take k) a:=Option.some.inj (by rw[←List.getElem?_eq_getElem hal];exact ga);have hgb:dr[b]=deg (g.Wires.take k) b:=Option.some.inj (by rw[←List.getElem?_eq_getElem hbl];exact gb);refine f5 ?_;simp only[zT,reduceIte,Nat.reduceEqDiff];refine hK5 _ _ ?_;refine b7 [1,3,4,5,6] ?_;simp only[zP,Nat.reduceEqDiff,reduceIte];refine aS fun K hK=>?_;simp -dsimp [ha,hal,han,hga,wa];apply hK;clear hK K;refine aR fun K hK=>?_;simp -dsimp [hb,hbl,hbn,hgb,wb,hab];apply hK;clear hK K;simp only[zT,reduceIte,Nat.reduceEqDiff];refine hK4 _ _ ?_;refine b7 [1,3,4,5] ?_;simp only[zP,Nat.reduceEqDiff,reduceIte];refine aR fun K hK=>?_;simp -dsimp [wk];apply hK;clear hK K;simp only[zT,reduceIte,Nat.reduceEqDiff];refine⟨k+1,⟨by omega,fun i w' hi hw'=>?_⟩,by omega,e9 [some 0,some 1,some 2] rfl (by simp) (by simp[←hst,List.map_set,j0,hn])⟩
    rcases Nat.lt_succ_iff_lt_or_eq.1 hi with h|h
    ·exact k2 i w' h hw'
    ·subst h;rw[hw]at hw';rw[←Option.some.inj hw'];exact hwo
  ·have hke:k=g.Wires.length:=by have hx:¬k<g.Wires.length:=(by simpa using hc1);omega
   subst hke;rw[List.take_of_length_le (Nat.le_refl _)];refine j8 ?_;simp only[zT,reduceIte,Nat.reduceEqDiff];refine hK2 _ _ ?_;refine b7 [1,3,4] ?_;simp only[zP,Nat.reduceEqDiff,reduceIte];refine b8 fun K6 hK6=>?_;refine aS fun K hK=>?_;simp -dsimp;apply hK;clear hK K;refine e8 ?_;refine b7 [1,3,4,7] ?_;simp only[zP,Nat.reduceEqDiff,reduceIte];refine i4 [1,3,4] (α:=Nat) (fun k=>[(7,I k)]) (fun k=>[some (.els 4 [g.cells]),some (.els 1 ((a5F n g.Wires).map j0)),some (.els 1 ((a3l n (fAt (g.Feeds.take k))).map j0))]) (fun k=>k≤g.Feeds.length∧∀i f,i<k→g.Feeds[i]?=some f→fdR g f=true) (fun k=>g.Feeds.length-k) 0 ?_ ?_ ?_
   ·exact⟨Nat.zero_le _,fun i w h=>by omega⟩
   ·exact e9 [some 0,some 1,some 2] rfl (by simp) (by simp)
   rintro i ⟨i1,i2⟩;simp only[zP,Nat.reduceEqDiff,reduceIte];refine b8 fun K7 hK7=>?_;refine aS fun K hK=>?_;simp -dsimp;apply hK;clear hK K;refine d8 rfl (fun hc3=>?_) (fun hc3=>?_)
   ·have hil:i<g.Feeds.length:=by simpa using hc3
    obtain⟨f,hf⟩:∃f,g.Feeds[i]?=some f:=⟨_,List.getElem?_eq_getElem hil⟩;have wi:=zW i (by omega);refine f5 ?_;simp only[zT,reduceIte,Nat.reduceEqDiff];refine hK7 _ _ ?_;refine b7 [1,3,4,7] ?_;simp only[zP,Nat.reduceEqDiff,reduceIte];refine b8 fun K8 hK8=>?_;refine e8 ?_;refine aS fun K hK=>?_;simp -dsimp [hf];apply hK;clear hK K;refine b8 fun K9 hK9=>?_;refine aS fun K hK=>?_;simp -dsimp [hn,wn];refine d5 _ (V7 _ _ _) (by simp) ?_;simp -dsimp [hn,wn];refine g8 _ (fun hm=>V7 f.Volts 1 1000) (by simp) ?_;simp -dsimp [hn,wn];refine g8 _ (fun hm=>V7 f.Siem 1 4) (by simp) ?_;simp -dsimp [hn,wn];refine g8 _ (fun hm=>V7 f.Limit 0 2000) (by simp) ?_;simp -dsimp [hn,wn];apply hK;clear hK K;refine d8 rfl (fun hc4=>?_) (fun hc4=>?_)
    ·have hfd:fdR g f= !(!inr f.At 0 ((n:Int)-1)|| !inr f.Volts 1 1000|| !inr f.Siem 1 4|| !inr f.Limit 0 2000):=by
      simp only[fdR,hn]
      cases inr f.At 0 ((n:Int)-1)<;>cases inr f.Volts 1 1000<;>cases inr f.Siem 1 4<;>cases inr f.Limit 0 2000<;>rfl
     refine aS fun K hK=>?_;simp -dsimp;apply hK;clear hK K;have hff:fdR g f=false:=by rw[hfd,hc4];rfl
     have hfb:fdB g (g.Feeds.take i) f=false:=by
      have:fdB g (g.Feeds.take i) f=(fdR g f&& !((g.Feeds.take i).any fun x=>decide (x.At=f.At))):=rfl;rw[this,hff];rfl
     exact g7 (by simp[c0S hf hfb])
    ·have hfd:fdR g f= !(!inr f.At 0 ((n:Int)-1)|| !inr f.Volts 1 1000|| !inr f.Siem 1 4|| !inr f.Limit 0 2000):=by
      simp only[fdR,hn]
      cases inr f.At 0 ((n:Int)-1)<;>cases inr f.Volts 1 1000<;>cases inr f.Siem 1 4<;>cases inr f.Limit 0 2000<;>rfl
     have hfo:fdR g f=true:=by rw[hfd,hc4];rfl
     have hfb:=hfo;simp only[fdR,Bool.and_eq_true,t4,hn]at hfb;obtain⟨a,ha⟩:∃a:Nat,f.At=a:=⟨f.At.toNat,by omega⟩;have han:a<n:=by omega
     have hst:=a8X (n:=n) (l:=fAt (g.Feeds.take i)) (a:=a);have e2:fAt (g.Feeds.take (i+1))=fAt (g.Feeds.take i)++[(a:Int)]:=by rw[a4M hf,ha]
     rw[←e2]at hst;have ga:=a0f (l:=fAt (g.Feeds.take i)) han;have hd:=a0N (a:Int) (fAt (g.Feeds.take i));have hlt:(fAt (g.Feeds.take i)).length≤i:=by unfold fAt;rw[List.length_map,List.length_take];omega
     have hdl:=a4O n (fAt (g.Feeds.take i));have wa:IntKind.i64.wrap (Q1 (fAt (g.Feeds.take i)) a+1)=Q1 (fAt (g.Feeds.take i)) a+1:=f7 (by omega) (by omega);generalize Q1 (fAt (g.Feeds.take i)) a=ca at hst ga wa;generalize a3l n (fAt (g.Feeds.take i))=cr at hst ga hdl ⊢;have hal:a<cr.length:=by omega
     have hga:cr[a]=ca:=Option.some.inj (by rw[←List.getElem?_eq_getElem hal];exact ga);refine f5 ?_;simp only[zT,reduceIte,Nat.reduceEqDiff];refine hK9 _ _ ?_;refine b7 [1,3,4,7,8] ?_;simp only[zP,Nat.reduceEqDiff,reduceIte];refine aR fun K hK=>?_;simp -dsimp [ha,hal,han,hga,wa];apply hK;clear hK K;simp only[zT,reduceIte,Nat.reduceEqDiff];refine hK8 _ _ ?_;refine b7 [1,3,4,7] ?_;simp only[zP,Nat.reduceEqDiff,reduceIte];refine aR fun K hK=>?_;simp -dsimp [wi];apply hK;clear hK K;simp only[zT,reduceIte,Nat.reduceEqDiff];refine⟨i+1,⟨by omega,fun j w' hj hw'=>?_⟩,by omega,e9 [some 0,some 1,some 2] rfl (by simp) (by simp[←hst,List.map_set,j0,hn])⟩
     rcases Nat.lt_succ_iff_lt_or_eq.1 hj with h|h
     ·exact i2 j w' h hw'
     ·subst h;rw[hf]at hw';rw[←Option.some.inj hw'];exact hfo
   ·have hie:i=g.Feeds.length:=by have hx:¬i<g.Feeds.length:=(by simpa using hc3);omega
    subst hie;rw[List.take_of_length_le (Nat.le_refl _)];refine j8 ?_;simp only[zT,reduceIte,Nat.reduceEqDiff];refine hK6 _ _ ?_;refine b7 [1,3,4] ?_;simp only[zP,Nat.reduceEqDiff,reduceIte];refine b8 fun K10 hK10=>?_;refine aS fun K hK=>?_;simp -dsimp;apply hK;clear hK K;refine e8 ?_;refine b7 [1,3,4,9] ?_;simp only[zP,Nat.reduceEqDiff,reduceIte];refine i4 [1,3,4] (α:=Nat) (fun k=>[(9,I k)]) (fun k=>[some (.els 4 [g.cells]),some (.els 1 ((a5F n g.Wires).map j0)),some (.els 1 ((a3l n (fAt g.Feeds)).map j0))]) (fun k=>k≤n∧∀j:Nat,j<k→deg g.Wires j≤3∧Q1 (fAt g.Feeds) j≤1) (fun k=>n-k) 0 ?_ ?_ ?_
    ·exact⟨Nat.zero_le _,fun i h=>by omega⟩
    ·exact e9 [some 0,some 1,some 2] rfl (by simp) (by simp)
    rintro j ⟨j1,j2⟩;simp only[zP,Nat.reduceEqDiff,reduceIte];refine b8 fun K11 hK11=>?_;refine aS fun K hK=>?_;simp -dsimp [hn];apply hK;clear hK K;refine d8 rfl (fun hc5=>?_) (fun hc5=>?_)
    ·have hjn:j<n:=by simpa using hc5
     have wj:=zW j (by omega);have ga:=Z5 (l:=g.Wires) hjn;have gb:=a0f (l:=fAt g.Feeds) hjn;have hdl:=a9Z n g.Wires;have hcl:=a4O n (fAt g.Feeds);have hal:j<(a5F n g.Wires).length:=by omega
     have hbl:j<(a3l n (fAt g.Feeds)).length:=by omega
     have hga:(a5F n g.Wires)[j]=deg g.Wires j:=Option.some.inj (by rw[←List.getElem?_eq_getElem hal];exact ga);have hgb:(a3l n (fAt g.Feeds))[j]=Q1 (fAt g.Feeds) j:=Option.some.inj (by rw[←List.getElem?_eq_getElem hbl];exact gb);refine f5 ?_;simp only[zT,reduceIte,Nat.reduceEqDiff];refine hK11 _ _ ?_;refine b7 [1,3,4,9] ?_;simp only[zP,Nat.reduceEqDiff,reduceIte];refine b8 fun K12 hK12=>?_;refine e8 ?_;refine aS fun K hK=>?_;simp -dsimp [hal,hbl,hjn,hga,hgb];apply hK;clear hK K;refine d8 rfl (fun hc6=>?_) (fun hc6=>?_)
     ·refine aS fun K hK=>?_;simp -dsimp;apply hK;clear hK K;have hf:grB g=false:=by
       cases h:grB g with
       |false=>rfl
       |true=>
        have h1:=b7p h (j:Int);have h2:=b9g h (j:Int);simp at hc6;omega
      exact g7 (by simp[hf])
     ·refine f5 ?_;simp only[zT,reduceIte,Nat.reduceEqDiff];refine hK12 _ _ ?_;refine b7 [1,3,4,9] ?_;simp only[zP,Nat.reduceEqDiff,reduceIte];refine aR fun K hK=>?_;simp -dsimp [wj];apply hK;clear hK K;simp only[zT,reduceIte,Nat.reduceEqDiff];refine⟨j+1,⟨by omega,fun q hq=>?_⟩,by omega,e9 [some 0,some 1,some 2] rfl (by simp) (by simp[hn])⟩
      rcases Nat.lt_succ_iff_lt_or_eq.1 hq with h|h
      ·exact j2 q h
      ·subst h;simp at hc6;omega
    ·have hje:¬j<n:=by simpa using hc5
     refine j8 ?_;simp only[zT,reduceIte,Nat.reduceEqDiff];refine hK10 _ _ ?_;refine b7 [] ?_;simp only[zP,Nat.reduceEqDiff,reduceIte];refine aS fun K hK=>?_;simp -dsimp;apply hK;clear hK K;have ht:grB g=true:=c0m hH (fun k w hw=>k2 k w (List.getElem?_eq_some_iff.1 hw).1 hw) (fun k f hf=>i2 k f (List.getElem?_eq_some_iff.1 hf).1 hf) (fun k hk=>j2 k (by omega));exact g7 (by simp[ht])
theorem b5k (g:Gr) (s:Sta) (hw0:g.Wires.length≤100000):d6 Try.prog 43 [g.av,s.av] (Bo (stB g s)):=by
 refine d6.of_body Try.func43 rfl (by decide) (by simp[Try.ntmps43]) ?_;simp only[Try.ntmps43,Try.results43];refine aS fun K hK=>?_;simp -dsimp;apply hK;clear hK K;refine b8 fun K1 hK1=>?_;refine aS fun K hK=>?_;simp -dsimp;apply hK;clear hK K;refine d8 rfl (fun hc0=>?_) (fun hc0=>?_)
 ·refine aS fun K hK=>?_;simp -dsimp;apply hK;clear hK K;have hf:stB g s=false:=by
   cases hh:stB g s with
   |false=>rfl
   |true=>
    simp only[stB,Bool.and_eq_true,decide_eq_true_eq]at hh;simp[hh.1.1,hh.1.2]at hc0
  exact g7 (by simp[hf])
 ·have hl:s.Feeds.length=g.Feeds.length∧s.Wires.length=g.Wires.length:=by simp at hc0;omega
  refine f5 ?_;simp only[zT,reduceIte,Nat.reduceEqDiff];refine hK1 _ _ ?_;refine b7 [2,3] ?_;simp only[zP,Nat.reduceEqDiff,reduceIte];refine b8 fun K2 hK2=>?_;refine aS fun K hK=>?_;simp -dsimp;apply hK;clear hK K;refine e8 ?_;refine b7 [2,3,5] ?_;simp only[zP,Nat.reduceEqDiff,reduceIte];refine i4 [2,3] (α:=Nat) (fun k=>[(5,I k)]) (fun k=>[some (.els 4 [g.cells]),some (.els 2 [s.cells])]) (fun k=>k≤g.Wires.length∧a5P g s k=true) (fun k=>g.Wires.length-k) 0 ?_ ?_ ?_
  ·exact⟨Nat.zero_le _,rfl⟩
  ·exact e9 [some 0,some 1] rfl (by simp) (by simp)
  rintro k ⟨k1,k2⟩;simp only[zP,Nat.reduceEqDiff,reduceIte];refine b8 fun K3 hK3=>?_;refine aS fun K hK=>?_;simp -dsimp;apply hK;clear hK K;refine d8 rfl (fun hc1=>?_) (fun hc1=>?_)
  ·have hkl:k<g.Wires.length:=by simpa using hc1
   obtain⟨w,hw⟩:∃w,g.Wires[k]?=some w:=⟨_,List.getElem?_eq_getElem hkl⟩;have wk:=zW k (by omega);have gb:=v9 (l:=s.Wires) (k:=k) (by omega);refine f5 ?_;simp only[zT,reduceIte,Nat.reduceEqDiff];refine hK3 _ _ ?_;refine b7 [2,3,5] ?_;simp only[zP,Nat.reduceEqDiff,reduceIte];refine b8 fun K4 hK4=>?_;refine e8 ?_;refine aS fun K hK=>?_;simp -dsimp [hw,gb,hl.2];refine l3 (i9 (bAt s.Wires k)) (fun _=>by simp[gb]) ?_;simp -dsimp [hw,gb,hl.2];apply hK;clear hK K;refine d8 rfl (fun hc2=>?_) (fun hc2=>?_)
   ·refine aS fun K hK=>?_;simp -dsimp;apply hK;clear hK K;have hfl:(w.Sw||bAt s.Wires k)=false:=by cases hw1:w.Sw<;>cases hb1:bAt s.Wires k<;>simp[hw1,hb1]at hc2 ⊢
    have h1:a5P g s (k+1)=false:=by simp only[a5P,hw,hfl,Bool.and_false]
    have h2:=a8B h1 (g.Wires.length-(k+1));rw[show k+1+(g.Wires.length-(k+1))=g.Wires.length by omega]at h2;exact g7 (by simp[stB,h2])
   ·refine f5 ?_;simp only[zT,reduceIte,Nat.reduceEqDiff];refine hK4 _ _ ?_;refine b7 [2,3,5] ?_;simp only[zP,Nat.reduceEqDiff,reduceIte];refine aR fun K hK=>?_;simp -dsimp [wk];apply hK;clear hK K;simp only[zT,reduceIte,Nat.reduceEqDiff];refine⟨k+1,⟨by omega,?_⟩,by omega,e9 [some 0,some 1] rfl (by simp) (by simp)⟩;simp only[a5P,k2,hw,Bool.true_and]
    cases hw1:w.Sw<;>cases hb1:bAt s.Wires k<;>simp[hw1,hb1]at hc2 ⊢
  ·have hke:k=g.Wires.length:=by have hx:¬k<g.Wires.length:=(by simpa using hc1);omega
   subst hke;refine j8 ?_;simp only[zT,reduceIte,Nat.reduceEqDiff];refine hK2 _ _ ?_;refine b7 [] ?_;simp only[zP,Nat.reduceEqDiff,reduceIte];refine aS fun K hK=>?_;simp -dsimp;apply hK;clear hK K;exact g7 (by simp[stB,hl.1,hl.2,k2])
def lAt (l:List Ld):List Int:=l.map fun f=>f.At
@[simp] theorem c2J:lAt []=[]:=rfl
theorem b7W {l:List Ld} {x:Int}:(l.any fun f=>decide (f.At=x))=decide (x∈lAt l):=by
 unfold lAt;rw[Bool.eq_iff_iff];simp
theorem b6n (g:Gr) (l:List Ld) (n:Nat) (hn:g.Nodes=n) (hn1:0<n) (hn0:n≤1000) (hl0:l.length≤100000):d6 Try.prog 58 [g.av,lL l] (Bo (a1D g l l.length)):=by
 have f0:I9 n 9:=m8 (by omega) (by omega);have wn:IntKind.i64.wrap ((n:Int)-1)=(n:Int)-1:=f7 (by omega) (by omega);have hz:List.replicate n [AV.v (Value.int .i64 0)]=(a3l n []).map j0:=c1s n _ fun k=>rfl;refine d6.of_body Try.func58 rfl (by decide) (by simp[Try.ntmps58]) ?_;simp only[Try.ntmps58,Try.results58];refine aS fun K hK=>?_;simp -dsimp;apply hK;clear hK K;refine aS fun K hK=>?_;simp -dsimp [hn,f0];apply hK;clear hK K;refine b8 fun K1 hK1=>?_;refine aS fun K hK=>?_;simp -dsimp;apply hK;clear hK K;refine e8 ?_;refine b7 [1,2,5,6] ?_;simp only[zP,Nat.reduceEqDiff,reduceIte];refine i4 [1,2,5] (α:=Nat) (fun k=>[(6,I k)]) (fun k=>[some (.els 4 [g.cells]),some (.els 1 ((a3l n (lAt (l.take k))).map j0))]) (fun k=>k≤l.length∧a1D g l k=true) (fun k=>l.length-k) 0 ?_ ?_ ?_
 ·exact⟨Nat.zero_le _,rfl⟩
 ·exact e9 [some 0,some 1] rfl (by simp) (by simp[hn,hz])
 rintro k ⟨k1,k2⟩;simp only[zP,Nat.reduceEqDiff,reduceIte];refine b8 fun K2 hK2=>?_;refine aS fun K hK=>?_;simp -dsimp;apply hK;clear hK K;refine d8 rfl (fun hc0=>?_) (fun hc0=>?_)
 ·have hkl:k<l.length:=by simpa using hc0
  have wk:=zW k (by omega);obtain⟨f,hf⟩:∃f,l[k]?=some f:=⟨_,List.getElem?_eq_getElem hkl⟩;have hfd:ldB g (l.take k) f= !(!inr f.At 0 ((n:Int)-1)|| !inr f.Units (-40) 40|| !inr f.Rank 0 100|| !decide (Q1 (lAt (l.take k)) f.At=0)):=by
   have e:((l.take k).any fun x=>decide (x.At=f.At))= !decide (Q1 (lAt (l.take k)) f.At=0):=by
    rw[b7W,←decide_not];exact decide_eq_decide.2 (by rw[a0b,Decidable.not_not])
   simp only[ldB,hn,e]
   cases inr f.At 0 ((n:Int)-1)<;>cases inr f.Units (-40) 40<;>cases inr f.Rank 0 100<;>cases decide (Q1 (lAt (l.take k)) f.At=0)<;>rfl
  have hcn:=a0N f.At (lAt (l.take k));have hlt:(lAt (l.take k)).length≤k:=by unfold lAt;rw[List.length_map,List.length_take];omega
  have hcl:=a4O n (lAt (l.take k));have hn0l:0<(a3l n (lAt (l.take k))).length:=by omega
  have hend:ldB g (l.take k) f=false→a1D g l l.length=false:=fun h=>by
   have h1:a1D g l (k+1)=false:=by simp only[a1D,hf,h,Bool.and_false]
   have h2:=a7t h1 (l.length-(k+1))
   rwa [show k+1+(l.length-(k+1))=l.length by omega]at h2
  refine f5 ?_;simp only[zT,reduceIte,Nat.reduceEqDiff];refine hK2 _ _ ?_;refine b7 [1,2,5,6] ?_;simp only[zP,Nat.reduceEqDiff,reduceIte];refine b8 fun K3 hK3=>?_;refine e8 ?_;refine b8 fun K4 hK4=>?_;have hcase:inr f.At 0 ((n:Int)-1)=true→0≤f.At∧f.At.toNat<n:=fun h=>by rw[t4]at h;omega
  obtain⟨iA,hiA⟩:∃iA,iA=inr f.At 0 ((n:Int)-1):=⟨_,rfl⟩
  cases iA
  all_goals have hin:=hiA.symm
  rotate_left
  obtain⟨hA0,hat⟩:=hcase hin;have hal:f.At.toNat<(a3l n (lAt (l.take k))).length:=by omega
  have hga:(a3l n (lAt (l.take k)))[f.At.toNat]=Q1 (lAt (l.take k)) f.At:=Option.some.inj (by rw[←List.getElem?_eq_getElem hal,a0f hat,Int.toNat_of_nonneg hA0])
  rotate_left
  ·refine s9 l9 rfl fun K hK=>?_;simp -dsimp [hf,hn,wn,hin,hn0l,hn1];refine d5 _ (V7 _ _ _) (by simp) ?_;simp -dsimp [hf,hn,wn,hin,hn0l,hn1];refine l3 ((⟨0,0,0⟩:Ld).cells) (fun hm=>by simp[hin]at hm) ?_;simp -dsimp [hf,hn,wn,hin,hn0l,hn1];refine g8 _ (fun hm=>V7 0 (-40) 40) (by simp) ?_;simp -dsimp [hf,hn,wn,hin,hn0l,hn1];refine l3 ((⟨0,0,0⟩:Ld).cells) (fun hm=>by simp[hin]at hm) ?_;simp -dsimp [hf,hn,wn,hin,hn0l,hn1];refine g8 _ (fun hm=>V7 0 0 100) (by simp) ?_;simp -dsimp [hf,hn,wn,hin,hn0l,hn1];refine l3 ((⟨0,0,0⟩:Ld).cells) (fun hm=>by simp[hin]at hm) ?_;simp -dsimp [hf,hn,wn,hin,hn0l,hn1];refine hK _ _ _ (by decide+kernel) ?_;clear hK K;refine d8 rfl (fun hc1=>?_) (fun hc1=>?_)
   ·refine aS fun K hK=>?_;simp -dsimp;apply hK;clear hK K;exact g7 (by simp[hend (by rw[hfd,hin];rfl)])
   ·simp[hin]at hc1
  ·refine s9 l9 rfl fun K hK=>?_;simp -dsimp [hf,hn,wn,hin,hA0,hat,hal,hga];refine d5 _ (V7 _ _ _) (by simp) ?_;simp -dsimp [hf,hn,wn,hin,hA0,hat,hal,hga];refine l3 f.cells (fun _=>by simp[hf]) ?_;simp -dsimp [hf,hn,wn,hin,hA0,hat,hal,hga];refine g8 _ (fun hm=>V7 f.Units (-40) 40) (by simp) ?_;simp -dsimp [hf,hn,wn,hin,hA0,hat,hal,hga];refine l3 f.cells (fun _=>by simp[hf]) ?_;simp -dsimp [hf,hn,wn,hin,hA0,hat,hal,hga];refine g8 _ (fun hm=>V7 f.Rank 0 100) (by simp) ?_;simp -dsimp [hf,hn,wn,hin,hA0,hat,hal,hga];refine l3 f.cells (fun _=>by simp[hf]) ?_;simp -dsimp [hf,hn,wn,hin,hA0,hat,hal,hga];refine hK _ _ _ (by decide+kernel) ?_;clear hK K;refine d8 rfl (fun hc1=>?_) (fun hc1=>?_)
   ·refine aS fun K hK=>?_;simp -dsimp;apply hK;clear hK K;have hlf:ldB g (l.take k) f=false:=by
     rw[hfd,hin]
     cases h1:inr f.Units (-40) 40<;>cases h2:inr f.Rank 0 100<;>simp[h1,h2]at hc1 ⊢
     omega
    exact g7 (by simp[hend hlf])
   ·have hlt2:ldB g (l.take k) f=true:=by
     rw[hfd,hin]
     cases h1:inr f.Units (-40) 40<;>cases h2:inr f.Rank 0 100<;>simp[h1,h2]at hc1 ⊢
     omega
    have hst:=a8X (n:=n) (l:=lAt (l.take k)) (a:=f.At.toNat);rw[Int.toNat_of_nonneg hA0]at hst;have hsn:lAt (l.take (k+1))=lAt (l.take k)++[f.At]:=by unfold lAt;rw[List.take_add_one,hf];simp
    rw[←hsn]at hst;have wa:IntKind.i64.wrap (Q1 (lAt (l.take k)) f.At+1)=Q1 (lAt (l.take k)) f.At+1:=f7 (by omega) (by omega);refine f5 ?_;simp only[zT,reduceIte,Nat.reduceEqDiff];refine hK4 _ _ ?_;refine b7 [1,2,5,6] ?_;simp only[zP,Nat.reduceEqDiff,reduceIte];refine aR fun K hK=>?_;simp -dsimp [hf,hA0,hat,hal,hga,wa];apply hK;clear hK K;simp only[zT,reduceIte,Nat.reduceEqDiff];refine hK3 _ _ ?_;refine b7 [1,2,5,6] ?_;simp only[zP,Nat.reduceEqDiff,reduceIte];refine aR fun K hK=>?_;simp -dsimp [wk];apply hK;clear hK K;simp only[zT,reduceIte,Nat.reduceEqDiff];refine⟨k+1,⟨by omega,?_⟩,by omega,e9 [some 0,some 1] rfl (by simp) (by simp[←hst,List.map_set,j0,hn])⟩;simp only[a1D,k2,hf,hlt2,Bool.and_self]
 ·have hke:k=l.length:=by have hx:¬k<l.length:=(by simpa using hc0);omega
  subst hke;refine j8 ?_;simp only[zT,reduceIte,Nat.reduceEqDiff];refine hK1 _ _ ?_;refine b7 [] ?_;simp only[zP,Nat.reduceEqDiff,reduceIte];refine aS fun K hK=>?_;simp -dsimp;apply hK;clear hK K;exact g7 (by simp[k2])
theorem b7T (g:Gr) (s:Sta) (l:List Ld) (hw0:g.Wires.length≤100000) (hf0:g.Feeds.length≤100000) (hl0:l.length≤100000):d6 Try.prog 32 [g.av,s.av,lL l] (Bo (t7 g s l)):=by
 have hg:=b8K g hw0 hf0;have hs:=b5k g s hw0;have hl:grB g=true→d6 Try.prog 58 [g.av,lL l] (Bo (a1D g l l.length)):=fun h=>by
  have hbd:=t9 h;exact b6n g l g.Nodes.toNat (by omega) (by omega) (by omega) hl0
 refine d6.of_body Try.func32 rfl (by decide) (by simp[Try.ntmps32]) ?_;simp only[Try.ntmps32,Try.results32];refine aS fun K hK=>?_;simp -dsimp;apply hK;clear hK K;refine aS fun K hK=>?_;simp -dsimp;refine d5 _ (hg) (by simp) ?_;simp -dsimp;refine g8 _ (fun hm=>hs) (by simp) ?_;simp -dsimp;refine g8 _ (fun hm=>hl (by simp at hm;exact hm.1)) (by simp) ?_;simp -dsimp;apply hK;clear hK K;exact g7 (by simp[t7])
end Go.Cur
end
section
namespace Go.Cur
open Go.AM Go.Proofs
def nmS (n:Nat) (f:Nat→Nat):List Int:=(List.range n).map fun(k:Nat)=>((f k:Nat):Int)
theorem a0T {n:Nat} {f:Nat→Nat} {k:Nat} (h:k<n):(nmS n f)[k]?=some ((f k:Nat):Int):=by
 unfold nmS;rw[List.getElem?_map,List.getElem?_range h];rfl
theorem a7r (n:Nat) (f:Nat→Nat):(nmS n f).length=n:=by simp[nmS]
theorem a7O {n:Nat} {f:Nat→Nat} {a v:Nat}:(nmS n f).set a (v:Int)=nmS n fun k=>if k=a then v else f k:=by
 refine List.ext_getElem? fun i=>?_
 by_cases hi:i<n
 ·rw[a0T hi]
  by_cases h2:i=a
  ·subst h2;rw[List.getElem?_set_self (by simp[nmS];omega),if_pos rfl]
  ·rw[List.getElem?_set_ne (fun e=>h2 e.symm),a0T hi,if_neg h2]
 ·rw[List.getElem?_eq_none (by simp[nmS];omega),List.getElem?_eq_none (by simp[nmS];omega)]
theorem a2E {n:Nat} {f h:Nat→Nat} (e:∀k,k<n→f k=h k):nmS n f=nmS n h:=by
 unfold nmS;exact List.map_congr_left fun k hk=>by rw[e k (List.mem_range.1 hk)]
theorem b1u {l:List Wr} {b:List Bool} {k:Nat} {w:Wr} {c:Bool} (hl:l[k]?=some w) (hb:b[k]?=some c):onW (l.take (k+1)) (b.take (k+1))=onW (l.take k) (b.take k)++if c=true then [⟨w.A.toNat,w.B.toNat,w.Siem⟩]else []:=by
 have hk:=(List.getElem?_eq_some_iff.1 hl).1;have hk2:=(List.getElem?_eq_some_iff.1 hb).1;unfold onW;rw[List.take_add_one,List.take_add_one,hl,hb,List.zip_append (by simp;omega),List.filterMap_append]
 cases c<;>simp
theorem b5n (E:List (Nat×Nat)) (e:Nat×Nat) (f:Nat→Nat):nmR (E++[e]) f=nmE (nmR E f) e:=by
 unfold nmR;rw[List.foldl_append];rfl
def hdL (E:List (Nat×Nat)) (n i:Nat):List (List Nat):=((List.range i).filter fun j=>decide (nm E n j=j)).map (cp E n)
theorem b5c (E:List (Nat×Nat)) (n i:Nat):hdL E n (i+1)=hdL E n i++if nm E n i=i then [cp E n i]else []:=by
 unfold hdL;rw[List.range_succ,List.filter_append,List.map_append]
 by_cases h:nm E n i=i<;>simp[h]
theorem b8c (E:List (Nat×Nat)) (n i:Nat):(hdL E n i).length≤i:=by
 unfold hdL;rw[List.length_map];have:=List.length_filter_le (fun j=>decide (nm E n j=j)) (List.range i);simpa using this
def ptL (E:List (Nat×Nat)) (n i k:Nat):List Nat:=(List.range k).filter fun q=>decide (nm E n q=i)
theorem b0h (E:List (Nat×Nat)) (n i:Nat):ptL E n i i=[]:=by
 unfold ptL;rw[List.filter_eq_nil_iff];intro q hq;have:=b8P (E:=E) (n:=n) (k:=q);rw[List.mem_range]at hq;simp;omega
theorem b4L (E:List (Nat×Nat)) (n i k:Nat):ptL E n i (k+1)=ptL E n i k++if nm E n k=i then [k]else []:=by
 unfold ptL;rw[List.range_succ,List.filter_append]
 by_cases h:nm E n k=i<;>simp[h]
theorem b9f (E:List (Nat×Nat)) (n i k:Nat):(ptL E n i k).length≤k:=by
 unfold ptL;have:=List.length_filter_le (fun q=>decide (nm E n q=i)) (List.range k);simpa using this
theorem Y6 (g:Gr) (s:Sta) (hnt:o7 g s):d6 Try.prog 23 [g.av,s.av] (.lst 1 ((j7 g s).map pAV)):=by
 have hbd:=t9 hnt.gr;have hsw:=hnt.sw;have hwr:=hnt.wires;have hwo:∀(k:Nat) w,g.Wires[k]?=some w→w.A.toNat<g.Nodes.toNat∧w.B.toNat<g.Nodes.toNat∧0≤w.A∧0≤w.B:=fun k w hw=>by
  have:=hwr w (List.mem_of_getElem? hw);simp only[wrB,Bool.and_eq_true,t4]at this;omega
 have hpl:j7 g s=hdL (a7E g s) g.Nodes.toNat g.Nodes.toNat:=rfl;rw[hpl];have hEe:a7E g s=U3 (onW g.Wires s.Wires):=rfl;obtain⟨n,hn⟩:∃n:Nat,g.Nodes=n:=⟨g.Nodes.toNat,by omega⟩;have hnn:g.Nodes.toNat=n:=by omega
 rw[hnn]at hwo ⊢;generalize a7E g s=E at hEe ⊢;have f0:I9 n 9:=m8 (by omega) (by omega);have hz:List.replicate n [AV.v (Value.int .i64 0)]=(nmS n fun _=>0).map j0:=c1s n _ fun k=>rfl;refine d6.of_body Try.func23 rfl (by decide) (by simp[Try.ntmps23]) ?_;simp only[Try.ntmps23,Try.results23];refine aS fun K hK=>?_;simp -dsimp;apply hK;clear hK K;refine aS fun K hK=>?_;simp -dsimp [hn,f0];apply hK;clear hK K;refine b8 fun K1 hK1=>?_;refine aS fun K hK=>?_;simp -dsimp;apply hK;clear hK K;refine e8 ?_;refine b7 [2,3,5,6] ?_;simp only[zP,Nat.reduceEqDiff,reduceIte];refine i4 [2,3,5] (α:=Nat) (fun k=>[(6,I k)]) (fun k=>[some (.els 4 [g.cells]),some (.els 2 [s.cells]),some (.els 1 ((nmS n fun j=>if j<k then j else 0).map j0))]) (fun k=>k≤n) (fun k=>n-k) 0 ?_ ?_ ?_
 ·exact Nat.zero_le _
 ·exact e9 [some 0,some 1,some 2] rfl (by simp) (by simp[hn,hz])
 rintro k k1;simp only[zP,Nat.reduceEqDiff,reduceIte];refine b8 fun K2 hK2=>?_;refine aS fun K hK=>?_;simp -dsimp [hn];apply hK;clear hK K;refine d8 rfl (fun hc0=>?_) (fun hc0=>?_)
 ·have hkl:k<n:=by simpa using hc0
  have wk:=zW k (by omega);have hnl:=a7r n fun j=>if j<k then j else 0;have hst:=a7O (n:=n) (f:=fun j=>if j<k then j else 0) (a:=k) (v:=k);have hst2:nmS n (fun j=>if j=k then k else if j<k then j else 0)=nmS n fun j=>if j<k+1 then j else 0:=a2E fun j hj=>by
   by_cases h1:j=k
   ·rw[if_pos h1,if_pos (by omega),h1]
   ·rw[if_neg h1]
    by_cases h2:j<k
    ·rw[if_pos h2,if_pos (by omega)]
    ·rw[if_neg h2,if_neg (by omega)]
  rw[hst2]at hst;generalize (nmS n fun j=>if j<k then j else 0)=R at hnl hst ⊢;refine f5 ?_;simp only[zT,reduceIte,Nat.reduceEqDiff];refine hK2 _ _ ?_;refine b7 [2,3,5,6] ?_;simp only[zP,Nat.reduceEqDiff,reduceIte];refine b8 fun K3 hK3=>?_;refine e8 ?_;refine aR fun K hK=>?_;simp -dsimp [hnl,hkl];apply hK;clear hK K;simp only[zT,reduceIte,Nat.reduceEqDiff];refine hK3 _ _ ?_;refine b7 [2,3,5,6] ?_;simp only[zP,Nat.reduceEqDiff,reduceIte];refine aR fun K hK=>?_;simp -dsimp [wk];apply hK;clear hK K;simp only[zT,reduceIte,Nat.reduceEqDiff];exact⟨k+1,by omega,by omega,e9 [some 0,some 1,some 2] rfl (by simp) (by simp[←hst,List.map_set,j0,hn])⟩
 ·have hke:k=n:=by have hx:¬k<n:=(by simpa using hc0);omega
  have e0:nmS n (fun j=>if j<k then j else 0)=nmS n (nmT E 0):=a2E fun j hj=>by rw[if_pos (by omega)];rfl
  rw[e0];refine j8 ?_;simp only[zT,reduceIte,Nat.reduceEqDiff];refine hK1 _ _ ?_;refine b7 [2,3,5] ?_;simp only[zP,Nat.reduceEqDiff,reduceIte];refine b8 fun K4 hK4=>?_;refine aS fun K hK=>?_;simp -dsimp;apply hK;clear hK K;refine e8 ?_;refine b7 [2,3,5,7] ?_;simp only[zP,Nat.reduceEqDiff,reduceIte];refine i4 [2,3,5] (α:=Nat) (fun t=>[(7,I t)]) (fun t=>[some (.els 4 [g.cells]),some (.els 2 [s.cells]),some (.els 1 ((nmS n (nmT E t)).map j0))]) (fun t=>t≤n) (fun t=>n-t) 0 ?_ ?_ ?_
  ·exact Nat.zero_le _
  ·exact e9 [some 0,some 1,some 2] rfl (by simp) (by simp[hn])
  rintro t t1;simp only[zP,Nat.reduceEqDiff,reduceIte];refine b8 fun K5 hK5=>?_;refine aS fun K hK=>?_;simp -dsimp [hn];apply hK;clear hK K;refine d8 rfl (fun hc1=>?_) (fun hc1=>?_)
  ·have htl:t<n:=by simpa using hc1
   have wt:=zW t (by omega);refine f5 ?_;simp only[zT,reduceIte,Nat.reduceEqDiff];refine hK5 _ _ ?_;refine b7 [2,3,5,7] ?_;simp only[zP,Nat.reduceEqDiff,reduceIte];refine b8 fun K6 hK6=>?_;refine e8 ?_;refine aS fun K hK=>?_;simp -dsimp;apply hK;clear hK K;refine e8 ?_;refine b7 [2,3,5,7,8] ?_;simp only[zP,Nat.reduceEqDiff,reduceIte];refine i4 [2,3,5,7] (α:=Nat) (fun i=>[(8,I i)]) (fun i=>[some (.els 4 [g.cells]),some (.els 2 [s.cells]),some (.els 1 ((nmS n (nmR (U3 (onW (g.Wires.take i) (s.Wires.take i))) (nmT E t))).map j0))]) (fun i=>i≤g.Wires.length) (fun i=>g.Wires.length-i) 0 ?_ ?_ ?_
   ·exact Nat.zero_le _
   ·exact e9 [some 0,some 1,some 2] rfl (by simp) (by simp[onW,U3,nmR,hn])
   rintro i i1;simp only[zP,Nat.reduceEqDiff,reduceIte];refine b8 fun K7 hK7=>?_;refine aS fun K hK=>?_;simp -dsimp;apply hK;clear hK K;refine d8 rfl (fun hc2=>?_) (fun hc2=>?_)
   ·have hil:i<g.Wires.length:=by simpa using hc2
    have wi:=zW i (by omega);obtain⟨w,hw⟩:∃w,g.Wires[i]?=some w:=⟨_,List.getElem?_eq_getElem hil⟩;have gb:=v9 (l:=s.Wires) (k:=i) (by omega);have hos:=b1u hw gb;obtain⟨ha,hb,ha0,hb0⟩:=hwo i w hw;obtain⟨a,hae⟩:∃a:Nat,w.A=a:=⟨w.A.toNat,by omega⟩;obtain⟨b,hbe⟩:∃b:Nat,w.B=b:=⟨w.B.toNat,by omega⟩;have han:a<n:=by omega
    have hbn:b<n:=by omega
    obtain⟨f,hf⟩:∃f,f=nmR (U3 (onW (g.Wires.take i) (s.Wires.take i))) (nmT E t):=⟨_,rfl⟩;rw[←hf];have hnl:=a7r n f;have ga:=a0T (f:=f) han;have gbb:=a0T (f:=f) hbn;have hst:((nmS n f).set a ((min (f a) (f b):Nat):Int)).set b ((min (f a) (f b):Nat):Int)=nmS n (nmE f (a,b)):=by
     rw[a7O,a7O];refine a2E fun j hj=>?_;unfold nmE;simp only
     by_cases h1:j=b
     ·rw[if_pos h1,if_pos (Or.inr h1)]
     ·rw[if_neg h1]
      by_cases h2:j=a
      ·rw[if_pos h2,if_pos (Or.inl h2)]
      ·rw[if_neg h2,if_neg (by omega)]
    have hmn:(if f b<f a then((f b:Nat):Int)else((f a:Nat):Int))=((min (f a) (f b):Nat):Int):=by split<;>omega
    have hab:a≠b:=by have:=hwr w (List.mem_of_getElem? hw);simp only[wrB,Bool.and_eq_true,Bool.not_eq_true',decide_eq_false_iff_not]at this;omega
    have his:i<s.Wires.length:=by omega
    have hgs:s.Wires[i]=bAt s.Wires i:=Option.some.inj (by rw[←List.getElem?_eq_getElem his];exact gb);obtain⟨R,hR⟩:∃R,R=nmS n f:=⟨_,rfl⟩;rw[←hR]at hnl ga gbb hst ⊢;have hal:a<R.length:=by omega
    have hbl:b<R.length:=by omega
    have hga:R[a]=((f a:Nat):Int):=Option.some.inj (by rw[←List.getElem?_eq_getElem hal];exact ga);have hgb:R[b]=((f b:Nat):Int):=Option.some.inj (by rw[←List.getElem?_eq_getElem hbl];exact gbb);refine f5 ?_;simp only[zT,reduceIte,Nat.reduceEqDiff];refine hK7 _ _ ?_;refine b7 [2,3,5,7,8] ?_;simp only[zP,Nat.reduceEqDiff,reduceIte];refine b8 fun K8 hK8=>?_;refine e8 ?_;refine aS fun K hK=>?_;simp -dsimp [hw];apply hK;clear hK K;refine aS fun K hK=>?_;simp -dsimp [hgs,his];apply hK;clear hK K;refine d8 rfl (fun hc3=>?_) (fun hc3=>?_)
    ·refine s9 l9 rfl fun K hK=>?_;simp -dsimp [hae,hbe,hal,hbl,han,hbn,hga,hgb,hmn];refine hK _ _ _ (by decide+kernel) ?_;clear hK K;refine O0 l9 rfl fun K hK=>?_;simp -dsimp [hae,hbe,hal,hbl,han,hbn,hab,hgb];refine hK _ _ _ (by decide+kernel) ?_;clear hK K;simp only[zT,reduceIte,Nat.reduceEqDiff];refine hK8 _ _ ?_;refine b7 [2,3,5,7,8] ?_;simp only[zP,Nat.reduceEqDiff,reduceIte];refine aR fun K hK=>?_;simp -dsimp [wi];apply hK;clear hK K;simp only[zT,reduceIte,Nat.reduceEqDiff];have hon:U3 (onW (g.Wires.take (i+1)) (s.Wires.take (i+1)))=U3 (onW (g.Wires.take i) (s.Wires.take i))++[(a,b)]:=by rw[hos,if_pos hc3];unfold U3;rw[List.map_append];simp[Wn.e,hae,hbe]
     refine⟨i+1,by omega,by omega,e9 [some 0,some 1,some 2] rfl (by simp) ?_⟩;rw[hon,b5n,←hf,←hst];simp[List.map_set,j0,hn]
    ·refine f5 ?_;simp only[zT,reduceIte,Nat.reduceEqDiff];refine hK8 _ _ ?_;refine b7 [2,3,5,7,8] ?_;simp only[zP,Nat.reduceEqDiff,reduceIte];refine aR fun K hK=>?_;simp -dsimp [wi];apply hK;clear hK K;simp only[zT,reduceIte,Nat.reduceEqDiff];have hon:U3 (onW (g.Wires.take (i+1)) (s.Wires.take (i+1)))=U3 (onW (g.Wires.take i) (s.Wires.take i)):=by rw[hos,if_neg (by simp[hc3]),List.append_nil]
     refine⟨i+1,by omega,by omega,e9 [some 0,some 1,some 2] rfl (by simp) ?_⟩;rw[hon,←hf];simp[hn,hR]
   ·have hie:i=g.Wires.length:=by have hx:¬i<g.Wires.length:=(by simpa using hc2);omega
    have e1:nmR (U3 (onW (g.Wires.take i) (s.Wires.take i))) (nmT E t)=nmT E (t+1):=by rw[hie,List.take_of_length_le (Nat.le_refl _),List.take_of_length_le (by omega),←hEe];rfl
    rw[e1];refine j8 ?_;simp only[zT,reduceIte,Nat.reduceEqDiff];refine hK6 _ _ ?_;refine b7 [2,3,5,7] ?_;simp only[zP,Nat.reduceEqDiff,reduceIte];refine aR fun K hK=>?_;simp -dsimp [wt];apply hK;clear hK K;simp only[zT,reduceIte,Nat.reduceEqDiff];exact⟨t+1,by omega,by omega,e9 [some 0,some 1,some 2] rfl (by simp) (by simp[hn])⟩
  ·have hte:t=n:=by have hx:¬t<n:=(by simpa using hc1);omega
   rw[hte,show nmT E n=nm E n from rfl];refine j8 ?_;simp only[zT,reduceIte,Nat.reduceEqDiff];refine hK4 _ _ ?_;refine b7 [2,5] ?_;simp only[zP,Nat.reduceEqDiff,reduceIte];refine aS fun K hK=>?_;simp -dsimp;apply hK;clear hK K;refine b8 fun K9 hK9=>?_;refine aS fun K hK=>?_;simp -dsimp;apply hK;clear hK K;refine e8 ?_;refine b7 [2,5,11,12] ?_;simp only[zP,Nat.reduceEqDiff,reduceIte];refine i4 [2,5] (α:=Nat) (fun i=>[(11, .row 3 0 (hdL E n i).length),(12,I i)]) (fun i=>[some (.els 4 [g.cells]),some (.els 2 [s.cells]),some (.els 1 ((nmS n (nm E n)).map j0)),some (.els 1 ((hdL E n i).map pAV))]) (fun i=>i≤n) (fun i=>n-i) 0 ?_ ?_ ?_
   ·exact Nat.zero_le _
   ·exact(H4 11 1 (by simp)).trans (e9 [some 0,some 1,some 2,some 3] rfl (by simp[hdL]) (by simp[hdL,hn]))
   rintro i i1;simp only[zP,Nat.reduceEqDiff,reduceIte];refine b8 fun K10 hK10=>?_;refine aS fun K hK=>?_;simp -dsimp [hn];apply hK;clear hK K;refine d8 rfl (fun hc4=>?_) (fun hc4=>?_)
   ·have hil:i<n:=by simpa using hc4
    have wi:=zW i (by omega);have gi:=a0T (f:=nm E n) hil;have hnl:=a7r n (nm E n);have hhs:=b5c E n i;have hhl:=b8c E n i;have f1:I9 ((hdL E n i).length+1) 25:=m8 (by omega) (by omega);have hil2:i<(nmS n (nm E n)).length:=by omega
    have hgi:(nmS n (nm E n))[i]=((nm E n i:Nat):Int):=Option.some.inj (by rw[←List.getElem?_eq_getElem hil2];exact gi);refine f5 ?_;simp only[zT,reduceIte,Nat.reduceEqDiff];refine hK10 _ _ ?_;refine b7 [2,5,11,12] ?_;simp only[zP,Nat.reduceEqDiff,reduceIte];refine b8 fun K11 hK11=>?_;refine e8 ?_;refine b8 fun K12 hK12=>?_;refine aS fun K hK=>?_;simp -dsimp [hil2,hil,hgi];apply hK;clear hK K;refine d8 rfl (fun hc5=>?_) (fun hc5=>?_)
    ·have hne:¬nm E n i=i:=by intro h;simp[h]at hc5
     rw[if_neg hne,List.append_nil]at hhs;refine j8 ?_;simp only[zT,reduceIte,Nat.reduceEqDiff];refine hK11 _ _ ?_;refine b7 [2,5,11,12] ?_;simp only[zP,Nat.reduceEqDiff,reduceIte];refine aR fun K hK=>?_;simp -dsimp [wi];apply hK;clear hK K;simp only[zT,reduceIte,Nat.reduceEqDiff];exact⟨i+1,by omega,by omega,e9 [some 0,some 1,some 2,some 3] rfl (by simp[hhs]) (by simp[hhs,hn])⟩
    ·have heq:nm E n i=i:=by have h:=hc5;simp at h;omega
     rw[if_pos heq]at hhs;refine f5 ?_;simp only[zT,reduceIte,Nat.reduceEqDiff];refine hK12 _ _ ?_;refine b7 [2,5,11,12] ?_;simp only[zP,Nat.reduceEqDiff,reduceIte];refine aS fun K hK=>?_;simp -dsimp;apply hK;clear hK K;refine b8 fun K13 hK13=>?_;refine aS fun K hK=>?_;simp -dsimp;apply hK;clear hK K;refine e8 ?_;refine b7 [2,5,11,12,13,14] ?_;simp only[zP,Nat.reduceEqDiff,reduceIte];refine i4 [2,5,11,12] (α:=Nat) (fun k=>[(13, .row 4 0 (ptL E n i k).length),(14,I k)]) (fun k=>[some (.els 4 [g.cells]),some (.els 2 [s.cells]),some (.els 1 ((nmS n (nm E n)).map j0)),some (.els 1 ((hdL E n i).map pAV)),some (.els 1 ((upN (ptL E n i k)).map j0))]) (fun k=>k≤n) (fun k=>n-k) i ?_ ?_ ?_
     ·exact i1
     ·exact(H4 13 1 (by simp)).trans (e9 [some 0,some 1,some 2,some 3,some 4] rfl (by simp[b0h]) (by simp[b0h,upN,hn]))
     rintro k k1;simp only[zP,Nat.reduceEqDiff,reduceIte];refine b8 fun K14 hK14=>?_;refine aS fun K hK=>?_;simp -dsimp [hn];apply hK;clear hK K;refine d8 rfl (fun hc6=>?_) (fun hc6=>?_)
     ·have hkl:k<n:=by simpa using hc6
      have wk:=zW k (by omega);have gk:=a0T (f:=nm E n) hkl;have hps:=b4L E n i k;have hpl2:=b9f E n i k;have hul:=o9 (ptL E n i k);have f2:I9 ((ptL E n i k).length+1) 9:=m8 (by omega) (by omega);have hkl2:k<(nmS n (nm E n)).length:=by omega
      have hgk:(nmS n (nm E n))[k]=((nm E n k:Nat):Int):=Option.some.inj (by rw[←List.getElem?_eq_getElem hkl2];exact gk);refine f5 ?_;simp only[zT,reduceIte,Nat.reduceEqDiff];refine hK14 _ _ ?_;refine b7 [2,5,11,12,13,14] ?_;simp only[zP,Nat.reduceEqDiff,reduceIte];refine b8 fun K15 hK15=>?_;refine e8 ?_;refine aS fun K hK=>?_;simp -dsimp [hkl2,hkl,hgk];apply hK;clear hK K;refine d8 rfl (fun hc7=>?_) (fun hc7=>?_)
      ·have hnk:nm E n k=i:=by have h:=hc7;simp at h;omega
       rw[if_pos hnk]at hps;refine aR fun K hK=>?_;simp -dsimp [f2,hul];apply hK;clear hK K;simp only[zT,reduceIte,Nat.reduceEqDiff];refine hK15 _ _ ?_;refine b7 [2,5,11,12,13,14] ?_;simp only[zP,Nat.reduceEqDiff,reduceIte];refine aR fun K hK=>?_;simp -dsimp [wk];apply hK;clear hK K;simp only[zT,reduceIte,Nat.reduceEqDiff];exact⟨k+1,by omega,by omega,e9 [some 0,some 1,some 2,some 3,some 5] rfl (by simp[hps]) (by simp[hps,upN,hn])⟩
      ·have hnk:¬nm E n k=i:=by intro h;simp[h]at hc7
       rw[if_neg hnk,List.append_nil]at hps;refine f5 ?_;simp only[zT,reduceIte,Nat.reduceEqDiff];refine hK15 _ _ ?_;refine b7 [2,5,11,12,13,14] ?_;simp only[zP,Nat.reduceEqDiff,reduceIte];refine aR fun K hK=>?_;simp -dsimp [wk];apply hK;clear hK K;simp only[zT,reduceIte,Nat.reduceEqDiff];exact⟨k+1,by omega,by omega,e9 [some 0,some 1,some 2,some 3,some 4] rfl (by simp[hps]) (by simp[hps,hn])⟩
     ·have hke:k=n:=by have hx:¬k<n:=(by simpa using hc6);omega
      have hcp:ptL E n i k=cp E n i:=by rw[hke];rfl
      rw[hcp];have hul:=o9 (cp E n i);have htk:List.take (cp E n i).length ((upN (cp E n i)).map j0)=(upN (cp E n i)).map j0:=List.take_of_length_le (by rw[List.length_map];omega);refine N7 (D5 (T':=[(2, .ptr 0 0 0),(5, .row 2 0 n),(11, .row 3 0 (hdL E n i).length),(12,I i),(13,iL (upN (cp E n i)))]) (H':=[some (.els 4 [g.cells]),some (.els 2 [s.cells]),some (.els 1 ((nmS n (nm E n)).map j0)),some (.els 1 ((hdL E n i).map pAV))]) [some 0,some 1,some 2,some 3] rfl ⟨.inr (by simp), .inr (by simp), .inr (by simp), .inr (by simp), .inr (by simp[htk,hul]),trivial⟩ (by simp[pAV,hn])) ?_;refine j8 ?_;simp only[zT,reduceIte,Nat.reduceEqDiff];refine hK13 _ _ ?_;refine b7 [2,5,11,12,13] ?_;simp only[zP,Nat.reduceEqDiff,reduceIte];refine aR fun K hK=>?_;simp -dsimp [f1];apply hK;clear hK K;simp only[zT,reduceIte,Nat.reduceEqDiff];refine hK11 _ _ ?_;refine b7 [2,5,11,12] ?_;simp only[zP,Nat.reduceEqDiff,reduceIte];refine aR fun K hK=>?_;simp -dsimp [wi];apply hK;clear hK K;simp only[zT,reduceIte,Nat.reduceEqDiff];exact⟨i+1,by omega,by omega,e9 [some 0,some 1,some 2,some 4] rfl (by simp[hhs]) (by simp[hhs,pAV,hn])⟩
   ·have hie:i=n:=by have hx:¬i<n:=(by simpa using hc4);omega
    rw[hie];refine j8 ?_;simp only[zT,reduceIte,Nat.reduceEqDiff];refine hK9 _ _ ?_;refine b7 [11] ?_;simp only[zP,Nat.reduceEqDiff,reduceIte];refine aS fun K hK=>?_;simp -dsimp;apply hK;clear hK K;exact g7 (by simp[pAV])
end Go.Cur
end
section
namespace Go.Cur
open Go.AM Go.Proofs
def exG (lim:Int):Gr:=⟨3,[⟨0,1,2,false⟩,⟨1,2,1,true⟩],[⟨0,600,2,lim⟩,⟨2,600,1,30⟩],500⟩
def exS (b:Bool):Sta:=⟨[true,true],[true,b]⟩
def exL:List Ld:=[⟨1,40,0⟩]
theorem a0M:t7 (exG 100) (exS false) exL=true∧t7 (exG 100) (exS true) exL=true∧t7 (exG 39) (exS false) exL=true∧t7 (exG 39) (exS true) exL=true:=by decide+kernel
theorem a8z (lim:Int) (b:Bool):C5 (exG lim) (exS b)=false:=by
 show C5 (exG 0) (exS b)=false
 cases b<;>decide+kernel
theorem b3a (lim:Int) (b:Bool) (fe:List Bool):∀p∈j7 (exG lim) ⟨fe,[true,b]⟩,p.length≤5:=by
 show∀p∈j7 (exG 0) ⟨[],[true,b]⟩,p.length≤5
 cases b<;>decide+kernel
theorem b7K:okS (exG 100) (exS false) (tkK exL (A4 exL))=true∧vlA 3 (vfS (exG 100) (exS false) (tkK exL (A4 exL)))=[⟨580,1⟩,⟨560,1⟩,⟨600,1⟩]∧flA (exG 100) (exS false) (vfS (exG 100) (exS false) (tkK exL (A4 exL)))=[⟨40,1⟩,⟨0,1⟩]:=by decide+kernel
theorem c1c:okS (exG 100) (exS true) (tkK exL (A4 exL))=true∧vlA 3 (vfS (exG 100) (exS true) (tkK exL (A4 exL)))=[⟨1760,3⟩,⟨1720,3⟩,⟨1760,3⟩]:=by decide+kernel
theorem c2B:D1 (exG 39) [true,false] exL [true,true]=⟨[false],[false,true],[⟨4,0,⟨40,1⟩⟩,⟨1,0,⟨0,1⟩⟩]⟩:=by decide+kernel
theorem c0M:b1k [true,false] 2=[1]:=by decide+kernel
def exR (c:List Int):Bool:=rlB (exG 39) (exS false) c exL
theorem b7r:b6s exR [1]=(true,some [1]):=by decide+kernel
end Go.Cur
end
section
namespace Go.Cur
open Go.AM Go.Proofs
def b9R (g:Gr) (s:Sta) (n:Nat):Bool:=decide (g.Wires.length≤100)&&(decide (g.Feeds.length≤20)&&(decide (s.Feeds.length≤20)&&(decide (s.Wires.length≤100)&&(decide (n≤50)&&(decide (g.Nodes≤12)||decide (40<g.Nodes))))))
theorem c2I (g:Gr) (s:Sta) (l:List Ld):d6 Try.prog 14 [g.av,s.av,lL l] (Bo (b9R g s l.length)):=by
 refine d6.of_body Try.func14 rfl (by decide) (by simp[Try.ntmps14]) ?_;simp only[Try.ntmps14,Try.results14];refine aS fun K hK=>?_;simp -dsimp;apply hK;clear hK K;refine aS fun K hK=>?_;simp -dsimp;apply hK;clear hK K;have e:∀n m:Nat,decide ((n:Int)≤m)=decide (n≤m):=fun n m=>decide_eq_decide.2 (by omega);exact g7 (by simp[b9R,←e,Bool.and_assoc])
theorem b0t (g:Gr) (s:Sta):a8M (j7 g s)= !C5 g s:=by
 unfold a8M C5;rw[List.not_any_eq_all_not]
 congr 1
 funext p
 by_cases h:p.length≤10
 ·simp[h]
 ·simp[h];omega
def a4N (g:Gr) (s:Sta) (l:List Ld):Int:=if t7 g s l=true then(if C5 g s=true then 3 else 0)else 2
theorem a2x (g:Gr) (s:Sta) (l:List Ld) (hw0:g.Wires.length≤100000) (hf0:g.Feeds.length≤100000) (hl0:l.length≤100000):d6 Try.prog 16 [g.av,s.av,lL l] (I (a4N g s l)):=by
 have hfn:=b7T g s l hw0 hf0 hl0;unfold a4N;refine d6.of_body Try.func16 rfl (by decide) (by simp[Try.ntmps16]) ?_;simp only[Try.ntmps16,Try.results16];refine aS fun K hK=>?_;simp -dsimp;apply hK;clear hK K;refine b8 fun K1 hK1=>?_;refine aS fun K hK=>?_;simp -dsimp;refine d5 _ (hfn) (by simp) ?_;simp -dsimp;apply hK;clear hK K;refine d8 rfl (fun hc0=>?_) (fun hc0=>?_)
 ·refine aS fun K hK=>?_;simp -dsimp;apply hK;clear hK K;have hf:t7 g s l=false:=by simpa using hc0
  exact g7 (by simp[hf])
 ·have hf:t7 g s l=true:=by simpa using hc0
  have hnt:=u6 hf;have hbd:=t9 hnt.gr;have hpl:=M3 g s;have hsm:=b5V (j7 g s) (by omega);rw[b0t]at hsm;refine f5 ?_;simp only[zT,reduceIte,Nat.reduceEqDiff];refine hK1 _ _ ?_;refine b7 [3,4] ?_;simp only[zP,Nat.reduceEqDiff,reduceIte];refine b8 fun K2 hK2=>?_;refine aS fun K hK=>?_;simp -dsimp;refine d5 _ (Y6 g s hnt) (by simp) ?_;simp -dsimp;refine d5 _ (hsm) (by simp) ?_;simp -dsimp;apply hK;clear hK K;refine d8 rfl (fun hc1=>?_) (fun hc1=>?_)
  ·refine aS fun K hK=>?_;simp -dsimp;apply hK;clear hK K;have h:C5 g s=true:=by simpa using hc1
   exact g7 (by simp[hf,h])
  ·refine f5 ?_;simp only[zT,reduceIte,Nat.reduceEqDiff];refine hK2 _ _ ?_;refine b7 [] ?_;simp only[zP,Nat.reduceEqDiff,reduceIte];refine aS fun K hK=>?_;simp -dsimp;apply hK;clear hK K;have h:C5 g s=false:=by simpa using hc1
   exact g7 (by simp[hf,h])
def b6J (g:Gr) (s:Sta) (p:List Nat):Bool:= !((decide (5<p.length)&&decide (p.length≤10))||decide (5<(k8 g s (upN p)).length))
def b4J (g:Gr) (s:Sta):Bool:=(j7 g s).all (b6J g s)
theorem a4B (g:Gr) (s:Sta) (hnt:o7 g s):d6 Try.prog 17 [g.av,s.av] (Bo (b4J g s)):=by
 have hbd:=t9 hnt.gr;have hpl:=M3 g s;have hlen:∀p∈j7 g s,p.length≤40:=fun p hp=>by
  obtain⟨i,hi,rfl⟩:=E5 hp;unfold cp;have:=List.length_filter_le (fun k=>decide (nm (a7E g s) g.Nodes.toNat k=i)) (List.range g.Nodes.toNat);rw[List.length_range]at this;omega
 unfold b4J;have hps:=Y6 g s hnt;generalize j7 g s=ps at hpl hlen hps ⊢;refine d6.of_body Try.func17 rfl (by decide) (by simp[Try.ntmps17]) ?_;simp only[Try.ntmps17,Try.results17];refine aS fun K hK=>?_;simp -dsimp;apply hK;clear hK K;refine aS fun K hK=>?_;simp -dsimp;refine d5 _ (hps) (by simp) ?_;simp -dsimp;apply hK;clear hK K;refine b8 fun K1 hK1=>?_;refine aS fun K hK=>?_;simp -dsimp;apply hK;clear hK K;refine e8 ?_;refine b7 [2,3,5,6] ?_;simp only[zP,Nat.reduceEqDiff,reduceIte];refine i4 [2,3,5] (α:=Nat) (fun k=>[(6,I k)]) (fun k=>[some (.els 4 [g.cells]),some (.els 2 [s.cells])]) (fun k=>k≤ps.length∧(ps.take k).all (b6J g s)=true) (fun k=>ps.length-k) 0 ?_ ?_ ?_
 ·exact⟨Nat.zero_le _,rfl⟩
 ·exact e9 [some 0,some 1] rfl (by simp) (by simp)
 rintro k ⟨k1,k2⟩;simp only[zP,Nat.reduceEqDiff,reduceIte];refine b8 fun K2 hK2=>?_;refine aS fun K hK=>?_;simp -dsimp;apply hK;clear hK K;refine d8 rfl (fun hc0=>?_) (fun hc0=>?_)
 ·have hkl:k<ps.length:=by simpa using hc0
  have wk:=zW k (by omega);obtain⟨p,hp⟩:∃p,ps[k]?=some p:=⟨_,List.getElem?_eq_getElem hkl⟩;have hul:=o9 p;have hp40:=hlen p (List.mem_of_getElem? hp);have hfd:=a0x g s (upN p) hnt.sf (by omega) (by omega);have hlt:b6J g s p= !((decide (5<((upN p).length:Int))&&decide (((upN p).length:Int)≤10))||decide (5<((k8 g s (upN p)).length:Int))):=by
   unfold b6J;rw[hul];have e1:decide (5<p.length)=decide ((5:Int)<(p.length:Int)):=decide_eq_decide.2 (by omega);have e2:decide (p.length≤10)=decide ((p.length:Int)≤10):=decide_eq_decide.2 (by omega);have e3:decide (5<(k8 g s (upN p)).length)=decide ((5:Int)<((k8 g s (upN p)).length:Int)):=decide_eq_decide.2 (by omega);rw[e1,e2,e3]
  refine f5 ?_;simp only[zT,reduceIte,Nat.reduceEqDiff];refine hK2 _ _ ?_;refine b7 [2,3,5,6] ?_;simp only[zP,Nat.reduceEqDiff,reduceIte];refine b8 fun K3 hK3=>?_;refine e8 ?_;refine s9 l9 rfl fun K hK=>?_;simp -dsimp [hp,pAV];refine l3 ([iL (upN p)]) (fun _=>by simp[hp,pAV]) ?_;simp -dsimp [hp,pAV];refine l3 ([iL (upN p)]) (fun _=>by simp[hp,pAV]) ?_;simp -dsimp [hp,pAV];refine g8 _ (fun hm=>hfd) (by simp) ?_;simp -dsimp [hp,pAV];refine hK _ _ _ (by decide+kernel) ?_;clear hK K;refine d8 rfl (fun hc1=>?_) (fun hc1=>?_)
  ·refine aS fun K hK=>?_;simp -dsimp;apply hK;clear hK K;have hf:b6J g s p=false:=by rw[hlt,hc1];rfl
   have hall:ps.all (b6J g s)=false:=by rw[List.all_eq_false];exact⟨p,List.mem_of_getElem? hp,by simp[hf]⟩
   exact g7 (by simp[hall])
  ·refine f5 ?_;simp only[zT,reduceIte,Nat.reduceEqDiff];refine hK3 _ _ ?_;refine b7 [2,3,5,6] ?_;simp only[zP,Nat.reduceEqDiff,reduceIte];refine aR fun K hK=>?_;simp -dsimp [wk];apply hK;clear hK K;simp only[zT,reduceIte,Nat.reduceEqDiff];have ht:b6J g s p=true:=by rw[hlt,hc1];rfl
   exact⟨k+1,⟨by omega,by rw[List.take_add_one,hp,List.all_append,k2];simp[ht]⟩,by omega,e9 [some 0,some 1] rfl (by simp) (by simp)⟩
 ·have hke:¬k<ps.length:=by simpa using hc0
  rw[List.take_of_length_le (by omega)]at k2;refine j8 ?_;simp only[zT,reduceIte,Nat.reduceEqDiff];refine hK1 _ _ ?_;refine b7 [] ?_;simp only[zP,Nat.reduceEqDiff,reduceIte];refine aS fun K hK=>?_;simp -dsimp;apply hK;clear hK K;exact g7 (by simp[k2])
theorem b6K (c:List Int) (hc:∀x∈c,x∈[(1:Int)]):C4 (exG 39) (A3 [true,false] c) exL:=by
 have e:A3 [true,false] c=[true,false]∨A3 [true,false] c=[true,true]:=by
  have gen:∀(c:List Int) (b:Bool),(∀x∈c,x∈[(1:Int)])→A3 [true,b] c=[true,false]∨A3 [true,b] c=[true,true]:=by
   intro c
   induction c with
   |nil=>intro b _;cases b<;>simp[A3]
   |cons x c ih=>
    intro b h;have hx:x=1:=by simpa using h x (by simp)
    have:=ih true fun y hy=>h y (by simp[hy]);unfold A3 at this ⊢;rw[List.foldl_cons,hx];exact this
  exact gen c false hc
 have ld:=O4 a0M.2.2.1;have h1:∀b,C4 (exG 39) [true,b] exL:=fun b=>⟨by decide+kernel,rfl,ld,by decide,b3a 39 b []⟩
 rcases e with e|e<;>rw[e]<;>exact h1 _
theorem c2O:∃vs fs,d6 Try.prog 27 [(exG 39).av,(exS false).av,lL exL] (.tup [.agg [fL vs,fL fs,bL [false,true],bL [true,false],bL [false],cL [⟨4,0,⟨40,1⟩⟩,⟨1,0,⟨0,1⟩⟩]],I 0]):=
 ⟨_,_,a7X (exG 39) (exS false) exL a0M.2.2.1 (a8z 39 false) (b6K [] (by simp)) (by simp[exS]) _ c2B⟩
theorem c2E:d6 Try.prog 35 [(exG 39).av,(exS false).av,lL exL] (.tup [iL [1],I 0]):=by
 refine b0P (exG 39) (exS false) exL (by decide) a0M.2.2.1 [1] c0M.symm exR (fun _ c hc hcl=>?_) _ (fun h=>by simp at h) (fun _ _=>by rw[b7r];rfl) (fun _ h=>by rw[b7r]at h;cases h);exact c2b (exG 39) (exS false) c exL (u6 a0M.2.2.1) (fun w hw=>by have:=hc w hw;simp at this;subst this;decide) (b6K c hc) (by omega)
abbrev exW:AV:= .lst 4 [[I 0,I 1,I 2,Bo false],[I 1,I 2,I 1,Bo true]]
abbrev c1G:List AV:=[.lst 1 [[Bo true],[Bo true]], .lst 1 [[Bo true],[Bo false]]]
abbrev exF (lim:Int):Option l7:=some (.els 4 [[I 0,I 600,I 2,I lim],[I 2,I 600,I 1,I 30]])
abbrev c0v:AV:= .lst 3 [[I 1,I 40,I 0]]
theorem b3O:g6 Try.prog 46 [] [] [] (.tup [.agg [I 3,exW, .row 0 0 2,I 500], .agg c1G,c0v]) [] [exF 100,some (.els 4 [[I 3,exW, .row 0 0 2,I 500]]),some (.els 2 [c1G])]:=by
 refine g6.of_bodyG [] Try.func46 rfl (by decide) (by simp[Try.ntmps46]) rfl rfl ?_;intro J hJ;simp only[Try.ntmps46,Try.results46];refine gS fun K hK=>?_;simp -dsimp;apply hK;clear hK K;refine Y8 (by decide) ?_;refine gS fun K hK=>?_;simp -dsimp;apply hK;clear hK K;refine gS fun K hK=>?_;simp -dsimp;apply hK;clear hK K;refine p9 (o1 (D5 (T':=[(0, .ptr 0 0 0),(1, .ptr 1 0 0),(2,c0v)]) (H':=[some (.els 4 [[I 3,exW, .row 2 0 2,I 500]]),some (.els 2 [c1G]),exF 100]) [some 0,some 1,some 3] rfl ⟨.inr (by simp), .inr (by simp), .inr (by simp),trivial⟩ (by simp)) (by simp)) ?_;exact j6 ⟨[some 2,some 0,some 1],rfl,by simp,by simp,by simp,by simp[C2,n6]⟩
theorem b1M (g:Gr) (s:Sta) (l:List Ld) (hl:l.length≤1000) (hf:t7 g s l=true) (hlo:C5 g s=false) (hz:∀p∈j7 g s,p.length≤5) (ho:okS g s (tkK l (A4 l))=true) (vs fs:List Fr) (hvs:vlA g.Nodes.toNat (vfS g s (tkK l (A4 l)))=vs) (hfs:flA g s (vfS g s (tkK l (A4 l)))=fs):
  g6 Try.prog 18 [g.av,s.av,lL l] [] [] (.tup [.row 0 0 g.Nodes.toNat, .row 1 0 g.Feeds.length,I 0]) [] [some (.els 2 (vs.map Fr.cells)),some (.els 2 (fs.map Fr.cells))]:=by
 have h:=a9n g s l hl hf hlo (fun p hp=>by have:=hz p hp;omega) (vfS g s (tkK l (A4 l))) fun p hp=>by
  unfold okS at ho;rw[List.all_eq_true]at ho;exact⟨_,_,b2D (u6 hf) hp (Or.inl (hz p hp)) (W0 _ _) (a2d (O4 hf) _) (ho p hp)⟩
 rw[hvs,hfs]at h;exact h
theorem a7M:d6 Try.prog 15 [] (Bo true):=by
 have h1:=b1M (exG 100) (exS false) exL (by decide) a0M.1 (a8z _ _) (b3a 100 false _) b7K.1 _ _ b7K.2.1 b7K.2.2;obtain⟨fs2,hfs2⟩:∃fs2,flA (exG 100) (exS true) (vfS (exG 100) (exS true) (tkK exL (A4 exL)))=fs2:=⟨_,rfl⟩;have h2:=b1M (exG 100) (exS true) exL (by decide) a0M.2.1 (a8z _ _) (b3a 100 true _) c1c.1 _ _ c1c.2 hfs2;obtain⟨vs3,fs3,h3⟩:=c2O;have h4:=c2E;have g1:=(a7h [⟨580,1⟩,⟨560,1⟩,⟨600,1⟩] [⟨580,1⟩,⟨560,1⟩,⟨600,1⟩] (by simp)).wk (args:=[fL [⟨580,1⟩,⟨560,1⟩,⟨600,1⟩], .full 2 [[I 580,I 1],[I 560,I 1],[I 600,I 1]]]) (by rfl);have g2:=(a7h [⟨40,1⟩,⟨0,1⟩] [⟨40,1⟩,⟨0,1⟩] (by simp)).wk (args:=[fL [⟨40,1⟩,⟨0,1⟩], .full 2 [[I 40,I 1],[I 0,I 1]]]) (by rfl);have g3:=(a7h [⟨1760,3⟩,⟨1720,3⟩,⟨1760,3⟩] [⟨1760,3⟩,⟨1720,3⟩,⟨1760,3⟩] (by simp)).wk (args:=[fL [⟨1760,3⟩,⟨1720,3⟩,⟨1760,3⟩], .full 2 [[I 1760,I 3],[I 1720,I 3],[I 1760,I 3]]]) (by rfl);have g4:=(b5h [1] [1] (by simp)).wk (args:=[iL [1], .full 1 [[I 1]]]) (by rfl);have hm:=b3O;simp only[exG,exS,exL,Gr.av,Sta.av,Gr.cells,Sta.cells,List.map_cons,List.map_nil,Wr.cells,Fd.cells,Ld.cells,Fr.cells,i9,Cu.cells,j0]at h1 h2 h3 h4 g1 g2 g3 g4;refine d6.of_bodyG Try.func15 rfl (by decide) (by simp[Try.ntmps15]) ?_;intro J hJ;simp only[Try.ntmps15,Try.results15];refine gS fun K hK=>?_;simp -dsimp;apply hK;clear hK K;refine gS fun K hK=>?_;simp -dsimp;refine k9 [] [] [some 0,some 1,some 2] (hm) (by decide) rfl (by simp) (by simp) rfl (by simp) ?_;simp -dsimp;apply hK;clear hK K;refine Z6 [4,5,6] [1,2,3] [(1, .iptr [I 3,exW, .lst 4 [[I 0,I 600,I 2,I 100],[I 2,I 600,I 1,I 30]],I 500]),(2, .iptr c1G),(3,c0v)] (⟨.inr (by simp), .inr (by simp), .inr (by simp),trivial⟩) (by decide) (fun T' H'=>Go.AM.l6 T' 4= .row 0 0 3∧Go.AM.l6 T' 5= .row 1 0 2∧Go.AM.l6 T' 6=I 0∧H'=[some (.els 2 [[I 580,I 1],[I 560,I 1],[I 600,I 1]]),some (.els 2 [[I 40,I 1],[I 0,I 1]])]) ?_ ?_
 ·intro J1 hJ1;refine gR fun K hK=>?_;simp -dsimp;refine k9 [] [] [some 0,some 1] (h1) (by decide) rfl (by simp) (by simp) rfl (by simp) ?_;simp -dsimp;apply hK;clear hK K;exact⟨rfl,rfl,by simp⟩
 ·intro T' H' hR;obtain⟨hR,hR5,hR6,rfl⟩:=hR;refine⟨by simp,?_⟩;simp only[List.map_cons,List.map_nil,List.cons_append,List.nil_append,List.length_cons,List.length_nil,Nat.reduceAdd,Nat.zero_add,Option.map_some,b5G,a3j,Go.AM.l6,Nat.reduceEqDiff,reduceIte,hR,hR5,hR6];refine Y8 (by decide) ?_;refine gS fun K hK=>?_;simp -dsimp;apply hK;clear hK K;refine Z6 [8,10] [1,2,3,4,5,6] [(1, .iptr [I 3,exW, .lst 4 [[I 0,I 600,I 2,I 100],[I 2,I 600,I 1,I 30]],I 500]),(7, .iptr [.lst 1 [[Bo true],[Bo true]], .lst 1 [[Bo true],[Bo true]]]),(3,c0v)] (⟨.inr (by simp), .inr (by simp), .inr (by simp),trivial⟩) (by decide) (fun T' H'=>Go.AM.l6 T' 8= .row 0 0 3∧Go.AM.l6 T' 10=I 0∧H'=[some (.els 2 [[I 1760,I 3],[I 1720,I 3],[I 1760,I 3]]),some (.els 2 (fs2.map Fr.cells))]) ?_ ?_
  ·intro J1 hJ1;refine gR fun K hK=>?_;simp -dsimp;refine k9 [] [] [some 0,some 1] (h2) (by decide) rfl (by simp) (by simp) rfl (by simp) ?_;simp -dsimp;apply hK;clear hK K;exact⟨rfl,rfl,by simp⟩
  ·intro T' H' hR;obtain⟨hR,hR5,rfl⟩:=hR;refine⟨by simp,?_⟩;simp only[List.map_cons,List.map_nil,List.cons_append,List.nil_append,List.length_cons,List.length_nil,Nat.reduceAdd,Nat.zero_add,Option.map_some,b5G,a3j,Go.AM.l6,Nat.reduceEqDiff,reduceIte,hR,hR5];refine gS fun K hK=>?_;simp -dsimp;apply hK;clear hK K;refine p9 (o1 (D5 (T':=[(1, .ptr 0 0 0),(2, .ptr 1 0 0),(3,c0v),(4,fL [⟨580,1⟩,⟨560,1⟩,⟨600,1⟩]),(5,fL [⟨40,1⟩,⟨0,1⟩]),(6,I 0),(8,fL [⟨1760,3⟩,⟨1720,3⟩,⟨1760,3⟩]),(10,I 0)]) (H':=[some (.els 4 [[I 3,exW, .lst 4 [[I 0,I 600,I 2,I 39],[I 2,I 600,I 1,I 30]],I 500]]),some (.els 2 [c1G])]) [some 3,some 4] rfl ⟨.inr (by simp), .inr (by simp), .inr (by simp), .inr (by simp), .inr (by simp), .inr (by simp), .inr (by simp), .inr (by simp),trivial⟩ (by simp)) (by simp)) ?_
   ·refine gS fun K hK=>?_;simp -dsimp;refine d5 _ (h3) (by simp) ?_;simp -dsimp;apply hK;clear hK K;refine gS fun K hK=>?_;simp -dsimp;refine d5 _ (h4) (by simp) ?_;simp -dsimp;apply hK;clear hK K;refine b9 fun K1 hK1=>?_;refine gS fun K hK=>?_;simp -dsimp;apply hK;clear hK K;refine d9 rfl (fun hc0=>?_) (fun hc0=>?_)
    ·simp at hc0
    ·refine f6 ?_;simp only[zT,reduceIte,Nat.reduceEqDiff];refine hK1 _ _ ?_;refine b6 [4,5,8,11,13] (Or.inr (by simp)) ?_;simp only[zP,Nat.reduceEqDiff,reduceIte];refine gS fun K hK=>?_;simp -dsimp;refine d5 _ (g1) (by simp) ?_;simp -dsimp;refine g8 _ (fun hm=>g2) (by simp) ?_;simp -dsimp;refine g8 _ (fun hm=>g3) (by simp) ?_;simp -dsimp;refine l3 ([I 4,I 0,I 40,I 1]) (fun _=>rfl) ?_;simp -dsimp;refine l3 ([I 1,I 0,I 0,I 1]) (fun _=>rfl) ?_;simp -dsimp;refine g8 _ (fun hm=>g4) (by simp) ?_;simp -dsimp;apply hK;clear hK K;exact j6 (by simp[C2,n6])
end Go.Cur
end
section
namespace Go.Cur
open Go.AM Go.Proofs
theorem a9l {g:Gr} {s:Sta} {n:Nat} (h:b9R g s n=true):g.Wires.length≤100∧g.Feeds.length≤20∧s.Feeds.length≤20∧s.Wires.length≤100∧n≤50∧(g.Nodes≤12∨40<g.Nodes):=by
 simpa [b9R]using h
end Go.Cur
end
section
namespace Go.Cur
open Go.AM Go.Proofs
theorem b8D {m d:Int} (hd:0<d):red (m*d) d=⟨m,1⟩:=by
 unfold red;have e:Int.gcd (m*d) d=d.natAbs:=by
  rw[Int.gcd_eq_natAbs_gcd_natAbs,Int.natAbs_mul];exact Nat.gcd_mul_left_left _ _
 rw[e,Int.natAbs_of_nonneg (Int.le_of_lt hd),Int.mul_ediv_cancel _ (by omega),Int.ediv_self (by omega)]
end Go.Cur
end
section
namespace Go.Cur
open Go.AM Go.Proofs
theorem b3v {l:List Ld} {sv:List Bool} {q:Ld→Bool} {n:Nat} (h:∀i,i<n→bAt sv i=true→q (ldA l i)=false):leL l sv q n<0:=by
 refine Int.not_le.1 fun h0=>?_;obtain⟨h1,h2⟩:=a1Q h0;have h3:=a2V l sv q n;rw[h _ (by omega) h1]at h2
 cases h2
def srv (l:List Ld) (sv:List Bool):List Ld:=(l.zip sv).filterMap fun p=>if p.2=true then some p.1 else none
theorem b9z {l:List Ld} {sv:List Bool} {y:Ld}:y∈srv l sv↔∃i:Nat,l[i]?=some y∧sv[i]?=some true:=by
 unfold srv;rw[List.mem_filterMap];constructor
 ·rintro⟨q,hq,h⟩
  split at h
  ·rename_i hs;obtain⟨i,hi⟩:=List.getElem?_of_mem hq;rw[List.getElem?_zip_eq_some]at hi;simp only[Option.some.injEq]at h;exact⟨i,by rw[hi.1,h],by rw[hi.2,hs]⟩
  ·cases h
 ·rintro⟨i,h1,h2⟩;exact⟨(y,true),List.mem_of_getElem? (List.getElem?_zip_eq_some.2 ⟨h1,h2⟩),rfl⟩
theorem b4n (x:Int):∀(l:List Ld) (sv:List Bool) (c:Int),(l.zip sv).foldl (a5D x) c=((srv l sv).zip (List.replicate (srv l sv).length true)).foldl (a5D x) c
 |[],_,c=>by simp[srv]
 |y::l,[],c=>by simp[srv]
 | y::l,b::sv,c=>by
  have ih:=b4n x l sv
  cases b with
  |false=>
   have e:srv (y::l) (false::sv)=srv l sv:=by simp[srv]
   rw[e,←ih,List.zip_cons_cons,List.foldl_cons]
   congr 1
  |true=>
   have e:srv (y::l) (true::sv)=y::srv l sv:=by simp[srv]
   rw[e,List.length_cons,List.replicate_succ,List.zip_cons_cons,List.zip_cons_cons,List.foldl_cons,List.foldl_cons,ih]
theorem b9o (l:List Ld) (sv:List Bool) (x:Int):igt (tkK (srv l sv) (A4 (srv l sv))) x=igt (tkK l sv) x:=by
 rw[X0,X0];exact(b4n x l sv 0).symm
theorem c1D {g:Gr} {l:List Ld} (h:b6x g l):∀k,k≤l.length→a1D g l k=true
 |0,_=>rfl
 | k+1,hk=>by
  obtain⟨f,hf⟩:∃f,l[k]?=some f:=⟨_,List.getElem?_eq_getElem (by omega)⟩;have hm:=List.mem_of_getElem? hf;have h1:=h.at_ f hm;have h2:=h.un f hm;have h3:=h.rk f hm;have hany:((l.take k).any fun x=>decide (x.At=f.At))=false:=by
   rw[List.any_eq_false];intro x hx e;rw[decide_eq_true_eq]at e;obtain⟨i,hi⟩:=List.getElem?_of_mem hx;have hik:=(List.getElem?_eq_some_iff.1 hi).1;rw[List.length_take]at hik;rw[List.getElem?_take,if_pos (by omega)]at hi;have:=h.one i k x f hi hf e;omega
  simp only[a1D,c1D h k (by omega),hf,ldB,hany,Bool.true_and,Bool.not_false,Bool.and_true,Bool.and_eq_true,t4];omega
section
variable {g:Gr} {s:Sta} {p:List Nat} {us us':Kvs}
theorem b0F (h:∀x,igt us x=igt us' x):v6 g s us p=v6 g s us' p:=by
 have e1:A5 us p=A5 us' p:=by
  unfold A5;have:(fun x:Nat=>igt us x)=fun x:Nat=>igt us' x:=funext fun x=>h x;exact congrArg (fun f=>sm f p) this
 have e2:O8 us p=O8 us' p:=by
  unfold O8;have:(fun x:Nat=>igt us x==0)=fun x:Nat=>igt us' x==0:=funext fun x=>by rw[h]
  rw[this]
 have e3:ptO g s us p=ptO g s us' p:=by
  unfold ptO Pt;have:(fun x:Nat=>igt us x)=fun x:Nat=>igt us' x:=funext fun x=>h x;rw[this]
 unfold v6;rw[e1,e2,e3]
theorem b3g (h:∀x,igt us x=igt us' x):vfS g s us=vfS g s us':=by
 funext k
 unfold vfS;rw[b0F h]
theorem L0 (hnt:o7 g s) (hp:p∈j7 g s) (h5:p.length≤5) (hus:∀x,-40≤igt us x∧igt us x≤40) (hok:(v6 g s us p).2.2=true):
  0<(v6 g s us p).2.1∧(v6 g s us p).2.1≤2000000000∧∀x∈(v6 g s us p).1,x.natAbs≤7000000000000:=by
 unfold v6 at hok ⊢
 by_cases h:k8 g s (upN p)=[]
 ·rw[if_pos h];refine⟨show(0:Int)<1 by decide,show(1:Int)≤2000000000 by decide,fun x hx=>?_⟩;have:x=0:=(List.mem_replicate.1 hx).2;omega
 ·rw [if_neg h]at hok ⊢
  by_cases h1:A5 us p<0
  ·rw[if_pos h1]at hok;cases hok
  ·rw [if_neg h1]at hok ⊢
   by_cases h2:A5 us p=0
   ·rw[if_pos h2];obtain⟨z1,z2,z3⟩:=b0V (us:=us) hnt hp h5 rfl hus (p.getD 0 0) rfl;change ∀k,((ptO g s us p).num0 (p.getD 0 0) k).natAbs≤_ at z1;change 0<(ptO g s us p).den0 (p.getD 0 0)at z2;change (ptO g s us p).den0 (p.getD 0 0)≤_ at z3;refine⟨z2,by simp only;omega,fun x hx=>?_⟩;obtain⟨k,_,rfl⟩:=List.mem_map.1 hx;have key:∀b,b<(k8 g s (upN p)).length→ -20000000000≤(ptO g s us p).V b*(ptO g s us p).den0 (p.getD 0 0)-(ptO g s us p).num0 (p.getD 0 0) ((ptO g s us p).p b)∧(ptO g s us p).V b*(ptO g s us p).den0 (p.getD 0 0)-(ptO g s us p).num0 (p.getD 0 0) ((ptO g s us p).p b)≤20000000000:=by
     intro b hb;have hf:=C9 hnt rfl hb;have h3:=z1 ((ptO g s us p).p b);have h4:0≤(ptO g s us p).V b∧(ptO g s us p).V b≤1000:=by
      show 0≤(fdI g _).Volts∧(fdI g _).Volts≤1000;omega
     have h5:=Int.mul_nonneg h4.1 (Int.le_of_lt z2);have h6:=Int.mul_le_mul h4.2 z3 (Int.le_of_lt z2) (by omega);omega
    have hpos:0<(k8 g s (upN p)).length:=List.length_pos_iff.2 h;have h3:=a0h (B:=20000000000) ((List.range (k8 g s (upN p)).length).map fun b=>(ptO g s us p).V b*(ptO g s us p).den0 (p.getD 0 0)-(ptO g s us p).num0 (p.getD 0 0) ((ptO g s us p).p b)) _ (key 0 hpos) fun x hx=>by
     obtain⟨b,hb,rfl⟩:=List.mem_map.1 hx;exact key b (List.mem_range.1 hb)
    have h4:=z1 k;omega
   ·rw[if_neg h2];obtain⟨k1,k2,k3,k4⟩:=Z1 (P:=ptO g s us p) (a2f hnt hp rfl) (m:=(k8 g s (upN p)).length) rfl (by intro e;exact h (List.length_eq_zero_iff.1 e)) (by rw[a0O];omega);obtain⟨z1,z2,z3⟩:=a5N (us:=us) hnt hp h5 rfl hus _ (a6W k1 k2);refine⟨z2,z3,fun x hx=>?_⟩;obtain⟨k,_,rfl⟩:=List.mem_map.1 hx;exact z1 k
end
end Go.Cur
end
section
namespace Go.Cur
open Go.AM Go.Proofs
theorem a5X {n d k:Int} (hk:0<k):red (n*k) (d*k)=red n d:=by
 unfold red;have e:((Int.gcd (n*k) (d*k):Nat):Int)=(Int.gcd n d:Int)*k:=by
  rw[Int.gcd_mul_right,Int.natCast_mul,Int.natAbs_of_nonneg (Int.le_of_lt hk)]
 rw[e,Int.mul_ediv_mul_of_pos_left _ _ hk,Int.mul_ediv_mul_of_pos_left _ _ hk]
theorem a8O {a d b e:Int} (hd:0<d) (he:0<e) (h:a*e=b*d):red a d=red b e:=by
 rw[←a5X he,h,Int.mul_comm d e,a5X hd]
theorem b6r {d:Int} (hd:0<d):red 0 d=⟨0,1⟩:=by
 have:=b8D (m:=0) hd
 rwa [Int.zero_mul]at this
end Go.Cur
end
section
namespace Go.Cur
open Go.AM Go.Proofs
theorem b9E {q X:Int} (hq:0<q):max 0 (q*X)=q*max 0 X:=by
 by_cases h:0≤X
 ·rw[Int.max_eq_right h,Int.max_eq_right (Int.mul_nonneg (Int.le_of_lt hq) h)]
 ·have h2:q*X≤0:=Int.mul_nonpos_of_nonneg_of_nonpos (Int.le_of_lt hq) (by omega);rw[Int.max_eq_left h2,Int.max_eq_left (show X≤0 by omega),Int.mul_zero]
theorem a8U {P:o5} {x n:Nat→Int} {q d:Int} (hq:0<q) (h:b1H P x (q*d)) (hx:∀k∈P.ns,x k=q*n k):b1H P n d:=by
 have hd:0<d:=by
  refine Int.not_le.1 fun hn=>?_;have:=Int.mul_nonpos_of_nonneg_of_nonpos (Int.le_of_lt hq) hn;have:=h.pos;omega
 refine⟨hd,fun i hi=>?_⟩;have h1:=h.eq i hi;have h2:sm (fun k=>P.L i k*x k) P.ns=q*sm (fun k=>P.L i k*n k) P.ns:=by
  rw[←n8];exact i8 fun k hk=>by rw[hx k hk,Int.mul_left_comm]
 have h3:P.give x (q*d) i=q*P.give n d i:=by
  unfold o5.give;rw[←n8];refine i8 fun b hb=>?_
  split
  ·rw[hx i hi,Int.mul_left_comm (P.V b) q d,←Int.mul_sub,b9E hq,Int.mul_left_comm]
  ·rw[Int.mul_zero]
 rw[h2,h3,Int.mul_assoc,←Int.mul_sub]at h1;exact Int.eq_of_mul_eq_mul_left (by omega) h1
theorem a3Z {P:o5} {x y:Nat→Int} {d:Int} (h:b1H P x d) (e:∀k∈P.ns,x k=y k):b1H P y d:=
 a8U (q:=1) (by decide) (by rwa [Int.one_mul]) fun k hk=>by rw[e k hk,Int.one_mul]
def wf (p:List Nat) (x:Nat→Int):List Wn→Nat→Int
 |[],_=>0
 |w::W,i=>(if w.a∈p then w.s*(ew w i*(x w.a-x w.b))else 0)+wf p x W i
def ws (p:List Nat) (x:Nat→Int):List Wn→Int
 |[]=>0
 |w::W=>(if w.a∈p then w.s*(x w.a-x w.b)*(x w.a-x w.b)else 0)+ws p x W
theorem a5W {p:List Nat} {x:Nat→Int} {i:Nat}:∀{u v:List Wn},wf p x (u++v) i=wf p x u i+wf p x v i
 |[],v=>by simp[wf]
 |w::u,v=>by rw[List.cons_append,wf,wf,a5W];omega
theorem a6i {p:List Nat} {x:Nat→Int}:∀{u v:List Wn},ws p x (u++v)=ws p x u+ws p x v
 |[],v=>by simp[ws]
 |w::u,v=>by rw[List.cons_append,ws,ws,a6i];omega
theorem b6F {w:Wn} {x:Nat→Int} {U:List Nat} (h:U.Nodup):sm (fun k=>ew w k*x k) U=(if w.a∈U then x w.a else 0)-(if w.b∈U then x w.b else 0):=by
 have one:∀(a:Nat),sm (fun k=>if a=k then x k else 0) U=if a∈U then x a else 0:=fun a=>by
  by_cases ha:a∈U
  ·rw[a0w h ha,if_pos ha]
  ·rw[if_neg ha];exact y3 fun k hk=>by rw[if_neg];rintro rfl;exact ha hk
 rw[←one,←one,←S7];refine i8 fun k _=>?_;unfold ew
 by_cases ha:k=w.a
 ·by_cases hb:k=w.b
  ·rw[if_pos ha,if_pos hb,if_pos ha.symm,if_pos hb.symm];omega
  ·rw[if_pos ha,if_neg hb,if_pos ha.symm,if_neg (fun e=>hb e.symm)];omega
 ·by_cases hb:k=w.b
  ·rw[if_neg ha,if_pos hb,if_neg (fun e=>ha e.symm),if_pos hb.symm];omega
  ·rw[if_neg ha,if_neg hb,if_neg (fun e=>ha e.symm),if_neg (fun e=>hb e.symm)];omega
theorem a7Q {i:Nat} {x:Nat→Int} {p:List Nat} (hp:p.Nodup) (hi:i∈p):∀{W:List Wn},(∀w∈W,w.a∈p↔w.b∈p)→sm (fun k=>lw W i k*x k) p=wf p x W i
 |[],_=>y3 fun k _=>by simp[lw]
 | w::W,h=>by
  have ih:=a7Q hp hi (x:=x) (W:=W) fun w hw=>h w (by simp[hw]);have e1:sm (fun k=>lw (w::W) i k*x k) p=w.s*ew w i*sm (fun k=>ew w k*x k) p+sm (fun k=>lw W i k*x k) p:=by
   rw[←n8,←G1];refine i8 fun k _=>?_;rw[lw,Int.add_mul,Int.mul_assoc,Int.mul_assoc,Int.mul_assoc]
  have hw:=h w (by simp);rw[e1,ih,b6F hp,wf]
  by_cases ha:w.a∈p
  ·rw[if_pos ha,if_pos (hw.1 ha),if_pos ha,Int.mul_assoc]
  ·rw[if_neg ha,if_neg (fun e=>ha (hw.2 e)),if_neg ha];simp
theorem a6e {x:Nat→Int} {p:List Nat} (hp:p.Nodup):∀{W:List Wn},(∀w∈W,w.a∈p↔w.b∈p)→sm (fun i=>x i*wf p x W i) p=ws p x W
 |[],_=>y3 fun k _=>by simp[wf]
 | w::W,h=>by
  have ih:=a6e hp (x:=x) (W:=W) fun w hw=>h w (by simp[hw]);have hw:=h w (by simp);rw[ws,←ih]
  by_cases ha:w.a∈p
  ·have e1:sm (fun i=>x i*wf p x (w::W) i) p=w.s*(x w.a-x w.b)*sm (fun k=>ew w k*x k) p+sm (fun i=>x i*wf p x W i) p:=by
    rw[←n8,←G1];refine i8 fun k _=>?_;rw[wf,if_pos ha,Int.mul_add]
    congr 1
    generalize x w.a-x w.b=D;rw[Int.mul_left_comm (x k),Int.mul_assoc,Int.mul_comm (x k),Int.mul_comm (ew w k) D,Int.mul_assoc]
   rw[e1,b6F hp,if_pos ha,if_pos ha,if_pos (hw.1 ha)]
  ·rw[if_neg ha,Int.zero_add];refine i8 fun k _=>?_;rw[wf,if_neg ha,Int.zero_add]
def cF (P:o5) (x:Nat→Int) (d:Int) (b:Nat):Int:=P.s b*max 0 (P.V b*d-x (P.p b))
theorem b1B {P:o5} {x:Nat→Int} {d:Int} {i:Nat}:P.give x d i=sm (fun b=>if P.p b=i then cF P x d b else 0) P.fs:=by
 unfold o5.give cF;refine i8 fun b _=>?_
 split
 ·rename_i h;rw[h]
 ·rfl
theorem a9Y {ns:List Nat} (hn:ns.Nodup) {x c:Nat→Int} {q:Nat→Nat}:∀{fs:List Nat},(∀b∈fs,q b∈ns)→sm (fun i=>x i*sm (fun b=>if q b=i then c b else 0) fs) ns=sm (fun b=>x (q b)*c b) fs
 |[],_=>y3 fun k _=>by simp[sm]
 | b::fs,h=>by
  have ih:=a9Y hn (x:=x) (c:=c) (q:=q) (fs:=fs) fun b hb=>h b (by simp[hb]);have e1:sm (fun i=>x i*sm (fun b=>if q b=i then c b else 0) (b::fs)) ns=sm (fun i=>if q b=i then x i*c b else 0) ns+sm (fun i=>x i*sm (fun b=>if q b=i then c b else 0) fs) ns:=by
   rw[←G1];refine i8 fun k _=>?_;rw[sm,Int.mul_add]
   congr 1
   split
   ·rfl
   ·rw[Int.mul_zero]
  rw[e1,ih,a0w hn (h b (by simp)),sm]
theorem b5C {s V d x:Int}:x*(s*max 0 (V*d-x))+s*max 0 (V*d-x)*max 0 (V*d-x)=d*(V*(s*max 0 (V*d-x))):=by
 by_cases h:0≤V*d-x
 ·rw[Int.max_eq_right h];have e:x+(V*d-x)=d*V:=by rw[Int.mul_comm d V];omega
  have:x*(s*(V*d-x))+s*(V*d-x)*(V*d-x)=(x+(V*d-x))*(s*(V*d-x)):=by
   rw[Int.add_mul,Int.mul_comm (s*(V*d-x)) (V*d-x)]
  rw[this,e,Int.mul_assoc]
 ·rw[Int.max_eq_left (by omega)];simp
theorem a7A {P:o5} (ho:P.Ok) {W:List Wn} (hL:P.L=lw W) (hcl:∀w∈W,w.a∈P.ns↔w.b∈P.ns) {n:Nat→Int} {d:Int} (h:b1H P n d):
  ws P.ns n W+sm (fun b=>P.s b*max 0 (P.V b*d-n (P.p b))*max 0 (P.V b*d-n (P.p b))) P.fs=d*(sm (fun b=>P.V b*cF P n d b) P.fs-sm (fun i=>n i*P.u i) P.ns):=by
 have e1:ws P.ns n W=sm (fun i=>n i*(P.give n d i-d*P.u i)) P.ns:=by
  rw[←a6e ho.nd hcl];refine i8 fun i hi=>?_;have:=h.eq i hi;rw[hL,a7Q ho.nd hi hcl]at this;rw[this]
 have e2:sm (fun i=>n i*(P.give n d i-d*P.u i)) P.ns=sm (fun b=>n (P.p b)*cF P n d b) P.fs-d*sm (fun i=>n i*P.u i) P.ns:=by
  rw[←n8,←a9Y ho.nd ho.pin,←S7];refine i8 fun i _=>?_;rw[b1B,Int.mul_sub,Int.mul_left_comm d]
 have e3:sm (fun b=>n (P.p b)*cF P n d b) P.fs+sm (fun b=>P.s b*max 0 (P.V b*d-n (P.p b))*max 0 (P.V b*d-n (P.p b))) P.fs=d*sm (fun b=>P.V b*cF P n d b) P.fs:=by
  rw[←n8,←G1];exact i8 fun b _=>b5C
 rw[e1,e2,Int.mul_sub];omega
def lcS (f:Nat→Int) (d:Int) (k:Nat):Int:=d*(f k/Int.gcd d (f k))
def lcF (f:Nat→Int) (l:List Nat):Int:=l.foldl (lcS f) 1
theorem b5j {f:Nat→Int} {l:List Nat} {k x:Nat} (h:l[k]?=some x):lcF f (l.take (k+1))=lcS f (lcF f (l.take k)) x:=by
 unfold lcF;rw[List.take_add_one,h,List.foldl_append];rfl
theorem b6I {f:Nat→Int} {d:Int} {k:Nat} {D:Int} (hd:0<d) (hf:0<f k) (h1:d∣D) (h2:f k∣D):0<lcS f d k∧lcS f d k∣D∧d∣lcS f d k∧f k∣lcS f d k:=by
 unfold lcS;generalize f k=e at hf h2 ⊢;obtain⟨a,ha⟩:∃a:Nat,d=a:=⟨d.toNat,by omega⟩;obtain⟨b,hb⟩:∃b:Nat,e=b:=⟨e.toNat,by omega⟩;subst ha hb;have hl:(a:Int)*((b:Int)/ (Int.gcd (a:Int) (b:Int):Nat))=((Nat.lcm a b:Nat):Int):=by
  have e1:Int.gcd (a:Int) (b:Int)=Nat.gcd a b:=rfl;rw[e1,Nat.lcm,Nat.mul_div_assoc a (Nat.gcd_dvd_right a b),Int.natCast_mul,Int.natCast_ediv]
 rw[hl];have hp:0<Nat.lcm a b:=Nat.lcm_pos (by omega) (by omega);refine⟨by omega,?_,Int.natCast_dvd_natCast.2 (Nat.dvd_lcm_left a b),Int.natCast_dvd_natCast.2 (Nat.dvd_lcm_right a b)⟩;rw[Int.ofNat_dvd_left]at h1 h2 ⊢;exact Nat.lcm_dvd h1 h2
theorem b1U {f:Nat→Int} {D:Int}:∀{l:List Nat} {d:Int},(∀k∈l,0<f k∧f k∣D)→0<d→d∣D→0<l.foldl (lcS f) d∧l.foldl (lcS f) d∣D∧d∣l.foldl (lcS f) d∧∀k∈l,f k∣l.foldl (lcS f) d
 |[],d,_,hd,h1=>⟨hd,h1,Int.dvd_refl d,by simp⟩
 |x::l,d,h,hd,h1=>by
  have hx:=h x (by simp);obtain⟨a1,a2,a3,a4⟩:=b6I hd hx.1 h1 hx.2;obtain⟨b1,b2,b3,b4⟩:=b1U (l:=l) (d:=lcS f d x) (fun k hk=>h k (by simp[hk])) a1 a2;rw[List.foldl_cons];refine⟨b1,b2,Int.dvd_trans a3 b3,fun k hk=>?_⟩
  rcases List.mem_cons.1 hk with rfl|hk
  ·exact Int.dvd_trans a4 b3
  ·exact b4 k hk
theorem b5v {f:Nat→Int} {D:Int} {l:List Nat} (h:∀k∈l,0<f k∧f k∣D) (k:Nat):0<lcF f (l.take k)∧lcF f (l.take k)∣D:=
 have:=b1U (l:=l.take k) (d:=1) (fun k hk=>h k (List.mem_of_mem_take hk)) (by decide) (Int.one_dvd D)
 ⟨this.1,this.2.1⟩
theorem b3x {n d:Int} (hd:0<d):∃G:Int,0<G∧n=(red n d).Num*G∧d=(red n d).Den*G∧0<(red n d).Den:=by
 obtain⟨a,b,G,hG,e,ha,hb⟩:=a8q (n:=n) hd;have e1:n/G=a:=by rw[ha];exact Int.mul_ediv_cancel_left _ (by omega)
 have e2:d/G=b:=by rw[hb];exact Int.mul_ediv_cancel_left _ (by omega)
 refine⟨G,hG,?_,?_,(a1j hd).1⟩
 ·unfold red;rw[e,e1,ha,Int.mul_comm]
 ·unfold red;rw[e,e2,hb,Int.mul_comm]
theorem b6T {n d k:Int} (hd:0<d) (hk:0<k):(red n d).Den∣d*k∧(red n d).Num*(d*k/ (red n d).Den)=n*k:=by
 obtain⟨G,hG,h1,h2,h3⟩:=b3x (n:=n) hd;generalize (red n d).Den=b at h2 h3 ⊢;generalize (red n d).Num=a at h1 ⊢;have e:d*k=b*(G*k):=by rw[h2,Int.mul_assoc]
 refine⟨⟨G*k,e⟩,?_⟩;rw[e,Int.mul_ediv_cancel_left _ (by omega),h1,Int.mul_assoc]
def cmN (vf:Nat→Fr) (d:Int) (k:Nat):Int:=(vf k).Num*(d/ (vf k).Den)
def cmD (vf:Nat→Fr) (p:List Nat):Int:=lcF (fun k=>(vf k).Den) p
theorem c2q {vf:Nat→Fr} {p:List Nat} {X:Nat→Int} {D:Int} (hD:0<D) (h:∀k∈p,vf k=red (X k) D):
  0<cmD vf p∧(∀k∈p,0<(vf k).Den∧(vf k).Den∣D∧(vf k).Den∣cmD vf p)∧∃q,0<q∧D=q*cmD vf p∧∀k∈p,X k=q*cmN vf (cmD vf p) k:=by
 have hd:∀k∈p,0<(vf k).Den∧(vf k).Den∣D:=fun k hk=>by
  obtain⟨G,hG,h1,h2,h3⟩:=b3x (n:=X k) hD;rw[h k hk];exact⟨h3,⟨G,h2⟩⟩
 obtain⟨a1,a2,a3,a4⟩:=b1U (f:=fun k=>(vf k).Den) (l:=p) (d:=1) hd (by decide) (Int.one_dvd D);change 0<cmD vf p at a1;change cmD vf p∣D at a2;change ∀k∈p,(vf k).Den∣cmD vf p at a4;refine⟨a1,fun k hk=>⟨(hd k hk).1,(hd k hk).2,a4 k hk⟩,?_⟩;obtain⟨q,hq⟩:=a2;have hq0:0<q:=by
  refine Int.not_le.1 fun hn=>?_;have:=Int.mul_nonpos_of_nonneg_of_nonpos (Int.le_of_lt a1) hn;omega
 refine⟨q,hq0,by rw[hq,Int.mul_comm],fun k hk=>?_⟩;obtain⟨G,hG,h1,h2,h3⟩:=b3x (n:=X k) hD;rw[←h k hk]at h1 h2 h3;obtain⟨e,he⟩:=a4 k hk;have hGe:G=q*e:=by
  refine Int.eq_of_mul_eq_mul_left (a:=(vf k).Den) (by omega) ?_;rw[←h2,hq,he,Int.mul_assoc,Int.mul_comm q e]
 unfold cmN;rw[he,Int.mul_ediv_cancel_left _ (by omega),h1,hGe,Int.mul_left_comm]
end Go.Cur
end
section
namespace Go.Cur
open Go.AM Go.Proofs
def sF (h:Int→Int) (l:List Int):Int:=l.foldl (fun a f=>a+h f) 0
theorem a4e {h:Int→Int} {l:List Int} {k:Nat} {x:Int} (e:l[k]?=some x):sF h (l.take (k+1))=sF h (l.take k)+h x:=by
 unfold sF;rw[List.take_add_one,e,List.foldl_append];rfl
theorem a8a (h:Int→Int):∀(l:List Int) (a:Int),l.foldl (fun a f=>a+h f) a=a+sF h l
 |[],a=>by simp[sF]
 |x::l,a=>by
  unfold sF;rw[List.foldl_cons,List.foldl_cons,a8a h l,a8a h l (0+h x)];omega
theorem O9 (h:Int→Int) (x:Int) (l:List Int):sF h (x::l)=h x+sF h l:=by
 show(x::l).foldl _ 0=_;rw[List.foldl_cons,a8a];omega
theorem b8Y {h:Int→Int} {B:Int}:∀{l:List Int},(∀x∈l,0≤h x∧h x≤B)→0≤sF h l∧sF h l≤B*(l.length:Int)
 |[],_=>by simp[sF]
 |x::l,e=>by
  have ih:=b8Y (l:=l) fun y hy=>e y (by simp[hy]);have hx:=e x (by simp);rw[O9,List.length_cons,Int.natCast_add,Int.mul_add];omega
theorem a4Q {h h':Int→Int} {c c':Int}:∀{l:List Int},(∀x∈l,h x*c=h' x*c')→sF h l*c=sF h' l*c'
 |[],_=>by simp[sF]
 |x::l,e=>by
  have ih:=a4Q (l:=l) fun y hy=>e y (by simp[hy]);rw[O9,O9,Int.add_mul,Int.add_mul,ih,e x (by simp)]
theorem a5i {h h':Nat→Int} {c c':Int}:∀{l:List Nat},(∀x∈l,h x*c=h' x*c')→sm h l*c=sm h' l*c'
 |[],_=>by simp[sm]
 |x::l,e=>by
  have ih:=a5i (l:=l) fun y hy=>e y (by simp[hy]);rw[sm,sm,Int.add_mul,Int.add_mul,ih,e x (by simp)]
theorem b8B {f:Nat→Int} {B:Int}:∀{l:List Nat},(∀x∈l,-B≤f x∧f x≤B)→ -B*(l.length:Int)≤sm f l∧sm f l≤B*(l.length:Int)
 |[],_=>by simp[sm]
 |x::l,e=>by
  have ih:=b8B (l:=l) fun y hy=>e y (by simp[hy]);have hx:=e x (by simp);rw[sm,List.length_cons,Int.natCast_add,Int.mul_add,Int.mul_add];omega
theorem b2x {f:Nat→Int} {l:List Nat} {k x:Nat} (e:l[k]?=some x):sm f (l.take (k+1))=sm f (l.take k)+f x:=by
 rw[List.take_add_one,e,G6];simp[sm]
def mx0 (x:Int):Int:=if 0<x then x else 0
theorem a4J {x e:Int} (he:0<e):mx0 x*e=mx0 (x*e):=by
 unfold mx0
 by_cases h:0<x
 ·rw[if_pos h,if_pos (Int.mul_pos h he)]
 ·rw[if_neg h,if_neg (Int.not_lt.2 (Int.mul_nonpos_of_nonpos_of_nonneg (by omega) (Int.le_of_lt he))),Int.zero_mul]
theorem b4K {x e:Int} (he:0<e):mx0 (e*x)=e*mx0 x:=by rw[Int.mul_comm,←a4J he,Int.mul_comm]
def enG (g:Gr) (F:List Int) (X:Nat→Int) (d:Int):Int:=sF (fun f=>(fdI g f).Volts*((fdI g f).Siem*mx0 ((fdI g f).Volts*d-X (fdI g f).At.toNat))) F
def enT (us:Kvs) (X:Nat→Int) (p:List Nat):Int:=sm (fun k=>X k*mx0 (igt us k)) p
def enR (us:Kvs) (X:Nat→Int) (p:List Nat):Int:=sm (fun k=>X k*mx0 (-igt us k)) p
def enE (g:Gr) (F:List Int) (us:Kvs) (X:Nat→Int) (d:Int) (p:List Nat):En:=⟨red (enG g F X d) d,red (enT us X p) d,red (enR us X p) d,red (enG g F X d+enR us X p-enT us X p) d⟩
theorem b4Q {g:Gr} {F:List Int} {us:Kvs} {X Y:Nat→Int} {d e:Int} {p:List Nat} (hd:0<d) (he:0<e) (hF:∀f∈F,(fdI g f).At.toNat∈p) (h:∀k∈p,X k*e=Y k*d):enE g F us X d p=enE g F us Y e p:=by
 have h1:enG g F X d*e=enG g F Y e*d:=a4Q fun f hf=>by
  rw[Int.mul_assoc,Int.mul_assoc,Int.mul_assoc,Int.mul_assoc,a4J he,a4J hd,Int.sub_mul,Int.sub_mul,h _ (hF f hf),Int.mul_assoc,Int.mul_assoc,Int.mul_comm d e]
 have h2:enT us X p*e=enT us Y p*d:=a5i fun k hk=>by
  rw[Int.mul_right_comm,h k hk,Int.mul_right_comm]
 have h3:enR us X p*e=enR us Y p*d:=a5i fun k hk=>by
  rw[Int.mul_right_comm,h k hk,Int.mul_right_comm]
 unfold enE;rw[a8O hd he h1,a8O hd he h2,a8O hd he h3,a8O hd he (show(enG g F X d+enR us X p-enT us X p)*e=(enG g F Y e+enR us Y p-enT us Y p)*d by rw[Int.sub_mul,Int.add_mul,Int.sub_mul,Int.add_mul,h1,h2,h3])]
def xOf (v:List Int) (p:List Nat) (k:Nat):Int:=at0 v (p.idxOf k:Nat)
def enP (g:Gr) (s:Sta) (us:Kvs) (p:List Nat):En:=enE g (k8 g s (upN p)) us (xOf (v6 g s us p).1 p) (v6 g s us p).2.1 p
section
variable {g:Gr} {s:Sta} {us:Kvs} {p:List Nat}
theorem a0z (hp:p∈j7 g s):p.Nodup:=by obtain⟨_,_,e⟩:=E5 hp;rw[e];exact I8
theorem b9V (hp:p∈j7 g s) {i k:Nat} (hk:p[i]?=some k):p.idxOf k=i:=by
 obtain⟨hi,e⟩:=List.getElem?_eq_some_iff.1 hk;rw[←e];exact List.Nodup.idxOf_getElem (a0z hp) i hi
theorem c0q {l:List Int} {B:Nat} (h:∀x∈l,x.natAbs≤B) (i:Int):(at0 l i).natAbs≤B:=by
 unfold at0
 cases hi:l[i.toNat]? with
 |none=>simp
 |some x=>exact h x (List.mem_of_getElem? hi)
theorem b8e (hp:p∈j7 g s) {v:List Int} (hv:v.length=p.length) {i k:Nat} (hk:p[i]?=some k):v[i]?=some (xOf v p k):=by
 have hi:=(List.getElem?_eq_some_iff.1 hk).1;unfold xOf;rw[b9V hp hk];exact C3 (by omega)
theorem b6L {v:List Int} {B:Nat} (h:∀x∈v,x.natAbs≤B) (k:Nat):(xOf v p k).natAbs≤B:=c0q h _
end
section
variable {g:Gr} {us:Kvs} {X:Nat→Int} {d:Int} {p:List Nat} {F:List Int}
theorem b4Z {i:Nat} {f:Int} (h:F[i]?=some f):enG g (F.take (i+1)) X d=enG g (F.take i) X d+(fdI g f).Volts*((fdI g f).Siem*mx0 ((fdI g f).Volts*d-X (fdI g f).At.toNat)):=a4e h
theorem b6q {i k:Nat} (h:p[i]?=some k):enT us X (p.take (i+1))=enT us X (p.take i)+X k*mx0 (igt us k):=b2x h
theorem b5i {i k:Nat} (h:p[i]?=some k):enR us X (p.take (i+1))=enR us X (p.take i)+X k*mx0 (-igt us k):=b2x h
theorem b4y {f:Int} (hf:1≤(fdI g f).Volts∧(fdI g f).Volts≤1000∧1≤(fdI g f).Siem∧(fdI g f).Siem≤4) {D:Int} (hD:D≤10000000000000):0≤(fdI g f).Volts*((fdI g f).Siem*mx0 D)∧(fdI g f).Volts*((fdI g f).Siem*mx0 D)≤40000000000000000:=by
 have h1:0≤mx0 D∧mx0 D≤10000000000000:=by unfold mx0;split<;>omega
 generalize mx0 D=m at h1;have h2:0≤(fdI g f).Siem*m∧(fdI g f).Siem*m≤40000000000000:=⟨Int.mul_nonneg (by omega) h1.1,Int.le_trans (Int.mul_le_mul hf.2.2.2 h1.2 h1.1 (by omega)) (by omega)⟩;exact⟨Int.mul_nonneg (by omega) h2.1,Int.le_trans (Int.mul_le_mul hf.2.1 h2.2 h2.1 (by omega)) (by omega)⟩
theorem a5w (hX:∀k,(X k).natAbs≤7000000000000) (k:Nat) {u:Int} (hu:u≤40):-280000000000000≤X k*mx0 u∧X k*mx0 u≤280000000000000:=by
 have h1:0≤mx0 u∧mx0 u≤40:=by unfold mx0;split<;>omega
 have h2:-7000000000000≤X k∧X k≤7000000000000:=by have:=hX k;omega
 generalize mx0 u=m at h1;generalize X k=x at h2;have a:=Int.mul_le_mul_of_nonneg_right h2.1 h1.1;have b:=Int.mul_le_mul_of_nonneg_right h2.2 h1.1;omega
theorem b6X (hX:∀k,(X k).natAbs≤7000000000000) (hus:∀x,-40≤igt us x∧igt us x≤40):-280000000000000*(p.length:Int)≤enT us X p∧enT us X p≤280000000000000*(p.length:Int):=b8B fun k _=>a5w hX k (hus k).2
theorem b7j (hX:∀k,(X k).natAbs≤7000000000000) (hus:∀x,-40≤igt us x∧igt us x≤40):-280000000000000*(p.length:Int)≤enR us X p∧enR us X p≤280000000000000*(p.length:Int):=b8B fun k _=>a5w hX k (by have:=(hus k).1;omega)
theorem b4j (hF:∀f∈F,1≤(fdI g f).Volts∧(fdI g f).Volts≤1000∧1≤(fdI g f).Siem∧(fdI g f).Siem≤4) (hX:∀k,(X k).natAbs≤7000000000000) (hd:0<d) (hd1:d≤2000000000):0≤enG g F X d∧enG g F X d≤40000000000000000*(F.length:Int):=b8Y fun f hf=>by
 refine b4y (hF f hf) ?_;have h1:=Int.mul_le_mul (hF f hf).2.1 hd1 (Int.le_of_lt hd) (by omega);have:=hX (fdI g f).At.toNat;omega
end
end Go.Cur
end
section
namespace Go.Cur
open Go.AM Go.Proofs
theorem a8d (x:Int):max 0 x=mx0 x:=by unfold mx0;split<;>omega
theorem b4U (x:Int):mx0 x-mx0 (-x)=x:=by unfold mx0;split<;>split<;>omega
theorem a1S (h:Int→Int) (F:List Int):sF h F=sm (fun b=>h (at0 F (b:Nat))) (List.range F.length):=by
 have gen:∀k,k≤F.length→sF h (F.take k)=sm (fun b=>h (at0 F (b:Nat))) (List.range k):=by
  intro k
  induction k with
  |zero=>intro _;rfl
  |succ k ih=>
   intro hk;rw[a4e (C3 (show k<F.length by omega)),ih (by omega),List.range_succ,G6];simp[sm]
 have:=gen F.length (Nat.le_refl _)
 rwa [List.take_length]at this
theorem a5R:∀(xs:List Int) (x0:Int),x0≤D6 x0 xs∧∀x∈xs,x≤D6 x0 xs
 |[],x0=>⟨Int.le_refl _,by simp⟩
 |y::xs,x0=>by
  obtain⟨h1,h2⟩:=a5R xs (a4E x0 y);have e:D6 x0 (y::xs)=D6 (a4E x0 y) xs:=rfl;have h3:x0≤a4E x0 y∧y≤a4E x0 y:=by unfold a4E;split<;>omega
  rw[e];refine⟨by omega,fun x hx=>?_⟩
  rcases List.mem_cons.1 hx with rfl|hx
  ·omega
  ·exact h2 x hx
theorem a6V:∀(xs:List Int) (x0:Int),D6 x0 xs=x0∨D6 x0 xs∈xs
 |[],x0=>Or.inl rfl
 | y::xs,x0=>by
  have e:D6 x0 (y::xs)=D6 (a4E x0 y) xs:=rfl;rw[e]
  rcases a6V xs (a4E x0 y)with h|h
  ·rw[h];unfold a4E
   split
   ·exact Or.inr (by simp)
   ·exact Or.inl rfl
  ·exact Or.inr (List.mem_cons_of_mem _ h)
theorem b3B {p:List Nat} {x:Nat→Int} (hx:∀k∈p,x k=0):∀{W:List Wn},(∀w∈W,w.a∈p↔w.b∈p)→(∀i,wf p x W i=0)∧ws p x W=0
 |[],_=>⟨fun _=>rfl,rfl⟩
 | w::W,h=>by
  obtain⟨h1,h2⟩:=b3B hx (W:=W) fun w hw=>h w (by simp[hw]);have hw:=h w (by simp);refine⟨fun i=>?_,?_⟩
  ·rw[wf,h1]
   by_cases ha:w.a∈p
   ·rw[hx _ ha,hx _ (hw.1 ha)];simp
   ·rw[if_neg ha];rfl
  ·rw[ws,h2]
   by_cases ha:w.a∈p
   ·rw[hx _ ha,hx _ (hw.1 ha)];simp
   ·rw[if_neg ha];rfl
section
variable {g:Gr} {s:Sta} {us:Kvs} {p:List Nat}
theorem a2B {f:Nat→Int} {k:Nat} (hk:k∈p):xOf (p.map f) p k=f k:=J4 (by rw[List.getElem?_map,E3 hk];rfl)
theorem a2t (hnt:o7 g s) (hp:p∈j7 g s) (h5:p.length≤5) (hus:∀x,-40≤igt us x∧igt us x≤40) (hok:(v6 g s us p).2.2=true) (h:k8 g s (upN p)≠[]):
  b1H (ptO g s us p) (xOf (v6 g s us p).1 p) (v6 g s us p).2.1∧0≤A5 us p∧(A5 us p=0→(∀b,b<(k8 g s (upN p)).length→(ptO g s us p).V b*(v6 g s us p).2.1≤xOf (v6 g s us p).1 p ((ptO g s us p).p b))∧
   ∃b,b<(k8 g s (upN p)).length∧xOf (v6 g s us p).1 p ((ptO g s us p).p b)=(ptO g s us p).V b*(v6 g s us p).2.1):=by
 have ho:=a2f (us:=us) hnt hp rfl;have hpin:∀b,b<(k8 g s (upN p)).length→(ptO g s us p).p b∈p:=fun b hb=>(C9 hnt rfl hb).2.2.2.2.2.1;have hpos:0<(k8 g s (upN p)).length:=List.length_pos_iff.2 h;unfold v6 at hok ⊢;rw[if_neg h]at hok ⊢
 by_cases h1:A5 us p<0
 ·rw[if_pos h1]at hok;cases hok
 ·rw [if_neg h1]at hok ⊢
  by_cases h2:A5 us p=0
  ·rw[if_pos h2];have hne:p≠[]:=by intro e;have:=(P0 hnt hp (by omega)).n1;rw[e]at this;simp at this
   obtain⟨tl,htl⟩:∃tl,p=p.getD 0 0::tl:=by
    cases p with
    |nil=>exact absurd rfl hne
    |cons a tl=>exact⟨tl,rfl⟩
   have hg:=a5R ((List.range (k8 g s (upN p)).length).map fun b=>(ptO g s us p).V b*(ptO g s us p).den0 (p.getD 0 0)-(ptO g s us p).num0 (p.getD 0 0) ((ptO g s us p).p b)) ((ptO g s us p).V 0*(ptO g s us p).den0 (p.getD 0 0)-(ptO g s us p).num0 (p.getD 0 0) ((ptO g s us p).p 0));have ha:=a6V ((List.range (k8 g s (upN p)).length).map fun b=>(ptO g s us p).V b*(ptO g s us p).den0 (p.getD 0 0)-(ptO g s us p).num0 (p.getD 0 0) ((ptO g s us p).p b)) ((ptO g s us p).V 0*(ptO g s us p).den0 (p.getD 0 0)-(ptO g s us p).num0 (p.getD 0 0) ((ptO g s us p).p 0));generalize D6 ((ptO g s us p).V 0*(ptO g s us p).den0 (p.getD 0 0)-(ptO g s us p).num0 (p.getD 0 0) ((ptO g s us p).p 0)) ((List.range (k8 g s (upN p)).length).map fun b=>(ptO g s us p).V b*(ptO g s us p).den0 (p.getD 0 0)-(ptO g s us p).num0 (p.getD 0 0) ((ptO g s us p).p b))=r at hg ha;have hge:∀b,b<(k8 g s (upN p)).length→(ptO g s us p).V b*(ptO g s us p).den0 (p.getD 0 0)-(ptO g s us p).num0 (p.getD 0 0) ((ptO g s us p).p b)≤r:=fun b hb=>hg.2 _ (List.mem_map.2 ⟨b,List.mem_range.2 hb,rfl⟩);have hv:=c2k (P:=ptO g s us p) ho htl (by rw[a0O];exact h2) (r:=r) fun b hb=>hge b (List.mem_range.1 hb);refine⟨a3Z hv fun k hk=>(a2B (p:=p) (f:=fun k=>(ptO g s us p).num0 (p.getD 0 0) k+r) hk).symm,by omega,fun _=>⟨fun b hb=>?_,?_⟩⟩
   ·rw[a2B (hpin b hb)];have:=hge b hb;simp only;omega
   ·have:∃b,b<(k8 g s (upN p)).length∧r=(ptO g s us p).V b*(ptO g s us p).den0 (p.getD 0 0)-(ptO g s us p).num0 (p.getD 0 0) ((ptO g s us p).p b):=by
     rcases ha with e|e
     ·exact⟨0,hpos,e⟩
     ·obtain⟨b,hb,e⟩:=List.mem_map.1 e;exact⟨b,List.mem_range.1 hb,e.symm⟩
    obtain⟨b,hb,e⟩:=this;refine⟨b,hb,?_⟩;rw[a2B (hpin b hb)];simp only;omega
  ·rw[if_neg h2];obtain⟨k1,k2,k3,k4⟩:=Z1 (P:=ptO g s us p) ho (m:=(k8 g s (upN p)).length) rfl (by omega) (by rw[a0O];omega);have hft:=(b1z (P:=ptO g s us p) rfl (a6W k1 k2)).1 k3;exact⟨a3Z (b0x ho hft) fun k hk=>(a2B (p:=p) (f:=fun k=>(ptO g s us p).num (D7 (I6 (ptO g s us p) (k8 g s (upN p)).length)) k) hk).symm,by omega,fun e=>absurd e h2⟩
def fgv (g:Gr) (n:Nat→Int) (d:Int) (f:Int):Int:=(fdI g f).Siem*mx0 ((fdI g f).Volts*d-n (fdI g f).At.toNat)
def fgi (g:Gr) (n:Nat→Int) (d:Int) (F:List Int) (i:Nat):Int:=sF (fun f=>if (fdI g f).At.toNat=i then fgv g n d f else 0) F
def fgl (g:Gr) (n:Nat→Int) (d:Int) (F:List Int):Int:=sF (fun f=>(fdI g f).Siem*mx0 ((fdI g f).Volts*d-n (fdI g f).At.toNat)*mx0 ((fdI g f).Volts*d-n (fdI g f).At.toNat)) F
structure CmP (g:Gr) (s:Sta) (us:Kvs) (vf:Nat→Fr) (p:List Nat) (d:Int) (n:Nat→Int):Prop where
 d0:0<d
 d1:d≤2000000000
 den:∀k∈p,0<(vf k).Den∧(vf k).Den≤2000000000∧(vf k).Den∣d
 nb:∀k∈p,(n k).natAbs≤7000000000000
 eq:∀i∈p,igt us i*d-fgi g n d (k8 g s (upN p)) i+wf p n (onW g.Wires s.Wires) i=0
 quiet:A5 us p=0→∀f∈k8 g s (upN p),(fdI g f).Volts*d≤n (fdI g f).At.toNat
 touch:k8 g s (upN p)=[]∨0<A5 us p∨∃f∈k8 g s (upN p),n (fdI g f).At.toNat=(fdI g f).Volts*d
 energy:ws p n (onW g.Wires s.Wires)+fgl g n d (k8 g s (upN p))=d*(enG g (k8 g s (upN p)) n d+enR us n p-enT us n p)
 same:enP g s us p=enE g (k8 g s (upN p)) us n d p
theorem b5z (hp:p∈j7 g s) {k:Nat} (hk:k∈p):vfS g s us k=red (xOf (v6 g s us p).1 p k) (v6 g s us p).2.1:=by
 unfold vfS xOf;rw[←S6 hp hk]
theorem b8x (n:Nat→Int):∀p:List Nat,sm (fun i=>n i*igt us i) p=enT us n p-enR us n p:=fun p=>by
 unfold enT enR;rw[←S7];exact i8 fun i _=>by rw[←Int.mul_sub,b4U]
theorem a7v (hnt:o7 g s) (hp:p∈j7 g s) (h5:p.length≤5) (hus:∀x,-40≤igt us x∧igt us x≤40) (hok:(v6 g s us p).2.2=true):
  CmP g s us (vfS g s us) p (cmD (vfS g s us) p) (cmN (vfS g s us) (cmD (vfS g s us) p)):=by
 obtain⟨t1,t2,t3⟩:=L0 hnt hp h5 hus hok;obtain⟨c1,c2,q,hq,hD,hX⟩:=c2q (vf:=vfS g s us) (p:=p) t1 fun k hk=>b5z hp hk;have hvt:∀k∈p,(vfS g s us k).Den≤2000000000:=fun k hk=>by rw[b5z hp hk];have:=a1j (n:=xOf (v6 g s us p).1 p k) t1;omega
 have hnd:=a0z hp;have hcl:=(P0 hnt hp (by omega)).cl;have hFp:∀f∈k8 g s (upN p),(fdI g f).At.toNat∈p:=fun f hf=>(H6 hf).2.2.1;generalize hd:cmD (vfS g s us) p=d at*
 generalize hn:cmN (vfS g s us) d=n at*
 have hd1:d≤2000000000:=by
  have:=Int.mul_le_mul_of_nonneg_right (show(1:Int)≤q by omega) (Int.le_of_lt c1);omega
 have hnb:∀k∈p,(n k).natAbs≤7000000000000:=fun k hk=>by
  have h1:(xOf (v6 g s us p).1 p k).natAbs≤7000000000000:=b6L t3 k;rw[hX k hk,Int.natAbs_mul]at h1;exact Nat.le_trans (Nat.le_mul_of_pos_left _ (by omega)) h1
 have hsame:enP g s us p=enE g (k8 g s (upN p)) us n d p:=b4Q t1 c1 hFp fun k hk=>by
  rw[hX k hk,hD,Int.mul_comm q,Int.mul_assoc]
 have hfg:∀b,b<(k8 g s (upN p)).length→(fdI g (at0 (k8 g s (upN p)) b))=a0Z g (k8 g s (upN p)) b:=fun _ _=>rfl
 by_cases h:k8 g s (upN p)=[]
 ·have e0:∀k∈p,xOf (v6 g s us p).1 p k=0:=fun k hk=>by
   unfold v6;rw[if_pos h];exact J4 (by unfold a3V;rw[List.getElem?_replicate,if_pos (List.idxOf_lt_length_of_mem hk)])
  have n0:∀k∈p,n k=0:=fun k hk=>by
   have h1:=hX k hk;rw[e0 k hk]at h1;exact(Int.mul_eq_zero.1 h1.symm).resolve_left (by omega)
  have hz:O8 us p=true:=by unfold v6 at hok;rwa [if_pos h]at hok
  have hu:∀k∈p,igt us k=0:=fun k hk=>by
   unfold O8 at hz;rw[List.all_eq_true]at hz;simpa using hz k hk
  have hw:=b3B n0 hcl;refine⟨c1,hd1,fun k hk=>⟨(c2 k hk).1,hvt k hk,(c2 k hk).2.2⟩,hnb,fun i hi=>?_,fun _ f hf=>absurd hf (by rw[h];simp),Or.inl h,?_,hsame⟩
  ·rw[hu i hi,hw.1,h];simp[fgi,sF]
  ·have e1:enT us n p=0:=y3 fun k hk=>by rw[n0 k hk,Int.zero_mul]
   have e2:enR us n p=0:=y3 fun k hk=>by rw[n0 k hk,Int.zero_mul]
   rw[hw.2,e1,e2,h];simp[fgl,enG,sF]
 ·obtain⟨hv,hs0,hs⟩:=a2t hnt hp h5 hus hok h;have ho:=a2f (us:=us) hnt hp rfl;have hvn:b1H (ptO g s us p) n d:=a8U hq (by rw[←hD];exact hv) fun k hk=>hX k hk;have hb:∀f∈k8 g s (upN p),∃b,b<(k8 g s (upN p)).length∧fdI g f=a0Z g (k8 g s (upN p)) b:=fun f hf=>by
   obtain⟨b,hb⟩:=List.getElem?_of_mem hf;exact⟨b,(List.getElem?_eq_some_iff.1 hb).1,by unfold a0Z;rw[J4 hb]⟩
  have hfb:∀b,b<(k8 g s (upN p)).length→at0 (k8 g s (upN p)) (b:Nat)∈k8 g s (upN p):=fun b hb=>List.mem_of_getElem? (C3 hb);refine⟨c1,hd1,fun k hk=>⟨(c2 k hk).1,hvt k hk,(c2 k hk).2.2⟩,hnb,fun i hi=>?_,fun e f hf=>?_,?_,?_,hsame⟩
  ·have h1:=hvn.eq i hi;have h2:sm (fun k=>(ptO g s us p).L i k*n k) (ptO g s us p).ns=wf p n (onW g.Wires s.Wires) i:=a7Q hnd hi hcl;have h3:(ptO g s us p).give n d i=fgi g n d (k8 g s (upN p)) i:=by
    unfold fgi;rw[a1S,b1B];refine i8 fun b _=>?_;unfold cF fgv;rw[a8d];rfl
   rw[h2,h3]at h1;have h4:(ptO g s us p).u i=igt us i:=rfl;rw[h4,Int.mul_comm d]at h1;omega
  ·obtain⟨b,hbl,e2⟩:=hb f hf;have h1:=(hs e).1 b hbl;rw[hX _ (by have:=(C9 hnt (p:=p) rfl hbl).2.2.2.2.2.1;exact this),hD,Int.mul_left_comm]at h1;have:=Int.le_of_mul_le_mul_left h1 hq;rw[e2];exact this
  ·by_cases e:A5 us p=0
   ·obtain⟨b,hbl,e3⟩:=(hs e).2;rw[hX _ (by have:=(C9 hnt (p:=p) rfl hbl).2.2.2.2.2.1;exact this),hD,Int.mul_left_comm]at e3;exact Or.inr (Or.inr ⟨_,hfb b hbl,Int.eq_of_mul_eq_mul_left (by omega) e3⟩)
   ·exact Or.inr (Or.inl (by omega))
  ·have h1:=a7A ho (W:=onW g.Wires s.Wires) rfl hcl hvn;have e1:sm (fun b=>(ptO g s us p).s b*max 0 ((ptO g s us p).V b*d-n ((ptO g s us p).p b))*max 0 ((ptO g s us p).V b*d-n ((ptO g s us p).p b))) (ptO g s us p).fs=fgl g n d (k8 g s (upN p)):=by
    unfold fgl;rw[a1S];refine i8 fun b _=>?_;rw[a8d];rfl
   have e2:sm (fun b=>(ptO g s us p).V b*cF (ptO g s us p) n d b) (ptO g s us p).fs=enG g (k8 g s (upN p)) n d:=by
    unfold enG;rw[a1S];refine i8 fun b _=>?_;unfold cF;rw[a8d];rfl
   have e3:sm (fun i=>n i*(ptO g s us p).u i) (ptO g s us p).ns=enT us n p-enR us n p:=b8x n p;rw[e1,e2,e3]at h1;have e4:(ptO g s us p).ns=p:=rfl;rw[e4]at h1;rw[h1]
   congr 1
   omega
end
end Go.Cur
end
section
namespace Go.Cur
open Go.AM Go.Proofs
section
variable {g:Gr} {wi:List Bool} {l:List Ld}
theorem b3S {z:SS} (h:D8 g wi l z=none):y8 g wi l z=none∧J8 g wi l z=none∧P9 g wi l z=none∧C6 g wi l z=none:=by
 unfold D8 at h
 cases h1:y8 g wi l z with
 |some a=>rw[h1]at h;cases h
 | none=>
  rw[h1]at h
  cases h2:J8 g wi l z with
  |some a=>rw[h2]at h;cases h
  | none=>
   rw[h2]at h
   cases h3:P9 g wi l z with
   |some a=>rw[h3]at h;cases h
   |none=>
    rw[h3]at h
    cases h4:C6 g wi l z with
    |some a=>rw[h4]at h;cases h
    |none=>exact⟨rfl,rfl,rfl,rfl⟩
theorem b2d {z:SS} (h1:y8 g wi l z=none) (h2:J8 g wi l z=none) (h3:P9 g wi l z=none) (h4:C6 g wi l z=none):D8 g wi l z=none:=by
 unfold D8;rw[h1,h2,h3,h4];rfl
theorem a6b {s:Sta} {vf:Nat→Fr} {sv:List Bool} {i:Nat} (hc:b5w g vf l sv i=true) {y:Int} (hy:y∈upN (z4 g s (ldA l i).At.toNat)):∀{n:Nat},i<n→ibt (a3h g s vf l sv n) y=true
 | n+1,hn=>by
  rw[Q9];unfold b8m
  rcases Nat.lt_succ_iff_lt_or_eq.1 hn with h|rfl
  ·have:=a6b hc hy h
   split
   ·rw[a4g,this,Bool.or_true]
   ·exact this
  ·rw[if_pos hc,a4g,decide_eq_true hy,Bool.true_or]
theorem a6L {s:Sta} {vf:Nat→Fr} {sv:List Bool}:∀{n:Nat},(∀i,i<n→b5w g vf l sv i=false)→a3h g s vf l sv n=[]
 |0,_=>rfl
 |n+1,h=>by
  rw[Q9,a6L fun i hi=>h i (by omega)];unfold b8m;rw[if_neg (by rw[h n (by omega)];decide)]
theorem b5K {s:Sta} (hnt:o7 g s) {x:Int} (h0:0≤x) (h1:x<g.Nodes):x∈upN (z4 g s x.toNat):=by
 rw[V5];refine⟨h0,?_⟩;unfold z4;rw[E4];exact⟨by omega,rfl⟩
theorem b8H (h:C4 g wi l) {z:SS} (hz:ZOk g wi l z) (hl:P9 g wi l z=none) {i:Nat} (hi:i<l.length):b5w g (vfZ g wi l z) l z.sv i=false:=by
 cases hc:b5w g (vfZ g wi l z) l z.sv i with
 |false=>rfl
 | true=>
  exfalso;have hn:b4H g wi l z<0:=by
   unfold P9 at hl
   split at hl
   ·cases hl
   ·omega
  have ha:=h.ld.at_ _ (List.mem_of_getElem? (z8 hi));have hm:=a6b (s:=⟨z.fe,wi⟩) hc (b5K (h.net hz) ha.1 ha.2) hi;have hb:bAt z.sv i=true∧0<(ldA l i).Units:=by
   unfold b5w at hc;simp only[Bool.and_eq_true,decide_eq_true_eq]at hc;exact⟨hc.1,hc.2.1⟩
  have:=a1E hn i hi hb.1;unfold a7e at this;rw[hm]at this;simp[hb.2]at this
theorem c1j (h:C4 g wi l) {z:SS} (hz:ZOk g wi l z) (hs:D8 g wi l z=none):D1 g wi (srv l z.sv) z.fe=z0 (srv l z.sv) z.fe:=by
 obtain⟨h1,h2,h3,h4⟩:=b3S hs;have hig:∀x,igt (tkK (srv l z.sv) (List.replicate (srv l z.sv).length true)) x=igt (tkK l z.sv) x:=b9o l z.sv;have hvf:vfZ g wi (srv l z.sv) (z0 (srv l z.sv) z.fe)=vfZ g wi l z:=by
  unfold vfZ z0;exact b3g hig
 have hmem:∀i,i<(srv l z.sv).length→∃j,j<l.length∧bAt z.sv j=true∧ldA (srv l z.sv) i=ldA l j:=fun i hi=>by
  obtain⟨j,hj,hb⟩:=b9z.1 (List.mem_of_getElem? (z8 hi));have hjl:=(List.getElem?_eq_some_iff.1 hj).1;refine⟨j,hjl,c1b hb,?_⟩;have:=z8 hjl;rw[hj]at this;exact Option.some.inj this
 unfold D1;refine V1 (b2d ?_ ?_ ?_ ?_)
 ·unfold y8;rw[Option.map_eq_none_iff,List.find?_eq_none];intro i hi;rw[List.mem_range]at hi;obtain⟨j,hj,hb,e⟩:=hmem i hi;unfold y8 at h1;rw[Option.map_eq_none_iff,List.find?_eq_none]at h1;have:=h1 j (List.mem_range.2 hj);unfold F9 at this ⊢;rw[hb]at this;rw[e];simp only[z0]at this ⊢;intro hd;simp only[Bool.and_eq_true]at hd this;exact this (by simpa using(by simpa using hd:_∧_∧_).2)
 ·have hn:b2G g wi l z<0:=by
   unfold J8 at h2
   split at h2
   ·cases h2
   ·omega
  have hi2:b2G g wi (srv l z.sv) (z0 (srv l z.sv) z.fe)<0:=by
   refine b3v fun i hi _=>?_;obtain⟨j,hj,hb,e⟩:=hmem i hi;have:=a1E hn j hj hb;rw[e];unfold a7g at this ⊢;have es:∀p,A5 (tkK (srv l z.sv) (z0 (srv l z.sv) z.fe).sv) p=A5 (tkK l z.sv) p:=fun p=>by
    unfold A5;have:(fun x:Nat=>igt (tkK (srv l z.sv) (z0 (srv l z.sv) z.fe).sv) x)=fun x:Nat=>igt (tkK l z.sv) x:=funext fun x=>hig x;exact congrArg (fun f=>sm f p) this
   rw[es];exact this
  unfold J8;rw[if_neg (by omega)]
 ·have hi2:b4H g wi (srv l z.sv) (z0 (srv l z.sv) z.fe)<0:=by
   refine b3v fun i hi _=>?_;have:a3h g ⟨(z0 (srv l z.sv) z.fe).fe,wi⟩ (vfZ g wi (srv l z.sv) (z0 (srv l z.sv) z.fe)) (srv l z.sv) (z0 (srv l z.sv) z.fe).sv (srv l z.sv).length=[]:=by
    refine a6L fun i hi=>?_;obtain⟨j,hj,hb,e⟩:=hmem i hi;have:=b8H h hz h3 hj;rw[hvf];unfold b5w at this ⊢;rw[hb,Bool.true_and]at this;rw[e,this,Bool.and_false]
   rw[this];unfold a7e;rw[b8X,Bool.and_false]
  unfold P9;rw[if_neg (by omega)]
 ·have:Y4 g wi (srv l z.sv) (z0 (srv l z.sv) z.fe)=Y4 g wi l z:=by
   unfold Y4;rw[hvf];rfl
  have hn:Y4 g wi l z<0:=by
   unfold C6 at h4
   split at h4
   ·cases h4
   ·omega
  unfold C6;rw[this,if_neg (by omega)]
end
end Go.Cur
end
section
namespace Go.Cur
open Go.AM Go.Proofs
theorem M6 (f:Fr):d6 Try.prog 31 [f.av] (Bo (decide (0<f.Den)&&(decide (f.Den<2000000000000)&&(decide (-10000000000000000<f.Num)&&decide (f.Num<10000000000000000))))):=by
 refine d6.of_body Try.func31 rfl (by decide) (by simp[Try.ntmps31]) ?_;simp only[Try.ntmps31,Try.results31];refine aS fun K hK=>?_;simp -dsimp;apply hK;clear hK K;refine aS fun K hK=>?_;simp -dsimp;apply hK;clear hK K;exact g7 (by simp[Bool.and_assoc])
theorem c1x {l:List Int} {B:Nat} (h:∀x∈l,x.natAbs≤B) (i:Int):(at0 l i).natAbs≤B:=by
 unfold at0
 cases hi:l[i.toNat]? with
 |none=>simp
 |some x=>exact h x (List.mem_of_getElem? hi)
section
variable {g:Gr} {s:Sta} {us:Kvs}
theorem a1N (hnt:o7 g s) (h5:∀p∈j7 g s,p.length≤5) (hus:∀x,-40≤igt us x∧igt us x≤40) (hok:okS g s us=true) {k:Nat} (hk:k<g.Nodes.toNat):0<(vfS g s us k).Den∧(vfS g s us k).Den≤2000000000∧(vfS g s us k).Num.natAbs≤7000000000000:=by
 obtain⟨p,hp,hkp⟩:=List.mem_flatten.1 (R8 hnt hk);unfold okS at hok;rw[List.all_eq_true]at hok;obtain⟨t1,t2,t3⟩:=L0 hnt hp (h5 p hp) hus (hok p hp);unfold vfS;rw[←S6 hp hkp];have hr:=a1j (n:=at0 (v6 g s us p).1 (p.idxOf k:Nat)) t1;have hb:=c1x t3 (p.idxOf k:Nat);omega
end
end Go.Cur
end
section
namespace Go.Cur
open Go.AM Go.Proofs
theorem a3c (g:Gr) (s:Sta) (l:List Ld):(t7 g s l=false∧a4N g s l=2)∨(t7 g s l=true∧C5 g s=true∧a4N g s l=3)∨(t7 g s l=true∧C5 g s=false∧a4N g s l=0):=by
 unfold a4N
 cases t7 g s l<;>cases C5 g s<;>simp
theorem b2W {g:Gr} {s:Sta} (hl:b4J g s=true) (hlo:C5 g s=false):∀p∈j7 g s,p.length≤5:=fun p hp=>by
 unfold b4J at hl;rw[List.all_eq_true]at hl;unfold C5 at hlo;rw[List.any_eq_false]at hlo;have h1:=hl p hp;have h2:=hlo p hp;simp[b6J]at h1 h2;omega
end Go.Cur
end
section
namespace Go.Cur
open Go.AM Go.Proofs
theorem b3t (a b:Nat) (ha:a≤9223372036854775807) (hb:b≤9223372036854775807):d6 Try.prog 54 [I a,I b] (I (Nat.gcd a b:Nat)):=by
 refine d6.of_body Try.func54 rfl (by decide) (by simp[Try.ntmps54]) ?_;simp only[Try.ntmps54,Try.results54];refine aS fun K hK=>?_;simp -dsimp;apply hK;clear hK K;refine b8 fun K1 hK1=>?_;refine e8 ?_;refine b7 [0,1] ?_;simp only[zP,Nat.reduceEqDiff,reduceIte];refine i4 [] (α:=Nat×Nat) (fun x=>[(0,I x.1),(1,I x.2)]) (fun _=>[]) (fun x=>Nat.gcd x.1 x.2=Nat.gcd a b) (fun x=>x.2) (a,b) ?_ ?_ ?_
 ·rfl
 ·exact j9 (by simp)
 rintro⟨m,n⟩ i1;simp only at i1 ⊢;simp only[zP,Nat.reduceEqDiff,reduceIte];refine b8 fun K2 hK2=>?_;refine aS fun K hK=>?_;simp -dsimp;apply hK;clear hK K;refine d8 rfl (fun hc0=>?_) (fun hc0=>?_)
 ·have hb0:¬n=0:=by have:=(by simpa using hc0:(0:Int)<n);omega
  have hm:(m:Int).tmod n=((m % n:Nat):Int):=by rw[Int.tmod_eq_emod_of_nonneg (by omega)];rfl
  refine f5 ?_;simp only[zT,reduceIte,Nat.reduceEqDiff];refine hK2 _ _ ?_;refine b7 [0,1] ?_;simp only[zP,Nat.reduceEqDiff,reduceIte];refine e8 ?_;refine O0 l9 rfl fun K hK=>?_;simp -dsimp [hm,hb0];refine hK _ _ _ (by decide+kernel) ?_;clear hK K;simp only[zT,reduceIte,Nat.reduceEqDiff];exact⟨(n,m % n),by simp only;rw[a9T hb0];exact i1,Nat.mod_lt _ (by omega),j9 (by simp)⟩
 ·have hb0:n=0:=by have:¬(0:Int)<n:=(by simpa using hc0);omega
  subst hb0;rw[Nat.gcd_zero_right]at i1;subst i1;refine j8 ?_;simp only[zT,reduceIte,Nat.reduceEqDiff];refine hK1 _ _ ?_;refine b7 [0] ?_;simp only[zP,Nat.reduceEqDiff,reduceIte];refine aS fun K hK=>?_;simp -dsimp;apply hK;clear hK K;exact g7 (by simp)
theorem a8v (l:List Int) (x:Int) (hn:l.length≤100000):d6 Try.prog 26 [iL l,I x] (Bo (decide (x∈l))):=by
 refine d6.of_body Try.func26 rfl (by decide) (by simp[Try.ntmps26]) ?_;simp only[Try.ntmps26,Try.results26];refine aS fun K hK=>?_;simp -dsimp;apply hK;clear hK K;refine b8 fun K1 hK1=>?_;refine aS fun K hK=>?_;simp -dsimp;apply hK;clear hK K;refine e8 ?_;refine b7 [0,1,5] ?_;simp only[zP,Nat.reduceEqDiff,reduceIte];refine i4 [0,1] (α:=Nat) (fun k=>[(5,I k)]) (fun k=>[]) (fun k=>k≤l.length∧x∉l.take k) (fun k=>l.length-k) 0 ?_ ?_ ?_
 ·exact⟨Nat.zero_le _,by simp⟩
 ·exact j9 (by simp)
 rintro k ⟨k1,k2⟩;simp only[zP,Nat.reduceEqDiff,reduceIte];refine b8 fun K2 hK2=>?_;refine aS fun K hK=>?_;simp -dsimp;apply hK;clear hK K;refine d8 rfl (fun hc0=>?_) (fun hc0=>?_)
 ·have hkl:k<l.length:=by simpa using hc0
  have wk:=zW k (by omega);obtain⟨y,hy⟩:∃y,l[k]?=some y:=⟨_,List.getElem?_eq_getElem hkl⟩;refine f5 ?_;simp only[zT,reduceIte,Nat.reduceEqDiff];refine hK2 _ _ ?_;refine b7 [0,1,5] ?_;simp only[zP,Nat.reduceEqDiff,reduceIte];refine b8 fun K3 hK3=>?_;refine e8 ?_;refine aS fun K hK=>?_;simp -dsimp [hy];apply hK;clear hK K;refine d8 rfl (fun hc1=>?_) (fun hc1=>?_)
  ·refine aS fun K hK=>?_;simp -dsimp;apply hK;clear hK K;have hxy:x∈l:=by have:y=x:=(by simpa using hc1);rw[←this];exact List.mem_of_getElem? hy
   exact g7 (by simp[hxy])
  ·refine f5 ?_;simp only[zT,reduceIte,Nat.reduceEqDiff];refine hK3 _ _ ?_;refine b7 [0,1,5] ?_;simp only[zP,Nat.reduceEqDiff,reduceIte];refine aR fun K hK=>?_;simp -dsimp [wk];apply hK;clear hK K;simp only[zT,reduceIte,Nat.reduceEqDiff];have hxy:¬x=y:=by intro h;simp[h]at hc1
   exact⟨k+1,⟨by omega,by rw[List.take_add_one,hy,List.mem_append];simp[k2,hxy]⟩,by omega,e9 [] rfl (by simp) (by simp)⟩
 ·have hkl:¬k<l.length:=by simpa using hc0
  rw[List.take_of_length_le (by omega)]at k2;refine j8 ?_;simp only[zT,reduceIte,Nat.reduceEqDiff];refine hK1 _ _ ?_;refine b7 [] ?_;simp only[zP,Nat.reduceEqDiff,reduceIte];refine aS fun K hK=>?_;simp -dsimp;apply hK;clear hK K;exact g7 (by simp[k2])
theorem a9L (N:Nat) (vf:Nat→Fr) (p:List Nat) (D:Int) (hD:0<D) (hD1:D≤2000000000) (hp:p.length≤1000) (hN:N≤1000) (h:∀k∈p,k<N∧0<(vf k).Den∧(vf k).Den∣D∧(vf k).Num.natAbs≤7000000000000):
  d6 Try.prog 24 [fL (vlA N vf),iL (upN p)] (.tup [I (cmD vf p),Bo true]):=by
 have hul:=o9 p;have gvl:=fun k (hk:k<N)=>Q5 (vf:=vf) hk;have hvlen:(vlA N vf).length=N:=by simp[vlA]
 generalize vlA N vf=VS at gvl hvlen;have hlc:=fun k=>b5v (f:=fun k=>(vf k).Den) (D:=D) (l:=p) (fun k hk=>⟨(h k hk).2.1,(h k hk).2.2.1⟩) k;have hcm:cmD vf p=lcF (fun k=>(vf k).Den) p:=rfl;rw[hcm];refine d6.of_body Try.func24 rfl (by decide) (by simp[Try.ntmps24]) ?_;simp only[Try.ntmps24,Try.results24];refine aS fun K hK=>?_;simp -dsimp;apply hK;clear hK K;refine aS fun K hK=>?_;simp -dsimp;apply hK;clear hK K;refine b8 fun K1 hK1=>?_;refine aS fun K hK=>?_;simp -dsimp;apply hK;clear hK K;refine e8 ?_;refine b7 [0,1,6,7] ?_;simp only[zP,Nat.reduceEqDiff,reduceIte];refine i4 [0,1] (α:=Nat) (fun k=>[(6,I (lcF (fun k=>(vf k).Den) (p.take k))),(7,I k)]) (fun k=>[]) (fun k=>k≤p.length) (fun k=>p.length-k) 0 ?_ ?_ ?_
 ·exact Nat.zero_le _
 ·exact j9 (by simp[lcF])
 rintro k k1;simp only[zP,Nat.reduceEqDiff,reduceIte];refine b8 fun K2 hK2=>?_;refine aS fun K hK=>?_;simp -dsimp [hul];apply hK;clear hK K;refine d8 rfl (fun hc0=>?_) (fun hc0=>?_)
 ·have hkl:k<p.length:=by simpa [hul]using hc0
  have wk:=zW k (by omega);obtain⟨x,hx⟩:∃x,p[k]?=some x:=⟨_,List.getElem?_eq_getElem hkl⟩;have gx:=E9 hx;obtain⟨hxN,hx0,hxD,hxn⟩:=h x (List.mem_of_getElem? hx);have gv:=gvl x hxN;have hpl:=M6 (vf x);have hsn:=b5j (f:=fun k=>(vf k).Den) hx;obtain⟨hd0,hdD⟩:=hlc k;obtain⟨e0,eD,-,-⟩:=b6I (f:=fun k=>(vf k).Den) hd0 hx0 hdD hxD;unfold lcS at hsn e0 eD;simp only at hsn e0 eD;generalize lcF (fun k=>(vf k).Den) (p.take k)=d at hd0 hdD hsn e0 eD ⊢;have hdle:=Int.le_of_dvd hD hdD;have hxle:=Int.le_of_dvd hD hxD;have hele:=Int.le_of_dvd hD eD;obtain⟨a,ha⟩:∃a:Nat,d=a:=⟨d.toNat,by omega⟩;obtain⟨b,hb⟩:∃b:Nat,(vf x).Den=b:=⟨(vf x).Den.toNat,by omega⟩;have hdv:=b3t a b (by omega) (by omega);have hgg:(Int.gcd d (vf x).Den:Nat)=Nat.gcd a b:=by rw[ha,hb];rfl
  rw[hgg]at hsn e0 eD hele;have hg0:0<Nat.gcd a b:=Nat.gcd_pos_of_pos_left b (by omega);generalize Nat.gcd a b=G at hdv hsn e0 eD hele hg0;have hg1:¬G=0:=by omega
  have p1:(vf x).Den<2000000000000:=by omega
  have p2:-10000000000000000<(vf x).Num:=by omega
  have p3:(vf x).Num<10000000000000000:=by omega
  have q1:(b:Int).tdiv G=(vf x).Den/G:=by rw[hb];exact Int.tdiv_eq_ediv_of_nonneg (by omega)
  have q2:(2000000000000:Int).tdiv a=2000000000000/d:=by rw[ha];exact Int.tdiv_eq_ediv_of_nonneg (by omega)
  have b1:=Int.ediv_nonneg (show 0≤(vf x).Den by omega) (show(0:Int)≤G by omega);have b2:=Int.ediv_le_self (G:Int) (show 0≤(vf x).Den by omega);have b3:=Int.ediv_nonneg (show(0:Int)≤2000000000000 by omega) (show(0:Int)≤d by omega);have b4:=Int.ediv_le_self d (show(0:Int)≤2000000000000 by omega);generalize hE:(vf x).Den/ (G:Int)=E at hsn e0 eD hele q1 b1 b2;have b5:E≤2000000000000/d:=Int.le_ediv_of_mul_le hd0 (by rw[Int.mul_comm];omega);generalize (2000000000000:Int)/d=M at q2 b3 b4 b5;have w1:IntKind.i64.wrap E=E:=f7 (by omega) (by omega);have w2:IntKind.i64.wrap M=M:=f7 (by omega) (by omega);have w3:IntKind.i64.wrap ((a:Int)*E)=(a:Int)*E:=by rw[ha]at hele e0;exact f7 (by omega) (by omega)
  have ha0:¬a=0:=by omega
  have hME:¬M<E:=by omega
  refine f5 ?_;simp only[zT,reduceIte,Nat.reduceEqDiff];refine hK2 _ _ ?_;refine b7 [0,1,6,7] ?_;simp only[zP,Nat.reduceEqDiff,reduceIte];refine b8 fun K3 hK3=>?_;refine e8 ?_;refine aS fun K hK=>?_;simp -dsimp [gx,gv];apply hK;clear hK K;refine b8 fun K4 hK4=>?_;refine aS fun K hK=>?_;simp -dsimp [hx0,p1,p2,p3];refine d5 _ (hpl) (by simp) ?_;simp -dsimp [hx0,p1,p2,p3];apply hK;clear hK K;refine d8 rfl (fun hc1=>?_) (fun hc1=>?_)
  ·simp at hc1
  ·refine f5 ?_;simp only[zT,reduceIte,Nat.reduceEqDiff];refine hK4 _ _ ?_;refine b7 [0,1,6,7,8] ?_;simp only[zP,Nat.reduceEqDiff,reduceIte];refine s9 l9 rfl fun K hK=>?_;simp -dsimp [hb,ha,hg1,q1,w1];refine d5 _ (hdv) (by simp) ?_;simp -dsimp [hb,ha,hg1,q1,w1];refine hK _ _ _ (by decide+kernel) ?_;clear hK K;refine b8 fun K5 hK5=>?_;refine aS fun K hK=>?_;simp -dsimp [ha,ha0,q2,w2];apply hK;clear hK K;refine d8 rfl (fun hc2=>?_) (fun hc2=>?_)
   ·simp at hc2;omega
   ·refine f5 ?_;simp only[zT,reduceIte,Nat.reduceEqDiff];refine hK5 _ _ ?_;refine b7 [0,1,6,7,9] ?_;simp only[zP,Nat.reduceEqDiff,reduceIte];refine aR fun K hK=>?_;simp -dsimp [ha,w3];apply hK;clear hK K;simp only[zT,reduceIte,Nat.reduceEqDiff];refine hK3 _ _ ?_;refine b7 [0,1,6,7] ?_;simp only[zP,Nat.reduceEqDiff,reduceIte];refine aR fun K hK=>?_;simp -dsimp [wk];apply hK;clear hK K;simp only[zT,reduceIte,Nat.reduceEqDiff];exact⟨k+1,by omega,by omega,e9 [] rfl (by simp[hsn,ha]) (by simp)⟩
 ·have hkl:¬k<p.length:=by simpa [hul]using hc0
  rw[List.take_of_length_le (by omega)];refine j8 ?_;simp only[zT,reduceIte,Nat.reduceEqDiff];refine hK1 _ _ ?_;refine b7 [6] ?_;simp only[zP,Nat.reduceEqDiff,reduceIte];refine aS fun K hK=>?_;simp -dsimp;apply hK;clear hK K;exact g7 (by simp)
end Go.Cur
end
section
namespace Go.Cur
open Go.AM Go.Proofs
structure FrP (a b:Fr):Prop where
 a0:0≤a.Num
 a1:a.Num≤9223372036854775807
 a2:0<a.Den
 a3:a.Den≤9223372036854775807
 b0:0≤b.Num
 b1:b.Num≤9223372036854775807
 b2:0<b.Den
 b3:b.Den≤9223372036854775807
def a6P (a b:Fr):Bool:=decide (b.Num*a.Den<a.Num*b.Den)
theorem b4l {n d m e x y u v:Int} (h:y<x) (k1:d*x+u=n) (hu:0≤u) (k2:e*y+v=m) (hv:v<e) (hd:0<d) (he:0<e):m*d<n*e:=by
 have h1:e*(y+1)≤e*x:=Int.mul_le_mul_of_nonneg_left (by omega) (by omega);rw[Int.mul_add,Int.mul_one]at h1;have h3:m*d<e*x*d:=Int.mul_lt_mul_of_pos_right (by omega) hd;have h4:d*x*e≤n*e:=Int.mul_le_mul_of_nonneg_right (by omega) (by omega);have h5:e*x*d=d*x*e:=by rw[Int.mul_comm (e*x) d,Int.mul_comm e x,Int.mul_assoc]
 omega
theorem b4q {n d m e x u v:Int} (k1:d*x+u=n) (k2:e*x+v=m):m*d<n*e↔v*d<u*e:=by
 have h5:e*x*d=d*x*e:=by rw[Int.mul_comm (e*x) d,Int.mul_comm e x,Int.mul_assoc]
 rw[←k1,←k2,Int.add_mul,Int.add_mul,h5];omega
theorem b9s (a b:Fr) (hp:FrP a b):d6 Try.prog 63 [a.av,b.av] (Bo (a6P a b)):=by
 refine d6.of_body Try.func63 rfl (by decide) (by simp[Try.ntmps63]) ?_;simp only[Try.ntmps63,Try.results63];refine aS fun K hK=>?_;simp -dsimp;apply hK;clear hK K;refine e8 ?_;refine b7 [2,3] ?_;simp only[zP,Nat.reduceEqDiff,reduceIte];refine i4 [2,3] (α:=Fr×Fr) (fun q=>[]) (fun q=>[some (.els 2 [q.1.cells]),some (.els 2 [q.2.cells])]) (fun q=>FrP q.1 q.2∧a6P q.1 q.2=a6P a b) (fun q=>(q.1.Den+q.2.Den).toNat) (a,b) ?_ ?_ ?_
 ·exact⟨hp,rfl⟩
 ·exact e9 [some 0,some 1] rfl (by simp) (by simp)
 rintro⟨x,y⟩ ⟨h,he⟩;simp only at h he ⊢;rw[←he];obtain⟨a0,a1,a2,a3,b0,b1,b2,b3⟩:=h;obtain⟨n,d⟩:=x;obtain⟨m,e⟩:=y;simp only at a0 a1 a2 a3 b0 b1 b2 b3 ⊢;have hd0:¬d=0:=by omega
 have he0:¬e=0:=by omega
 have q1:n.tdiv d=n/d:=Int.tdiv_eq_ediv_of_nonneg a0;have q2:m.tdiv e=m/e:=Int.tdiv_eq_ediv_of_nonneg b0;have k1:=Int.mul_ediv_add_emod n d;have k2:=Int.mul_ediv_add_emod m e;have r1:=Int.emod_nonneg n hd0;have r2:=Int.emod_lt_of_pos n a2;have r3:=Int.emod_nonneg m he0;have r4:=Int.emod_lt_of_pos m b2;have s1:=Int.ediv_nonneg a0 (Int.le_of_lt a2);have s2:=Int.ediv_nonneg b0 (Int.le_of_lt b2);have t1:n/d≤n:=Int.ediv_le_self _ a0;have t2:m/e≤m:=Int.ediv_le_self _ b0;have hmore:a6P ⟨n,d⟩ ⟨m,e⟩=decide (m*d<n*e):=rfl;generalize hx:n/d=x at*
 generalize hy:m/e=y at*
 generalize n % d=u at*
 generalize m % e=v at*
 have w1:IntKind.i64.wrap x=x:=f7 (by omega) (by omega);have w2:IntKind.i64.wrap y=y:=f7 (by omega) (by omega);have w3:IntKind.i64.wrap (x*d)=x*d:=f7 (by rw[Int.mul_comm];omega) (by rw[Int.mul_comm];omega);have w4:IntKind.i64.wrap (y*e)=y*e:=f7 (by rw[Int.mul_comm];omega) (by rw[Int.mul_comm];omega);have e3:n-x*d=u:=by rw[Int.mul_comm];omega
 have e4:m-y*e=v:=by rw[Int.mul_comm];omega
 have w5:IntKind.i64.wrap u=u:=f7 (by omega) (by omega);have w6:IntKind.i64.wrap v=v:=f7 (by omega) (by omega);simp only[zP,Nat.reduceEqDiff,reduceIte];refine e8 ?_;refine s9 l9 rfl fun K hK=>?_;simp -dsimp [hd0,he0,q1,q2,w1,w2];refine hK _ _ _ (by decide+kernel) ?_;clear hK K;refine b8 fun K1 hK1=>?_;refine aS fun K hK=>?_;simp -dsimp;apply hK;clear hK K;refine d8 rfl (fun hc0=>?_) (fun hc0=>?_)
 ·refine aS fun K hK=>?_;simp -dsimp;apply hK;clear hK K;have hne:¬x=y:=by simpa using hc0
  have hr:a6P ⟨n,d⟩ ⟨m,e⟩=decide (y<x):=by
   rw[hmore];refine decide_eq_decide.2 ⟨fun hlt=>?_,fun hlt=>b4l hlt k1 r1 k2 r4 a2 b2⟩
   rcases Int.lt_or_gt_of_ne hne with h|h
   ·have:=b4l h k2 r3 k1 r2 b2 a2;omega
   ·exact h
  exact g7 (by simp[hr])
 ·have heq:x=y:=by simpa using hc0
  refine f5 ?_;simp only[zT,reduceIte,Nat.reduceEqDiff];refine hK1 _ _ ?_;refine b7 [2,3,5,6] ?_;simp only[zP,Nat.reduceEqDiff,reduceIte];refine s9 l9 rfl fun K hK=>?_;simp -dsimp [w3,w4,e3,e4,w5,w6];refine hK _ _ _ (by decide+kernel) ?_;clear hK K;refine b8 fun K2 hK2=>?_;refine aS fun K hK=>?_;simp -dsimp;apply hK;clear hK K;refine d8 rfl (fun hc1=>?_) (fun hc1=>?_)
  ·refine aS fun K hK=>?_;simp -dsimp;apply hK;clear hK K;have hr:a6P ⟨n,d⟩ ⟨m,e⟩=decide (0<u):=by
    rw[hmore];subst heq;refine decide_eq_decide.2 ((b4q k1 k2).trans ?_)
    rcases(by simpa using hc1:u=0∨v=0)with h|h
    ·subst h;have:=Int.mul_nonneg r3 (Int.le_of_lt a2);rw[Int.zero_mul];omega
    ·subst h;rw[Int.zero_mul];refine⟨fun h=>?_,fun h=>Int.mul_pos h b2⟩;refine Int.not_le.1 fun h2=>?_;have:=Int.mul_nonpos_of_nonpos_of_nonneg h2 (Int.le_of_lt b2);omega
   exact g7 (by simp[hr])
  ·refine f5 ?_;simp only[zT,reduceIte,Nat.reduceEqDiff];refine hK2 _ _ ?_;refine b7 [2,3] ?_;simp only[zP,Nat.reduceEqDiff,reduceIte];refine aR fun K hK=>?_;simp -dsimp;apply hK;clear hK K;simp only[zT,reduceIte,Nat.reduceEqDiff];have huv:¬u=0∧¬v=0:=by simpa using hc1
   subst heq;refine⟨(⟨e,v⟩,⟨d,u⟩),⟨⟨by simp only;omega,b3,by simp only;omega,by simp only;omega,by simp only;omega,a3,by simp only;omega,by simp only;omega⟩,?_⟩,by simp only;omega,e9 [some 0,some 1] rfl (by simp) (by simp)⟩;rw[hmore];refine decide_eq_decide.2 (((b4q k1 k2).trans ?_).symm);rw[Int.mul_comm v,Int.mul_comm u]
end Go.Cur
end
section
namespace Go.Cur
open Go.AM Go.Proofs
def rwF {α:Type} (n:Nat) (f:Nat→α):List α:=(List.range n).map f
section
variable {α:Type} {n:Nat} {f h:Nat→α}
theorem V2 {k:Nat} (hk:k<n):(rwF n f)[k]?=some (f k):=by
 unfold rwF;rw[List.getElem?_map,List.getElem?_range hk];rfl
theorem a0u (n:Nat) (f:Nat→α):(rwF n f).length=n:=by simp[rwF]
theorem a8j {a:Nat} {v:α}:(rwF n f).set a v=rwF n fun k=>if k=a then v else f k:=by
 refine List.ext_getElem? fun i=>?_
 by_cases hi:i<n
 ·rw[V2 hi]
  by_cases h2:i=a
  ·subst h2;rw[List.getElem?_set_self (by rw[a0u];exact hi),if_pos rfl]
  ·rw[List.getElem?_set_ne (fun e=>h2 e.symm),V2 hi,if_neg h2]
 ·rw[List.getElem?_eq_none (by rw[List.length_set,a0u];omega),List.getElem?_eq_none (by rw[a0u];omega)]
theorem Y3 (e:∀k,k<n→f k=h k):rwF n f=rwF n h:=by
 unfold rwF;exact List.map_congr_left fun k hk=>e k (List.mem_range.1 hk)
end
theorem c3w (n:Nat) (f:Nat→Int) (h:∀k,f k=0):List.replicate n [AV.v (Value.int .i64 0)]=(rwF n f).map j0:=c1s n f h
theorem find_some {n i:Nat} {f:Nat→Bool} (hi:i<n) (h:f i=true) (hn:∀j,j<i→f j=false):(List.range n).find? f=some i:=by
 rw[List.find?_range_eq_some];exact⟨h,List.mem_range.2 hi,fun j hj=>by simp[hn j hj]⟩
end Go.Cur
end
section
namespace Go.Cur
open Go.AM Go.Proofs
theorem b3H {α:Type} {n a:Nat} {f h:Nat→α} {v:α} (e:∀x,x<n→h x=if x=a then v else f x):(rwF n f).set a v=rwF n h:=by
 rw[a8j];exact Y3 fun x hx=>(e x hx).symm
def ndR (N:Nat) (done:List Nat) (f:Nat→Int):List Int:=rwF N fun x=>if x∈done then f x else 0
theorem b1L {N:Nat} {done:List Nat} {f:Nat→Int}:(ndR N done f).length=N:=a0u _ _
theorem b5r {N:Nat} {f:Nat→Int}:(ndR N [] f).map j0=List.replicate N [AV.v (Value.int .i64 0)]:=(c3w N _ fun _=>by simp).symm
theorem b2O {N:Nat} {done:List Nat} {f:Nat→Int} {x:Nat}:(ndR N done f).set x (f x)=ndR N (done++[x]) f:=by
 unfold ndR;refine b3H fun y _=>?_
 by_cases e:y=x
 ·rw[if_pos (by simp[e]),if_pos e,e]
 ·rw[if_neg e];simp[e]
theorem b8d {N:Nat} {done:List Nat} {f:Nat→Int} {x:Nat} (hx:x<N) (hd:x∈done):(ndR N done f)[x]?=some (f x):=by unfold ndR;rw[V2 hx,if_pos hd]
theorem b6Z {l:List Wr} {b:List Bool} {i:Nat} {w:Wr} (h1:l[i]?=some w) (h2:b[i]?=some true):(⟨w.A.toNat,w.B.toNat,w.Siem⟩:Wn)∈onW l b:=by
 unfold onW;rw[List.mem_filterMap];exact⟨(w,true),List.mem_of_getElem? (List.getElem?_zip_eq_some.2 ⟨h1,h2⟩),rfl⟩
theorem c0d {l:List Wr} {b:List Bool} {k:Nat} {w:Wn} (h:w∈onW (l.take k) (b.take k)):w∈onW l b:=by
 unfold onW at h ⊢;rw[List.mem_filterMap]at h ⊢;obtain⟨q,hq,h⟩:=h;obtain⟨i,hi⟩:=List.getElem?_of_mem hq;rw[List.getElem?_zip_eq_some,List.getElem?_take,List.getElem?_take]at hi;have hik:i<k:=by
  refine Decidable.byContradiction fun hn=>?_;rw[if_neg hn]at hi;exact absurd hi.1 (by simp)
 rw[if_pos hik,if_pos hik]at hi;exact⟨q,List.mem_of_getElem? (List.getElem?_zip_eq_some.2 hi),h⟩
theorem b6m (l:List Wr) (b:List Bool) (k:Nat):(onW (l.take k) (b.take k)).length≤k:=by
 unfold onW;refine Nat.le_trans (List.length_filterMap_le _ _) ?_;rw[List.length_zip,List.length_take];omega
theorem c0J {p:List Nat} {x:Nat→Int} {i:Nat}:∀{W:List Wn},(∀w∈W,0<w.s∧w.s≤4∧(w.a∈p→(x w.a).natAbs≤7000000000000∧(x w.b).natAbs≤7000000000000))→ -56000000000000*(W.length:Int)≤wf p x W i∧wf p x W i≤56000000000000*(W.length:Int)
 |[],_=>by simp[wf]
 | w::W,h=>by
  have ih:=c0J (i:=i) (W:=W) fun w hw=>h w (by simp[hw]);have hw:=h w (by simp);rw[wf,List.length_cons,Int.natCast_add,Int.mul_add,Int.mul_add]
  by_cases ha:w.a∈p
  ·have hn:=hw.2.2 ha;have hs:w.s=1∨w.s=2∨w.s=3∨w.s=4:=by omega
   have he:ew w i=0∨ew w i=1∨ew w i=-1:=by unfold ew;split<;>split<;>omega
   rw[if_pos ha];generalize x w.a=xa at hn;generalize x w.b=xb at hn
   rcases hs with h|h|h|h<;>rcases he with h'|h'|h'<;>rw[h,h']<;>omega
  ·rw[if_neg ha];omega
theorem b6z {p:List Nat} {x:Nat→Int} {i:Nat} (hi:i∉p):∀{W:List Wn},(∀w∈W,w.a∈p↔w.b∈p)→wf p x W i=0
 |[],_=>rfl
 | w::W,h=>by
  have ih:=b6z hi (x:=x) (W:=W) fun w hw=>h w (by simp[hw]);have hw:=h w (by simp);rw[wf,ih]
  by_cases ha:w.a∈p
  ·have h1:¬i=w.a:=fun e=>hi (e▸ha);have h2:¬i=w.b:=fun e=>hi (e▸hw.1 ha);have:ew w i=0:=by unfold ew;rw[if_neg h1,if_neg h2];rfl
   rw[if_pos ha,this];simp
  ·rw[if_neg ha];rfl
section
variable {g:Gr} {s:Sta} {us:Kvs} {p:List Nat} {n:Nat→Int} {d:Int} {F:List Int} {vf:Nat→Fr}
theorem c0U {f:Int} (hf:1≤(fdI g f).Volts∧(fdI g f).Volts≤1000∧1≤(fdI g f).Siem∧(fdI g f).Siem≤4) (hd:0<d) (hd1:d≤2000000000) (hn:(n (fdI g f).At.toNat).natAbs≤7000000000000):0≤fgv g n d f∧fgv g n d f≤36000000000000:=by
 unfold fgv;have h1:=Int.mul_le_mul hf.2.1 hd1 (Int.le_of_lt hd) (by omega);have h2:0≤mx0 ((fdI g f).Volts*d-n (fdI g f).At.toNat)∧mx0 ((fdI g f).Volts*d-n (fdI g f).At.toNat)≤9000000000000:=by unfold mx0;split<;>omega
 generalize mx0 ((fdI g f).Volts*d-n (fdI g f).At.toNat)=m at h2
 rcases(by omega:(fdI g f).Siem=1∨(fdI g f).Siem=2∨(fdI g f).Siem=3∨(fdI g f).Siem=4)with h|h|h|h<;>rw[h]<;>omega
theorem c0E (hF:∀f∈F,0≤fgv g n d f∧fgv g n d f≤36000000000000) (i:Nat):0≤fgi g n d F i∧fgi g n d F i≤36000000000000*(F.length:Int):=b8Y fun f hf=>by
 have:=hF f hf
 split<;>omega
theorem b5s {i k:Nat} {f:Int} (h:F[k]?=some f):fgi g n d (F.take (k+1)) i=fgi g n d (F.take k) i+if (fdI g f).At.toNat=i then fgv g n d f else 0:=a4e h
theorem b9h {i:Nat} (h:∀f∈F,(fdI g f).At.toNat≠i):fgi g n d F i=0:=by
 have:∀{l:List Int},(∀f∈l,(fdI g f).At.toNat≠i)→fgi g n d l i=0:=by
  intro l
  induction l with
  |nil=>intro _;rfl
  |cons x l ih=>
   intro hl;unfold fgi at ih ⊢;rw[O9,ih fun f hf=>hl f (by simp[hf]),if_neg (hl x (by simp))];rfl
 exact this h
theorem c2w {f:Nat} (hs:0<(fdI g (f:Int)).Siem) (hon:bAt s.Feeds f=true) (h0:0<(vf (fdI g (f:Int)).At.toNat).Den) (hd:0<d) (hdv:(vf (fdI g (f:Int)).At.toNat).Den∣d):
  0<(ffF g s vf f).Den∧(ffF g s vf f).Den∣d∧(ffF g s vf f).Num*(d/ (ffF g s vf f).Den)=fgv g (cmN vf d) d f:=by
 unfold fgv cmN ffF;simp only;generalize vf (fdI g (f:Int)).At.toNat=v at h0 hdv ⊢;obtain⟨e,he⟩:=hdv;have he0:0<e:=by
  refine Int.not_le.1 fun hn=>?_;have:=Int.mul_nonpos_of_nonneg_of_nonpos (Int.le_of_lt h0) hn;omega
 have hq:d/v.Den=e:=by rw[he];exact Int.mul_ediv_cancel_left _ (by omega)
 have hdiff:(fdI g (f:Int)).Volts*d-v.Num*e=((fdI g (f:Int)).Volts*v.Den-v.Num)*e:=by rw[he,Int.sub_mul,Int.mul_assoc]
 rw[hq,hdiff,←a4J he0]
 by_cases h:0<(fdI g (f:Int)).Volts*v.Den-v.Num
 ·rw[if_pos ⟨hon,h⟩];obtain⟨a1,a2⟩:=b6T (n:=(fdI g (f:Int)).Siem*((fdI g (f:Int)).Volts*v.Den-v.Num)) (d:=v.Den) (k:=e) h0 he0;refine⟨(a1j h0).1,by rw[he];exact a1,?_⟩;rw[he,a2,Int.mul_assoc];have:mx0 ((fdI g (f:Int)).Volts*v.Den-v.Num)=(fdI g (f:Int)).Volts*v.Den-v.Num:=by unfold mx0;rw[if_pos h]
  rw[this]
 ·rw[if_neg (fun h3=>h h3.2)];have:mx0 ((fdI g (f:Int)).Volts*v.Den-v.Num)=0:=by unfold mx0;rw[if_neg h]
  rw[this];exact⟨by decide,⟨d,by simp⟩,by simp⟩
end
end Go.Cur
end
section
namespace Go.Cur
open Go.AM Go.Proofs
theorem L5 {g:Gr} {s:Sta} (h:C5 g s=false):I7 g s:=fun p hp=>by
 unfold C5 at h;rw[List.any_eq_false]at h;have:=h p hp;simp at this;omega
theorem a0Q (g:Gr) (s:Sta) (l:List Ld):d6 Try.prog 4 [g.av,s.av,lL l] (Bo true):=by
 have hk:=a7M;have hrf:(g.Wires.length≤100∧g.Feeds.length≤20∧l.length≤50)→d6 Try.prog 16 [g.av,s.av,lL l] (I (a4N g s l)):=fun h=>a2x g s l (by omega) (by omega) (by omega);have hre:a4N g s l=0→t7 g s l=true∧C5 g s=false:=fun h=>by
  rcases a3c g s l with h1|h1|h1
  ·omega
  ·omega
  ·exact⟨h1.1,h1.2.1⟩
 have hlt:a4N g s l=0→d6 Try.prog 17 [g.av,s.av] (Bo (b4J g s)):=fun h=>a4B g s (u6 (hre h).1);generalize hRE:a4N g s l=re at hrf hre hlt;refine d6.of_body Try.func4 rfl (by decide) (by simp[Try.ntmps4]) ?_;simp only[Try.ntmps4,Try.results4];refine aS fun K hK=>?_;simp -dsimp;apply hK;clear hK K;refine b8 fun K1 hK1=>?_;refine aS fun K hK=>?_;simp -dsimp;refine g8 _ (fun hm=>hrf (by simp at hm;omega)) (by simp) ?_;simp -dsimp;refine g8 _ (fun hm=>hlt (by simp at hm;omega)) (by simp) ?_;simp -dsimp;apply hK;clear hK K;refine d8 rfl (fun hc0=>?_) (fun hc0=>?_)
 ·refine aS fun K hK=>?_;simp -dsimp;refine d5 _ (hk) (by simp) ?_;simp -dsimp;apply hK;clear hK K;exact g7 (by simp)
 ·have hc1 : l.length≤50∧re=0∧b4J g s=true:=by simp at hc0;exact⟨by omega,by omega,hc0.2⟩
  obtain⟨hfi,hlo⟩:=hre hc1.2.1;have hnt:=u6 hfi;have hbd:=t9 hnt.gr;have h5:=b2W hc1.2.2 hlo;have hld:=O4 hfi;have hus:=a2d hld (A4 l);have hsv:=a4X g s l (by omega) (fun _=>L5 hlo) (fun h1 h2 p hp=>Or.inl (h5 p hp));unfold a6K at hsv;rw[if_pos hfi,if_neg (by rw[hlo];decide)]at hsv;refine f5 ?_;simp only[zT,reduceIte,Nat.reduceEqDiff];refine hK1 _ _ ?_;refine b7 [2,3,4] ?_;simp only[zP,Nat.reduceEqDiff,reduceIte]
  cases hok:okS g s (tkK l (A4 l))
  rw[if_neg (by rw[hok];decide)]at hsv
  rotate_left
  rw[if_pos hok]at hsv
  rotate_left
  ·refine aS fun K hK=>?_;simp -dsimp;refine d5 _ (hsv) (by simp) ?_;simp -dsimp;apply hK;clear hK K;refine b8 fun K2 hK2=>?_;refine aS fun K hK=>?_;simp -dsimp;apply hK;clear hK K;refine d8 rfl (fun hc1=>?_) (fun hc1=>?_)
   ·refine aS fun K hK=>?_;simp -dsimp;refine g8 _ (fun hm=>hk) (by simp) ?_;simp -dsimp;apply hK;clear hK K;exact g7 (by simp)
   ·simp at hc1
  ·refine aS fun K hK=>?_;simp -dsimp;refine d5 _ (hsv) (by simp) ?_;simp -dsimp;apply hK;clear hK K;refine b8 fun K3 hK3=>?_;refine aS fun K hK=>?_;simp -dsimp;apply hK;clear hK K;refine d8 rfl (fun hc1=>?_) (fun hc1=>?_)
   ·simp at hc1
   ·obtain ⟨N,hnn⟩:∃N:Nat,g.Nodes.toNat=N:=⟨g.Nodes.toNat,rfl⟩;have hn0:0≤g.Nodes:=by omega
    have hnN:g.Nodes=(N:Int):=by omega
    have hVl:((vlA g.Nodes.toNat (vfS g s (tkK l (A4 l)))).length:Int)=g.Nodes:=by simp[vlA];omega
    have hFl:(flA g s (vfS g s (tkK l (A4 l)))).length=g.Feeds.length:=by simp[flA]
    refine f5 ?_;simp only[zT,reduceIte,Nat.reduceEqDiff];refine hK3 _ _ ?_;refine b7 [2,3,4,7,8] ?_;simp only[zP,Nat.reduceEqDiff,reduceIte];refine b8 fun K4 hK4=>?_;refine aS fun K hK=>?_;simp -dsimp [hVl,hFl];apply hK;clear hK K;refine d8 rfl (fun hc2=>?_) (fun hc2=>?_)
    ·simp at hc2
    ·have hAl :=c0F l.length (by omega);have hcr:=a7T g l (List.replicate l.length true) N hnN (by omega) (by omega) (by simp) (fun y hy=>by have:=hld.at_ y hy;omega);have hcu:∀k,k<N→(a3f N l (List.replicate l.length true))[k]?=some (igt (tkK l (A4 l)) k):=fun k hk=>by rw[a5o hk,X0]
     generalize a3f N l (List.replicate l.length true)=cu at hcr hcu;have hcm:=fun p (hp:p∈j7 g s) (hok:(v6 g s (tkK l (A4 l)) p).2.2=true)=>a7v (us:=tkK l (A4 l)) hnt hp (h5 p hp) hus hok;have hvt:=fun k (hk:k<N)=>a1N hnt h5 hus hok (k:=k) (by omega);have hokp:∀p∈j7 g s,(v6 g s (tkK l (A4 l)) p).2.2=true:=fun p hp=>by unfold okS at hok;rw[List.all_eq_true]at hok;exact hok p hp
     rw[hnn];generalize List.replicate l.length true=al at hAl hcr;obtain⟨us,hus'⟩:∃us,us=tkK l (A4 l):=⟨_,rfl⟩;rw[←hus']at hcu hcm hus hvt hokp ⊢;have hcom:=fun p (hp:p∈j7 g s)=>a9L N (vfS g s us) p (cmD (vfS g s us) p) (hcm p hp (hokp p hp)).d0 (hcm p hp (hokp p hp)).d1 (by have:=h5 p hp;omega) (by omega) (fun k hk=>⟨by have:=G4 hp hk;omega,((hcm p hp (hokp p hp)).den k hk).1,((hcm p hp (hokp p hp)).den k hk).2.2,(hvt k (by have:=G4 hp hk;omega)).2.2⟩);have gVS:=fun k (hk:k<N)=>Q5 (vf:=vfS g s us) hk;have gFS:=fun i (hi:i<g.Feeds.length)=>V4 (fs:=flA g s (vfS g s us)) (k:=i) (by simp[flA];omega);have hFF:=fun i (hi:i<g.Feeds.length)=>b4h (g:=g) (s:=s) (vf:=vfS g s us) hi;obtain⟨vf,hvf⟩:∃vf,vf=vfS g s us:=⟨_,rfl⟩;rw[←hvf]at hcm hcom gVS gFS hFF hvt ⊢;generalize vlA N vf=VS at gVS hcom ⊢;generalize flA g s vf=FS at gFS hFF ⊢;have hrp:=Y6 g s hnt;have hpl:=M3 g s;have hltp:=fun p (hp:p∈j7 g s) k (hk:k∈p)=>G4 hp hk;have hndp:=fun p (hp:p∈j7 g s)=>a0z hp;have hclp:=fun p (hp:p∈j7 g s)=>(P0 hnt hp (by have:=h5 p hp;omega)).cl;rw[hnn]at hltp;have hfd:=fun p (hp:p∈j7 g s)=>a0x g s (upN p) hnt.sf (by have:=h5 p hp;have:=o9 p;omega) (by omega);have hok':=hokp;have h5':=h5;have hpm':∀p∈j7 g s,p∈j7 g s:=fun _ h=>h;generalize j7 g s=L at hcm hcom hrp hpl hltp hndp hclp hfd hok' h5';have fN:I9 N 9:=m8 (by omega) (by omega);refine f5 ?_;simp only[zT,reduceIte,Nat.reduceEqDiff];refine hK4 _ _ ?_;refine b7 [2,3,4,7,8] ?_;simp only[zP,Nat.reduceEqDiff,reduceIte];refine s9 l9 rfl fun K hK=>?_;simp -dsimp;refine d5 _ (hAl) (by simp) ?_;simp -dsimp;refine d5 _ (hcr) (by simp) ?_;simp -dsimp;refine hK _ _ _ (by decide+kernel) ?_;clear hK K;refine aS fun K hK=>?_;simp -dsimp;refine d5 _ (hrp) (by simp) ?_;simp -dsimp;apply hK;clear hK K;refine b8 fun K5 hK5=>?_;refine aS fun K hK=>?_;simp -dsimp;apply hK;clear hK K;refine e8 ?_;refine b7 [3,4,7,8,10,11,12] ?_;simp only[zP,Nat.reduceEqDiff,reduceIte];refine i4 [3,4,7,8,10,11] (α:=Nat) (fun i=>[(12,I i)]) (fun i=>[some (.els 4 [g.cells]),some (.els 2 [s.cells])]) (fun i=>i≤L.length) (fun i=>L.length-i) 0 ?_ ?_ ?_
     ·exact Nat.zero_le _
     ·exact e9 [some 0,some 1] rfl (by simp) (by simp)
     rintro i i1;simp only[zP,Nat.reduceEqDiff,reduceIte];refine b8 fun K6 hK6=>?_;refine aS fun K hK=>?_;simp -dsimp;apply hK;clear hK K;refine d8 rfl (fun hc3=>?_) (fun hc3=>?_)
     ·have hil:i<L.length:=by simpa using hc3
      have wi:=zW i (by omega);obtain⟨p,hp⟩:∃p,L[i]?=some p:=⟨_,List.getElem?_eq_getElem hil⟩;have hpm:=List.mem_of_getElem? hp;have hul:=o9 p;have hp5:=h5' p hpm;have hcmp:=hcom p hpm;have hC:=hcm p hpm (hok' p hpm);have hlt:=hltp p hpm;have hnd:=hndp p hpm;have hcl:=hclp p hpm;have hfdp:=hfd p hpm;have hcN:∀k,cmN vf (cmD vf p) k=(vf k).Num*(cmD vf p/ (vf k).Den):=fun _=>rfl;have hfat:=fun(f:Nat) (hf:f<g.Feeds.length) (hs:0<(fdI g (f:Int)).Siem) (hon:bAt s.Feeds f=true) (hm:(fdI g (f:Int)).At.toNat∈p)=>c2w (g:=g) (s:=s) (vf:=vf) hs hon (hC.den _ hm).1 hC.d0 (hC.den _ hm).2.2;generalize hdd:cmD vf p=d at hcmp hC hcN hfat;generalize hnn':cmN vf d=n at hC hcN hfat;obtain⟨d0,d1,hden,hnb,heq,hquiet,htouch,-,-⟩:=hC;refine f5 ?_;simp only[zT,reduceIte,Nat.reduceEqDiff];refine hK6 _ _ ?_;refine b7 [3,4,7,8,10,11,12] ?_;simp only[zP,Nat.reduceEqDiff,reduceIte];refine b8 fun K7 hK7=>?_;refine e8 ?_;refine aS fun K hK=>?_;simp -dsimp [hp,pAV];refine d5 _ (hcmp) (by simp) ?_;simp -dsimp [hp,pAV];apply hK;clear hK K;refine b8 fun K8 hK8=>?_;refine aS fun K hK=>?_;simp -dsimp;apply hK;clear hK K;refine d8 rfl (fun hc4=>?_) (fun hc4=>?_)
      ·simp at hc4
      ·refine f5 ?_;simp only[zT,reduceIte,Nat.reduceEqDiff];refine hK8 _ _ ?_;refine b7 [3,4,7,8,10,11,12,13] ?_;simp only[zP,Nat.reduceEqDiff,reduceIte];refine aS fun K hK=>?_;simp -dsimp [hn0,hnn,fN];apply hK;clear hK K;refine aS fun K hK=>?_;simp -dsimp [hn0,hnn,fN];apply hK;clear hK K;refine aS fun K hK=>?_;simp -dsimp;apply hK;clear hK K;refine b8 fun K9 hK9=>?_;refine aS fun K hK=>?_;simp -dsimp;apply hK;clear hK K;refine e8 ?_;refine b7 [3,4,7,8,10,11,12,13,15,16,17,18] ?_;simp only[zP,Nat.reduceEqDiff,reduceIte];refine i4 [3,4,7,8,10,11,12,13,15,16] (α:=Nat) (fun k=>[(17,I (A5 us (p.take k))),(18,I k)]) (fun k=>[some (.els 4 [g.cells]),some (.els 2 [s.cells]),some (.els 1 ((ndR N (p.take k) n).map j0)),some (.els 1 ((ndR N (p.take k) (fun x=>igt us x*d)).map j0))]) (fun k=>k≤p.length) (fun k=>p.length-k) 0 ?_ ?_ ?_
       ·exact Nat.zero_le _
       ·exact e9 [some 0,some 1,some 2,some 3] rfl (by simp[A5,sm]) (by simp[b5r])
       rintro k k1;simp only[zP,Nat.reduceEqDiff,reduceIte];refine b8 fun K10 hK10=>?_;refine aS fun K hK=>?_;simp -dsimp [hp,pAV,hul];apply hK;clear hK K;refine d8 rfl (fun hc5=>?_) (fun hc5=>?_)
       ·have hkl:k<p.length:=by simpa [hul]using hc5
        have wk:=zW k (by omega);obtain⟨x,hx⟩:∃x,p[k]?=some x:=⟨_,List.getElem?_eq_getElem hkl⟩;have gx:=E9 hx;have hxm:=List.mem_of_getElem? hx;have hxN:=hlt x hxm;have gv:=gVS x hxN;have gc:=hcu x hxN;obtain⟨e0,e1,e2⟩:=hden x hxm;have hux:=hus x;have hbx:=hnb x hxm;have hcx:=hcN x;have q1:d.tdiv (vf x).Den=d/ (vf x).Den:=Int.tdiv_eq_ediv_of_nonneg (by omega);have q0:¬(vf x).Den=0:=by omega
        have q2:=Int.ediv_nonneg (show 0≤d by omega) (show 0≤(vf x).Den by omega);have q3:=Int.ediv_le_self (vf x).Den (show 0≤d by omega);have w1:IntKind.i64.wrap (d/ (vf x).Den)=d/ (vf x).Den:=f7 (by omega) (by omega);have w2:IntKind.i64.wrap ((vf x).Num*(d/ (vf x).Den))=n x:=by rw[←hcx];exact f7 (by omega) (by omega)
        have hud:-80000000000≤igt us x*d∧igt us x*d≤80000000000:=by have a:=Int.mul_le_mul_of_nonneg_right hux.1 (Int.le_of_lt d0);have b:=Int.mul_le_mul_of_nonneg_right hux.2 (Int.le_of_lt d0);omega
        have w3:IntKind.i64.wrap (igt us x*d)=igt us x*d:=f7 (by omega) (by omega);have hsb:=a2O hus (p.take k);rw[List.length_take]at hsb;have hsn:=a2P (us:=us) hx;have w4:IntKind.i64.wrap (A5 us (p.take k)+igt us x)=A5 us (p.take k)+igt us x:=f7 (by omega) (by omega);have hpt:p.take (k+1)=p.take k++[x]:=by rw[List.take_add_one,hx];rfl
        have hs1:=b2O (N:=N) (done:=p.take k) (f:=n) (x:=x);have hs2:=b2O (N:=N) (done:=p.take k) (f:=fun x=>igt us x*d) (x:=x);rw[←hpt]at hs1 hs2;have hl1:=b1L (N:=N) (done:=p.take k) (f:=n);have hl2:=b1L (N:=N) (done:=p.take k) (f:=fun x=>igt us x*d);generalize ndR N (p.take k) n=A1 at hs1 hl1 ⊢;generalize ndR N (p.take k) (fun x=>igt us x*d)=A2 at hs2 hl2 ⊢;refine f5 ?_;simp only[zT,reduceIte,Nat.reduceEqDiff];refine hK10 _ _ ?_;refine b7 [3,4,7,8,10,11,12,13,15,16,17,18] ?_;simp only[zP,Nat.reduceEqDiff,reduceIte];refine b8 fun K11 hK11=>?_;refine e8 ?_;refine aS fun K hK=>?_;simp -dsimp [hp,pAV,gx];apply hK;clear hK K;refine s9 l9 rfl fun K hK=>?_;simp -dsimp [gv,q0,q1,w1,w2,hxN,hl1];refine hK _ _ _ (by decide+kernel) ?_;clear hK K;refine aS fun K hK=>?_;simp -dsimp [gc,w3,hxN,hl2];apply hK;clear hK K;refine aR fun K hK=>?_;simp -dsimp [gc,w4];apply hK;clear hK K;simp only[zT,reduceIte,Nat.reduceEqDiff];refine hK11 _ _ ?_;refine b7 [3,4,7,8,10,11,12,13,15,16,17,18] ?_;simp only[zP,Nat.reduceEqDiff,reduceIte];refine aR fun K hK=>?_;simp -dsimp [wk];apply hK;clear hK K;simp only[zT,reduceIte,Nat.reduceEqDiff];exact⟨k+1,by omega,by omega,e9 [some 0,some 1,some 2,some 3] rfl (by simp[hsn]) (by simp[←hs1,←hs2,List.map_set])⟩
       ·have hkl:¬k<p.length:=by simpa [hul]using hc5
        rw[show p.take k=p from List.take_of_length_le (by omega)];have gA1:=fun x (hx:x∈p)=>b8d (N:=N) (f:=n) (hlt x hx) hx;generalize ndR N p n=A1 at gA1 ⊢;have hF12:=a9R hnt (p:=p) rfl;have hfa:=fun b (hb:b<(k8 g s (upN p)).length)=>C9 hnt (p:=p) rfl hb;have hfm:=fun f (hf:f∈k8 g s (upN p))=>H6 hf;generalize k8 g s (upN p)=F at hfdp hF12 hfa hfm heq hquiet htouch;have hfb:∀f∈F,1≤(fdI g f).Volts∧(fdI g f).Volts≤1000∧1≤(fdI g f).Siem∧(fdI g f).Siem≤4:=fun f hf=>by obtain⟨b,hb⟩:=List.getElem?_of_mem hf;have h1:=hfa b (List.getElem?_eq_some_iff.1 hb).1;rw[J4 hb]at h1;exact⟨h1.2.2.2.2.2.2.1,h1.2.2.2.2.2.2.2⟩
        have hfv:=fun f (hf:f∈F)=>c0U (n:=n) (hfb f hf) d0 d1 (hnb _ (hfm f hf).2.2.1);obtain⟨fl,hfl⟩:∃fl:Nat→Nat→Int,fl=fun k x=>(if x∈p then igt us x*d else 0)-fgi g n d (F.take k) x:=⟨_,rfl⟩;have hfl0:ndR N p (fun x=>igt us x*d)=rwF N (fl 0):=by rw[hfl];exact Y3 fun x _=>by simp[fgi,sF]
        have hud:∀x,-80000000000≤igt us x*d∧igt us x*d≤80000000000:=fun x=>by have hux:=hus x;have a:=Int.mul_le_mul_of_nonneg_right hux.1 (Int.le_of_lt d0);have b:=Int.mul_le_mul_of_nonneg_right hux.2 (Int.le_of_lt d0);omega
        have hflb:∀k x,-1000000000000000≤fl k x∧fl k x≤1000000000000000:=fun k x=>by
         have h1:=c0E (g:=g) (n:=n) (d:=d) (F:=F.take k) (fun f hf=>hfv f (List.mem_of_mem_take hf)) x;rw[List.length_take]at h1;have:=hud x;rw[hfl];simp only
         split<;>omega
        have hfln:∀k f x,F[k]?=some f→fl (k+1) x=if x=(fdI g f).At.toNat then fl k x-fgv g n d f else fl k x:=fun k f x h=>by
         rw[hfl];simp only;rw[b5s h]
         by_cases e:x=(fdI g f).At.toNat
         ·rw[if_pos e,if_pos (show(fdI g f).At.toNat=x from e.symm)];omega
         ·rw[if_neg e,if_neg (show¬(fdI g f).At.toNat=x from fun e'=>e e'.symm)];omega
        rw[hfl0];refine j8 ?_;simp only[zT,reduceIte,Nat.reduceEqDiff];refine hK9 _ _ ?_;refine b7 [3,4,7,8,10,11,12,13,15,16,17] ?_;simp only[zP,Nat.reduceEqDiff,reduceIte];refine s9 l9 rfl fun K hK=>?_;simp -dsimp [hp,pAV];refine d5 _ (hfdp) (by simp) ?_;simp -dsimp [hp,pAV];refine hK _ _ _ (by decide+kernel) ?_;clear hK K;refine aS fun K hK=>?_;simp -dsimp;apply hK;clear hK K;refine b8 fun K12 hK12=>?_;refine aS fun K hK=>?_;simp -dsimp;apply hK;clear hK K;refine e8 ?_;refine b7 [3,4,7,8,10,11,12,13,15,16,17,20,21,22] ?_;simp only[zP,Nat.reduceEqDiff,reduceIte];refine i4 [3,4,7,8,10,11,12,13,15,16,17,20] (α:=Nat) (fun k=>[(21,Bo (((F.length:Int)==0)||((F.take k).any fun f=>decide (0<A5 us p)||decide (n (fdI g f).At.toNat=(fdI g f).Volts*d)))),(22,I k)]) (fun k=>[some (.els 4 [g.cells]),some (.els 2 [s.cells]),some (.els 1 (A1.map j0)),some (.els 1 ((rwF N (fl k)).map j0))]) (fun k=>k≤F.length) (fun k=>F.length-k) 0 ?_ ?_ ?_
        ·exact Nat.zero_le _
        ·exact e9 [some 0,some 1,some 2,some 3] rfl (by simp) (by simp)
        rintro k k1;simp only[zP,Nat.reduceEqDiff,reduceIte];refine b8 fun K13 hK13=>?_;refine aS fun K hK=>?_;simp -dsimp;apply hK;clear hK K;refine d8 rfl (fun hc6=>?_) (fun hc6=>?_)
        ·have hkl:k<F.length:=by simpa using hc6
         have wk:=zW k (by omega);obtain⟨a1,a2,a3,a4,a5,a6,a7,a8,a9,a10⟩:=hfa k hkl;obtain⟨f,hfq⟩:∃f:Nat,at0 F (k:Nat)=f:=⟨(at0 F (k:Nat)).toNat,by omega⟩;rw[hfq]at a1 a2 a3 a4 a5 a6 a7 a8 a9 a10;rw[Int.toNat_natCast]at a4;have hfn:f<g.Feeds.length:=by omega
         have hFm:=List.mem_of_getElem? a1;have hon:bAt s.Feeds f=true:=by have:=(hfm _ hFm).2.2.2;rwa [Int.toNat_natCast]at this
         obtain⟨y0,y1,y2⟩:=hfat f hfn (by omega) hon a6;have gy:=gFS f hfn;have hyf:=hFF f hfn;rw[←hyf]at y0 y1 y2;have hcv:=hfv _ hFm;have hqz:A5 us p=0→fgv g n d (f:Int)=0:=fun h=>by
          have:=hquiet h _ hFm;have h2:mx0 ((fdI g (f:Int)).Volts*d-n (fdI g (f:Int)).At.toNat)=0:=by unfold mx0;rw[if_neg (by omega)]
          unfold fgv;rw[h2,Int.mul_zero]
         obtain⟨kA,hkA⟩:∃kA,kA=(fdI g (f:Int)).At.toNat:=⟨_,rfl⟩;have hAt:(fdI g (f:Int)).At=(kA:Int):=by omega
         have gn:=gA1 _ a6;have hnbA:=hnb _ a6;have hkN:=hlt _ a6;have hflk:=fun x=>hfln k _ x a1;have hany:(F.take (k+1)).any (fun f=>decide (0<A5 us p)||decide (n (fdI g f).At.toNat=(fdI g f).Volts*d))=((F.take k).any (fun f=>decide (0<A5 us p)||decide (n (fdI g f).At.toNat=(fdI g f).Volts*d))||(decide (0<A5 us p)||decide (n (fdI g (f:Int)).At.toNat=(fdI g (f:Int)).Volts*d))):=a8J a1;have hfgv:fgv g n d (f:Int)=mx0 ((fdI g (f:Int)).Siem*((fdI g (f:Int)).Volts*d-n (fdI g (f:Int)).At.toNat)):=by unfold fgv;rw[b4K (show 0<(fdI g (f:Int)).Siem by omega)]
         rw[←hkA]at gn hnbA hkN hflk hany hfgv;have hvd:0≤(fdI g (f:Int)).Volts*d∧(fdI g (f:Int)).Volts*d≤2000000000000:=⟨Int.mul_nonneg (by omega) (by omega),Int.le_trans (Int.mul_le_mul a8 d1 (by omega) (by omega)) (by omega)⟩;have hm:(if 0<(fdI g (f:Int)).Siem*((fdI g (f:Int)).Volts*d-n kA)then(fdI g (f:Int)).Siem*((fdI g (f:Int)).Volts*d-n kA)else 0)=fgv g n d (f:Int):=by rw[hfgv];rfl
         have w1:IntKind.i64.wrap ((fdI g (f:Int)).Volts*d)=(fdI g (f:Int)).Volts*d:=f7 (by omega) (by omega);have w2:IntKind.i64.wrap ((fdI g (f:Int)).Volts*d-n kA)=(fdI g (f:Int)).Volts*d-n kA:=f7 (by omega) (by omega);have hsd:(fdI g (f:Int)).Siem*((fdI g (f:Int)).Volts*d-n kA)≤40000000000000∧-40000000000000≤(fdI g (f:Int)).Siem*((fdI g (f:Int)).Volts*d-n kA):=by
          rcases(by omega:(fdI g (f:Int)).Siem=1∨(fdI g (f:Int)).Siem=2∨(fdI g (f:Int)).Siem=3∨(fdI g (f:Int)).Siem=4)with h|h|h|h<;>rw[h]<;>omega
         have w3:IntKind.i64.wrap ((fdI g (f:Int)).Siem*((fdI g (f:Int)).Volts*d-n kA))=(fdI g (f:Int)).Siem*((fdI g (f:Int)).Volts*d-n kA):=f7 (by omega) (by omega);have hlb:=hflb k kA;have hfll:=a0u N (fl k);have hflg:=V2 (f:=fl k) hkN;have hflu:(rwF N (fl k)).set kA (fl k kA-fgv g n d (f:Int))=rwF N (fl (k+1)):=by
          refine b3H fun x _=>?_;rw[hflk]
          by_cases e:x=kA
          ·rw[if_pos e,if_pos e,e]
          ·rw[if_neg e,if_neg e]
         generalize rwF N (fl k)=FR at hfll hflg hflu ⊢;have hal:kA<FR.length:=by omega
         have hga:FR[kA]=fl k kA:=Option.some.inj (by rw[←List.getElem?_eq_getElem hal];exact hflg);generalize hcc:fgv g n d (f:Int)=c at hcv hqz hm hflu y2;have w5:IntKind.i64.wrap (fl k kA-c)=fl k kA-c:=f7 (by omega) (by omega);generalize frA FS f=y at gy y0 y1 y2;have r1:d.tmod y.Den=0:=by rw[Int.tmod_eq_emod_of_nonneg (by omega)];exact Int.emod_eq_zero_of_dvd y1
         have r2:d.tdiv y.Den=d/y.Den:=Int.tdiv_eq_ediv_of_nonneg (by omega);have r3:=Int.ediv_nonneg (show 0≤d by omega) (show 0≤y.Den by omega);have r4:=Int.ediv_le_self y.Den (show 0≤d by omega);have r5:IntKind.i64.wrap (d/y.Den)=d/y.Den:=f7 (by omega) (by omega);have r6:IntKind.i64.wrap (y.Num*(d/y.Den))=c:=by rw[y2];exact f7 (by omega) (by omega)
         have r7:¬y.Den=0:=by omega
         have r8:¬y.Den<1:=by omega
         have r9:(A5 us p==0&&c !=0)=false:=by
          by_cases h:A5 us p=0
          ·rw[hqz h];simp
          ·simp[h]
         have hsum:(decide (0<A5 us p))=decide (A5 us p>0):=rfl;refine f5 ?_;simp only[zT,reduceIte,Nat.reduceEqDiff];refine hK13 _ _ ?_;refine b7 [3,4,7,8,10,11,12,13,15,16,17,20,21,22] ?_;simp only[zP,Nat.reduceEqDiff,reduceIte];refine b8 fun K14 hK14=>?_;refine e8 ?_;refine s9 l9 rfl fun K hK=>?_;simp -dsimp [a1,a4];refine hK _ _ _ (by decide+kernel) ?_;clear hK K;refine s9 l9 rfl fun K hK=>?_;simp -dsimp [hAt,hkN,gn,w1,w2,w3,hm];refine hK _ _ _ (by decide+kernel) ?_;clear hK K;refine aS fun K hK=>?_;simp -dsimp [a1,gy];apply hK;clear hK K;refine b8 fun K15 hK15=>?_;refine s9 l9 rfl fun K hK=>?_;simp -dsimp [r1,r2,r5,r6,r7,r8,r9];refine hK _ _ _ (by decide+kernel) ?_;clear hK K;refine d8 rfl (fun hc7=>?_) (fun hc7=>?_)
         ·simp at hc7
         ·refine f5 ?_;simp only[zT,reduceIte,Nat.reduceEqDiff];refine hK15 _ _ ?_;refine b7 [3,4,7,8,10,11,12,13,15,16,17,20,21,22,23,24] ?_;simp only[zP,Nat.reduceEqDiff,reduceIte];refine s9 l9 rfl fun K hK=>?_;simp -dsimp [a1,a4,hAt,hal,hga,hkN,hfll,w5];refine hK _ _ _ (by decide+kernel) ?_;clear hK K;refine O0 l9 rfl fun K hK=>?_;simp -dsimp [hAt,hkN,gn,w1];refine hK _ _ _ (by decide+kernel) ?_;clear hK K;simp only[zT,reduceIte,Nat.reduceEqDiff];refine hK14 _ _ ?_;refine b7 [3,4,7,8,10,11,12,13,15,16,17,20,21,22] ?_;simp only[zP,Nat.reduceEqDiff,reduceIte];refine aR fun K hK=>?_;simp -dsimp [wk];apply hK;clear hK K;simp only[zT,reduceIte,Nat.reduceEqDiff];exact⟨k+1,by omega,by omega,e9 [some 0,some 1,some 2,some 3] rfl (by simp[hany,Bool.or_assoc,a4n]) (by simp[←hflu,List.map_set])⟩
        ·have hke:¬k<F.length:=by simpa using hc6
         have hkF:k=F.length:=by omega
         rw[hkF,List.take_length];have htch:(((F.length:Int)==0)||(F.any fun f=>decide (0<A5 us p)||decide (n (fdI g f).At.toNat=(fdI g f).Volts*d)))=true:=by
          rcases htouch with h|h|⟨f,hf,h⟩
          ·rw[h];rfl
          ·cases hF:F with
           |nil=>rfl
           |cons a tl=>simp[h]
          ·rw[Bool.or_eq_true];right;rw[List.any_eq_true];exact⟨f,hf,by simp[h]⟩
         rw[htch];have hWs:∀w∈onW g.Wires s.Wires,0<w.s∧w.s≤4:=fun w hw=>by
          obtain⟨v,hv,rfl⟩:=V6 hw;have h1:=hnt.wires v hv;simp only[wrB,Bool.and_eq_true,t4]at h1;simp only;omega
         obtain⟨fw,hfw⟩:∃fw:Nat→Nat→Int,fw=fun k x=>fl F.length x+wf p n (onW (g.Wires.take k) (s.Wires.take k)) x:=⟨_,rfl⟩;have hfw0:fl F.length=fw 0:=by rw[hfw];funext x;simp[onW,wf]
         rw[hfw0];refine j8 ?_;simp only[zT,reduceIte,Nat.reduceEqDiff];refine hK12 _ _ ?_;refine b7 [3,4,7,8,10,11,12,15,16,21] ?_;simp only[zP,Nat.reduceEqDiff,reduceIte];refine b8 fun K16 hK16=>?_;refine aS fun K hK=>?_;simp -dsimp;apply hK;clear hK K;refine e8 ?_;refine b7 [3,4,7,8,10,11,12,15,16,21,26] ?_;simp only[zP,Nat.reduceEqDiff,reduceIte];refine i4 [3,4,7,8,10,11,12,15,16,21] (α:=Nat) (fun k=>[(26,I k)]) (fun k=>[some (.els 4 [g.cells]),some (.els 2 [s.cells]),some (.els 1 (A1.map j0)),some (.els 1 ((rwF N (fw k)).map j0))]) (fun k=>k≤g.Wires.length) (fun k=>g.Wires.length-k) 0 ?_ ?_ ?_
         ·exact Nat.zero_le _
         ·exact e9 [some 0,some 1,some 2,some 3] rfl (by simp) (by simp)
         rintro k k1;simp only[zP,Nat.reduceEqDiff,reduceIte];refine b8 fun K17 hK17=>?_;refine aS fun K hK=>?_;simp -dsimp;apply hK;clear hK K;refine d8 rfl (fun hc8=>?_) (fun hc8=>?_)
         ·have hkl:k<g.Wires.length:=by simpa using hc8
          have wk:=zW k (by omega);obtain⟨w,hw⟩:∃w,g.Wires[k]?=some w:=⟨_,List.getElem?_eq_getElem hkl⟩;have gb:=v9 (l:=s.Wires) (k:=k) (by have:=hnt.sw;omega);have hos:=b1u hw gb;have hwb:=hnt.wires w (List.mem_of_getElem? hw);simp only[wrB,Bool.and_eq_true,t4,Bool.not_eq_true',decide_eq_false_iff_not]at hwb;obtain⟨a,ha⟩:∃a:Nat,w.A=a:=⟨w.A.toNat,by omega⟩;obtain⟨b,hb⟩:∃b:Nat,w.B=b:=⟨w.B.toNat,by omega⟩;have hat:w.A.toNat=a:=by omega
          have hbt:w.B.toNat=b:=by omega
          have hab:a≠b:=by omega
          rw[hat,hbt]at hos;have hfwn:∀x,fw (k+1) x=fw k x+if bAt s.Wires k=true∧a∈p then w.Siem*(ew ⟨a,b,w.Siem⟩ x*(n a-n b))else 0:=fun x=>by
           rw[hfw];simp only;rw[hos,a5W,Int.add_assoc]
           congr 2
           cases bAt s.Wires k with
           |false=>simp[wf]
           |true=>by_cases hap:a∈p<;>simp[wf,hap]
          have hfwb:∀x,-6000000000000000≤fw k x∧fw k x≤6000000000000000:=fun x=>by
           have h1:=c0J (p:=p) (x:=n) (i:=x) (W:=onW (g.Wires.take k) (s.Wires.take k)) (fun w hw=>by
            have hw':=c0d hw;exact⟨(hWs w hw').1,(hWs w hw').2,fun h=>⟨hnb _ h,hnb _ ((hcl w hw').1 h)⟩⟩)
           have h2:=b6m g.Wires s.Wires k;have h3:=hflb F.length x;rw[hfw];simp only;omega
          have hhold:=a8v (upN p) w.A (by omega);have hhd:decide (w.A∈upN p)=decide (a∈p):=decide_eq_decide.2 (by rw[V5,hat];exact⟨fun h=>h.2,fun h=>⟨by omega,h⟩⟩);rw[hhd]at hhold;refine f5 ?_;simp only[zT,reduceIte,Nat.reduceEqDiff];refine hK17 _ _ ?_;refine b7 [3,4,7,8,10,11,12,15,16,21,26] ?_;simp only[zP,Nat.reduceEqDiff,reduceIte];refine b8 fun K18 hK18=>?_;refine e8 ?_;refine aS fun K hK=>?_;simp -dsimp [hw];apply hK;clear hK K;refine s9 l9 rfl fun K hK=>?_;simp -dsimp [gb];refine l3 ([iL (upN p)]) (fun _=>by simp[hp,pAV]) ?_;simp -dsimp [gb];refine g8 _ (fun hm=>hhold) (by simp) ?_;simp -dsimp [gb];refine hK _ _ _ (by decide+kernel) ?_;clear hK K;refine d8 rfl (fun hc9=>?_) (fun hc9=>?_)
          ·have hca:bAt s.Wires k=true∧a∈p:=by simpa using hc9
           have hap:=hca.2;have hbp:b∈p:=by
            have h1:=hcl _ (b6Z hw (by rw[gb,hca.1]));simp only[hat,hbt]at h1;exact h1.1 hap
           have han:=hlt a hap;have hbn:=hlt b hbp;have gna:=gA1 a hap;have gnb:=gA1 b hbp;have nba:=hnb a hap;have nbb:=hnb b hbp;have hfu:((rwF N (fw k)).set a (fw k a+w.Siem*(n a-n b))).set b (fw k b+w.Siem*(n b-n a))=rwF N (fw (k+1)):=by
            rw[a8j,a8j];refine Y3 fun x _=>?_;rw[hfwn,if_pos hca];unfold ew
            by_cases e:x=b
            ·have e2:¬x=a:=by omega
             rw[if_pos e,e,if_neg (show¬b=a from fun h=>hab h.symm),if_pos rfl];have:w.Siem*((0-1)*(n a-n b))=w.Siem*(n b-n a):=by congr 1;omega
             rw[this]
            ·rw[if_neg e]
             by_cases e2:x=a
             ·rw[if_pos e2,e2,if_pos rfl,if_neg (show¬a=b from hab)];have:w.Siem*((1-0)*(n a-n b))=w.Siem*(n a-n b):=by congr 1;omega
              rw[this]
             ·rw[if_neg e2,if_neg e2,if_neg e];simp
           have hla:=hfwb a;have hlb:=hfwb b;have hfll:=a0u N (fw k);have hfga:=V2 (f:=fw k) han;have hfgb:=V2 (f:=fw k) hbn;generalize rwF N (fw k)=FR at hfll hfga hfgb hfu ⊢;have hal:a<FR.length:=by omega
           have hbl:b<FR.length:=by omega
           have hga:FR[a]=fw k a:=Option.some.inj (by rw[←List.getElem?_eq_getElem hal];exact hfga);have hgb:FR[b]=fw k b:=Option.some.inj (by rw[←List.getElem?_eq_getElem hbl];exact hfgb);have hS:w.Siem=1∨w.Siem=2∨w.Siem=3∨w.Siem=4:=by omega
           have w1:IntKind.i64.wrap (n a-n b)=n a-n b:=f7 (by omega) (by omega);have w2:IntKind.i64.wrap (n b-n a)=n b-n a:=f7 (by omega) (by omega);have hx1:-60000000000000≤w.Siem*(n a-n b)∧w.Siem*(n a-n b)≤60000000000000:=by rcases hS with h|h|h|h<;>rw[h]<;>omega
           have hx2:-60000000000000≤w.Siem*(n b-n a)∧w.Siem*(n b-n a)≤60000000000000:=by rcases hS with h|h|h|h<;>rw[h]<;>omega
           have w3:IntKind.i64.wrap (w.Siem*(n a-n b))=w.Siem*(n a-n b):=f7 (by omega) (by omega);have w4:IntKind.i64.wrap (w.Siem*(n b-n a))=w.Siem*(n b-n a):=f7 (by omega) (by omega);have w5:IntKind.i64.wrap (fw k a+w.Siem*(n a-n b))=fw k a+w.Siem*(n a-n b):=f7 (by omega) (by omega);have w6:IntKind.i64.wrap (fw k b+w.Siem*(n b-n a))=fw k b+w.Siem*(n b-n a):=f7 (by omega) (by omega);refine s9 l9 rfl fun K hK=>?_;simp -dsimp [ha,hb,han,hbn,gna,gnb,hal,hga,w1,w3,w5,hfll];refine hK _ _ _ (by decide+kernel) ?_;clear hK K;refine O0 l9 rfl fun K hK=>?_;simp -dsimp [ha,hb,han,hbn,gna,gnb,hbl,hgb,w2,w4,w6,hfll,hab];refine hK _ _ _ (by decide+kernel) ?_;clear hK K;simp only[zT,reduceIte,Nat.reduceEqDiff];refine hK18 _ _ ?_;refine b7 [3,4,7,8,10,11,12,15,16,21,26] ?_;simp only[zP,Nat.reduceEqDiff,reduceIte];refine aR fun K hK=>?_;simp -dsimp [wk];apply hK;clear hK K;simp only[zT,reduceIte,Nat.reduceEqDiff];exact⟨k+1,by omega,by omega,e9 [some 0,some 1,some 2,some 3] rfl (by simp) (by simp[←hfu,List.map_set])⟩
          ·refine f5 ?_;simp only[zT,reduceIte,Nat.reduceEqDiff];refine hK18 _ _ ?_;refine b7 [3,4,7,8,10,11,12,15,16,21,26] ?_;simp only[zP,Nat.reduceEqDiff,reduceIte];refine aR fun K hK=>?_;simp -dsimp [wk];apply hK;clear hK K;simp only[zT,reduceIte,Nat.reduceEqDiff];have hca:¬(bAt s.Wires k=true∧a∈p):=by intro h;simp[h.1,h.2]at hc9
           have hfe:rwF N (fw (k+1))=rwF N (fw k):=Y3 fun x _=>by rw[hfwn,if_neg hca,Int.add_zero]
           exact⟨k+1,by omega,by omega,e9 [some 0,some 1,some 2,some 3] rfl (by simp) (by simp[hfe])⟩
         ·have hke:¬k<g.Wires.length:=by simpa using hc8
          have hz:∀x,fw k x=0:=fun x=>by
           rw[hfw];simp only;rw[List.take_of_length_le (by omega),List.take_of_length_le (by have:=hnt.sw;omega),hfl];simp only[List.take_length]
           by_cases hx:x∈p
           ·rw[if_pos hx];exact heq x hx
           ·rw[if_neg hx,b9h (fun f hf e=>hx (by rw[←e];exact(hfm f hf).2.2.1)),b6z hx hcl];rfl
          have hfz:=fun x (hx:x<N)=>V2 (f:=fw k) hx;simp only[hz]at hfz;generalize rwF N (fw k)=FZ at hfz ⊢;refine j8 ?_;simp only[zT,reduceIte,Nat.reduceEqDiff];refine hK16 _ _ ?_;refine b7 [3,4,7,8,10,11,12,16,21] ?_;simp only[zP,Nat.reduceEqDiff,reduceIte];refine b8 fun K19 hK19=>?_;refine aS fun K hK=>?_;simp -dsimp;apply hK;clear hK K;refine e8 ?_;refine b7 [3,4,7,8,10,11,12,16,21,28] ?_;simp only[zP,Nat.reduceEqDiff,reduceIte];refine i4 [3,4,7,8,10,11,12,16,21] (α:=Nat) (fun k=>[(28,I k)]) (fun k=>[some (.els 4 [g.cells]),some (.els 2 [s.cells]),some (.els 1 (A1.map j0)),some (.els 1 (FZ.map j0))]) (fun k=>k≤N) (fun k=>N-k) 0 ?_ ?_ ?_
          ·exact Nat.zero_le _
          ·exact e9 [some 0,some 1,some 2,some 3] rfl (by simp) (by simp)
          rintro q q1;simp only[zP,Nat.reduceEqDiff,reduceIte];refine b8 fun K20 hK20=>?_;refine aS fun K hK=>?_;simp -dsimp;apply hK;clear hK K;refine d8 rfl (fun hc10=>?_) (fun hc10=>?_)
          ·have hqN:q<N:=by have:=(by simpa using hc10:(q:Int)<g.Nodes);omega
           have wq:=zW q (by omega);have gq:=hfz q hqN;refine f5 ?_;simp only[zT,reduceIte,Nat.reduceEqDiff];refine hK20 _ _ ?_;refine b7 [3,4,7,8,10,11,12,16,21,28] ?_;simp only[zP,Nat.reduceEqDiff,reduceIte];refine b8 fun K21 hK21=>?_;refine e8 ?_;refine aS fun K hK=>?_;simp -dsimp [gq,hqN];apply hK;clear hK K;refine d8 rfl (fun hc11=>?_) (fun hc11=>?_)
           ·simp at hc11
           ·refine f5 ?_;simp only[zT,reduceIte,Nat.reduceEqDiff];refine hK21 _ _ ?_;refine b7 [3,4,7,8,10,11,12,16,21,28] ?_;simp only[zP,Nat.reduceEqDiff,reduceIte];refine aR fun K hK=>?_;simp -dsimp [wq];apply hK;clear hK K;simp only[zT,reduceIte,Nat.reduceEqDiff];exact⟨q+1,by omega,by omega,e9 [some 0,some 1,some 2,some 3] rfl (by simp) (by simp)⟩
          ·refine j8 ?_;simp only[zT,reduceIte,Nat.reduceEqDiff];refine hK19 _ _ ?_;refine b7 [3,4,7,8,10,11,12,21] ?_;simp only[zP,Nat.reduceEqDiff,reduceIte];refine aS fun K hK=>?_;simp -dsimp;apply hK;clear hK K;refine d8 rfl (fun hc12=>?_) (fun hc12=>?_)
           ·simp at hc12
           ·refine f5 ?_;simp only[zT,reduceIte,Nat.reduceEqDiff];refine hK7 _ _ ?_;refine b7 [3,4,7,8,10,11,12] ?_;simp only[zP,Nat.reduceEqDiff,reduceIte];refine aR fun K hK=>?_;simp -dsimp [wi];apply hK;clear hK K;simp only[zT,reduceIte,Nat.reduceEqDiff];exact⟨i+1,by omega,by omega,e9 [some 0,some 1] rfl (by simp) (by simp)⟩
     ·refine j8 ?_;simp only[zT,reduceIte,Nat.reduceEqDiff];refine hK5 _ _ ?_;refine b7 [] ?_;simp only[zP,Nat.reduceEqDiff,reduceIte];refine aS fun K hK=>?_;simp -dsimp;refine d5 _ (hk) (by simp) ?_;simp -dsimp;apply hK;clear hK K;exact g7 (by simp)
end Go.Cur
end
section
namespace Go.Tram
open Go.AM Go.Proofs
def RC (w:World) (avs:List AV) (cs:List Value):Prop:=avs.length=cs.length∧∀(i:Nat) c x,avs[i]?=some c→cs[i]?=some x→q8 w (fun _=>False) c x∧P3 x=true
theorem RC.one {w:World} {a:AV} {x:Value} (h:q8 w (fun _=>False) a x) (hc:P3 x=true):RC w [a] [x]:=by
 refine⟨rfl,fun i c y h1 h2=>?_⟩
 cases i with
 |zero=>simp at h1 h2;subst h1 h2;exact⟨h,hc⟩
 |succ i=>simp at h1
theorem RC.app {w:World} {a b:List AV} {x y:List Value} (h:RC w a x) (k:RC w b y):RC w (a++b) (x++y):=by
 refine⟨by simp[h.1,k.1],fun i c u h1 h2=>?_⟩
 by_cases hi:i<a.length
 ·rw[List.getElem?_append_left hi]at h1;rw[List.getElem?_append_left (by rw[←h.1];exact hi)]at h2;exact h.2 i c u h1 h2
 ·rw[List.getElem?_append_right (by omega)]at h1;rw[List.getElem?_append_right (by rw[←h.1];omega),←h.1]at h2;exact k.2 _ c u h1 h2
def b4D:List (Nat×Nat×TypeId)→Nat→Nat→Bool
 |[],o,n=>o==n
 |(off,sz,_)::r,o,n=>off==o&&b4D r (o+sz) n
theorem b1G:∀(fs:List (Nat×Nat×TypeId)) (o n:Nat),b4D fs o n=true→o≤n
 |[],o,n,h=>by simp[b4D]at h;omega
 |(off,sz,t)::r,o,n,h=>by
  simp only[b4D,Bool.and_eq_true]at h;have:=b1G r _ _ h.2;omega
theorem a9H:∀(fs:List (Nat×Nat×TypeId)) (o n:Nat),b4D fs o n=true→∀f∈fs,o≤f.1
 |[],o,n,h,f,hf=>by cases hf
 |(off,sz,t)::r,o,n,h,f,hf=>by
  simp only[b4D,Bool.and_eq_true,beq_iff_eq]at h
  rcases List.mem_cons.1 hf with rfl|hf
  ·simp only[];omega
  ·have:=a9H r _ _ h.2 f hf;omega
theorem a9s {w:World} {Q:(Nat×Nat×TypeId)→List AV→Prop}:∀(fs:List (Nat×Nat×TypeId)) (o N:Nat) (cs:List Value),b4D fs o N=true→cs.length=N→
  (∀f∈fs,∃a,RC w a ((cs.drop f.1).take f.2.1)∧Q f a)→∃avs,RC w avs (cs.drop o)∧∀f∈fs,Q f ((avs.drop (f.1-o)).take f.2.1)
 |[],o,N,cs,h,hl,_=>by
  simp only[b4D,beq_iff_eq]at h;refine⟨[],⟨by simp;omega,fun i c x h1=>by simp at h1⟩,fun f hf=>by cases hf⟩
 |(off,sz,t)::r,o,N,cs,h,hl,hq=>by
  simp only[b4D,Bool.and_eq_true,beq_iff_eq]at h;obtain⟨rfl,h2⟩:=h;have hle:=b1G r _ _ h2;obtain⟨a,ha,hqa⟩:=hq _ (List.mem_cons_self ..);obtain⟨b,hb,hqb⟩:=a9s r (off+sz) N cs h2 hl (fun f hf=>hq f (List.mem_cons_of_mem _ hf));have hal:a.length=sz:=by rw[ha.1];simp;omega
  have hsplit:cs.drop off=(cs.drop off).take sz++cs.drop (off+sz):=by rw[←List.drop_drop,List.take_append_drop]
  refine⟨a++b,by rw[hsplit];exact ha.app hb,fun f hf=>?_⟩
  rcases List.mem_cons.1 hf with rfl|hf
  ·simp only[Nat.sub_self,List.drop_zero];rw[List.take_append_of_le_length (by omega),List.take_of_length_le (by omega)];exact hqa
  ·have ho:=a9H r _ _ h2 f hf;have:=hqb f hf;rw[List.drop_append,List.drop_eq_nil_of_le (by omega),List.nil_append,hal,show f.1-off-sz=f.1-(off+sz)by omega];exact this
section
variable {P:Program}
def a7B (P:Program):Nat→TypeId→Bool
 |0,_=>false
 | n+1,t=>match a4P P t with
  |some _=>true
  |none=>match i5 P t with
   | .slice e=>decide ((i5 P e).size≠0)&&a7B P n e
   | .agg z fs=>b4D fs 0 z.length&&fs.all fun f=>a7B P n f.2.2
   |_=>false
def v8 (P:Program):Nat→TypeId→List AV→Prop
 |0,_,_=>False
 | n+1,t,avs=>match a4P P t with
  |some (.i k)=>∃m,avs=[.v (.int k m)]∧(Lit.int k m).wf=true
  |some .b=>∃b,avs=[.v (.bool b)]
  |none=>match i5 P t with
   | .slice e=>∃els,avs=[.lst (i5 P e).size els]∧els.length≤maxLen∧∀el∈els,v8 P n e el
   | .agg z fs=>avs.length=z.length∧∀f∈fs,v8 P n f.2.2 ((avs.drop f.1).take f.2.1)
   |_=>False
theorem b0A (w:World) {e:TypeId} (h:i5 P e≠ .bad):P.cellsOf e=(i5 P e).size:=by
 obtain⟨i,h1,h2,_⟩:=W5 (P:=P) (w:=w) h;simp[Program.cellsOf,h1,h2]
theorem a9U {w:World} {R:List AV→List Value→Prop} {g:Nat→Option (List Value)}:∀n,(∀i,i<n→∃cs,g i=some cs∧∃a,R a cs)→
  ∃(els:List (List AV)) (css:List (List Value)),els.length=n∧css.length=n∧∀(i:Nat) a cs,els[i]?=some a→css[i]?=some cs→g i=some cs∧R a cs
 |0,_=>⟨[],[],rfl,rfl,fun i a cs h=>by simp at h⟩
 | n+1,h=>by
  obtain⟨els,css,h1,h2,h3⟩:=a9U (w:=w) (R:=R) (g:=g) n (fun i hi=>h i (by omega));obtain⟨cs,hg,a,ha⟩:=h n (by omega);refine⟨els++[a],css++[cs],by simp[h1],by simp[h2],fun i b ds k1 k2=>?_⟩
  by_cases hi:i<n
  ·rw[List.getElem?_append_left (by omega)]at k1 k2;exact h3 i b ds k1 k2
  ·have hn:i=n:=by
    have:=(List.getElem?_eq_some_iff.1 k1).1;simp[h1]at this;omega
   subst hn;rw[List.getElem?_append_right (by omega)]at k1 k2;simp[h1,h2]at k1 k2;subst k1 k2;exact⟨hg,ha⟩
theorem b3A {H:Type} {enc:TypeId×Value→H} {w:World} {spare:Nat→Bool} {held:Bool}:∀(n:Nat) (fuel:Nat) (t:TypeId) (cs:List Value) (x:DataW H×List MemPlace),a7B P n t=true→
  DataW.trod enc P w 0 spare held fuel t cs=some x→∃avs,RC w avs cs∧v8 P n t avs:=by
 intro n
 induction n with
 |zero=>intro fuel t cs x h;simp[a7B]at h
 | succ n ih=>
  intro fuel t cs x hg h;unfold a7B at hg;unfold v8
  cases hk:a4P P t with
  | some kt=>
   have hu:=(F6 hk).2.2.2
   cases kt with
   |i k=>
    obtain⟨m,rfl,rfl,hw⟩:=DataW.trod_int hu h;exact⟨[.v (.int k m)],RC.one (.v _) rfl,m,rfl,hw⟩
   |b=>
    obtain⟨b,rfl,rfl⟩:=DataW.trod_bool hu h;exact⟨[.v (.bool b)],RC.one (.v _) rfl,b,rfl⟩
  | none=>
   rw[hk]at hg;simp only at hg ⊢
   cases ht:i5 P t with
   |cell z=>rw[ht]at hg;simp at hg
   |arr z m e=>rw[ht]at hg;simp at hg
   |bad=>rw[ht]at hg;simp at hg
   | slice e=>
    rw[ht]at hg;simp only[Bool.and_eq_true,decide_eq_true_eq]at hg ⊢;obtain⟨hsz,hge⟩:=hg;have hne:i5 P e≠ .bad:=by intro hb;rw[hb]at hsz;exact hsz rfl
    have hc:=b0A w hne;obtain⟨info,h1,h2,_⟩:=n7 ht
    rcases DataW.trod_slice h2 h with⟨rfl,rfl⟩|⟨a,len,cap,elems,rest,n',rfl,rfl,rfl,hb,hl,hcap,hel,hall,_⟩
    ·exact⟨[.lst (i5 P e).size []],RC.one (.lstNil _ _ _) rfl,[],rfl,by simp,by simp⟩
    ·rw [hc]at hall;obtain⟨els,css,e1,e2,e3⟩:=a9U (w:=w) (R:=fun a cs=>RC w a cs∧v8 P n e a) (g:=fun i=>w.cells? 0 (a.add (i*(i5 P e).size)) (i5 P e).size) len (fun i hi=>by
      have h3:=hall i hi;obtain⟨y,hy⟩:∃y,elems[i]?=some y:=⟨_,List.getElem?_eq_getElem (by omega)⟩;rw[hy,Option.bind_eq_some_iff]at h3;obtain⟨cs,q1,q2⟩:=h3;obtain⟨av,r1,r2⟩:=ih _ _ _ _ hge q2;exact⟨cs,q1,av,r1,r2⟩)
     refine⟨[.lst (i5 P e).size els],?_,els,rfl,by omega,?_⟩
     ·refine RC.one ?_ rfl
      by_cases hlen:len=0
      ·have:els=[]:=List.eq_nil_of_length_eq_zero (by omega);subst this;subst hlen;exact .lstNil _ _ _
      ·have hcell:∀(i j:Nat) cs,css[i]?=some cs→j<(i5 P e).size→w.cell? ((a.add (i*(i5 P e).size)).add j)=cs[j]?∧cs.length=(i5 P e).size:=by
        intro i j cs hi hj;have hil:=(List.getElem?_eq_some_iff.1 hi).1;obtain⟨av,hav⟩:∃av,els[i]?=some av:=⟨_,List.getElem?_eq_getElem (by omega)⟩;have:=World.cells?_some (e3 i av cs hav hi).1;exact⟨this.2.2 j hj,this.2.1⟩
       have hspot:a.spot=none:=by
        obtain⟨cs,hcs⟩:∃cs,css[0]?=some cs:=⟨_,List.getElem?_eq_getElem (by omega)⟩;obtain⟨k1,k2⟩:=hcell 0 0 cs hcs (by omega);rw[List.getElem?_eq_getElem (by omega)]at k1;have ha:(a.add (0*(i5 P e).size)).add 0=a:=by simp[Addr.add]
        rw[ha]at k1;exact World.cell?_spot k1
       obtain⟨b,off,sp⟩:=a;simp only at hspot;subst hspot;have hcl:∀c∈css,c.length=(i5 P e).size:=by
        intro c hc';obtain⟨i,hi⟩:=List.getElem?_of_mem hc';exact(hcell i 0 c hi (by omega)).2
       have hell:∀c∈els,c.length=(i5 P e).size:=by
        intro c hc';obtain⟨i,hi⟩:=List.getElem?_of_mem hc';have hil:=(List.getElem?_eq_some_iff.1 hi).1;obtain⟨cs,hcs⟩:∃cs,css[i]?=some cs:=⟨_,List.getElem?_eq_getElem (by omega)⟩;rw[(e3 i c cs hi hcs).2.1.1];exact hcl cs (List.mem_of_getElem? hcs)
       have key:∀(i:Nat) (x:Value),css.flatten[i]?=some x→∃q j cs,i=q*(i5 P e).size+j∧j<(i5 P e).size∧css[q]?=some cs∧cs[j]?=some x:=by
        intro i x hx;have hil:=(List.getElem?_eq_some_iff.1 hx).1;rw[l5 hcl]at hil;have hq:i/ (i5 P e).size<css.length:=by rw[Nat.div_lt_iff_lt_mul (by omega)];exact hil
        have hj:=Nat.mod_lt i (show(i5 P e).size>0 by omega);have hme:i=i/ (i5 P e).size*(i5 P e).size+i % (i5 P e).size:=by rw[Nat.mul_comm];exact(Nat.div_add_mod i _).symm
        obtain⟨cs,hcs⟩:∃cs,css[i/ (i5 P e).size]?=some cs:=⟨_,List.getElem?_eq_getElem hq⟩;refine⟨_,_,cs,hme,hj,hcs,?_⟩;have:=n9 hcl hcs (i % (i5 P e).size) hj;rw[←hme]at this;rw[←this];exact hx
       have hre:els.length=len:=e1;rw[←hre];have hblk:b<w.heap.size:=by
        obtain⟨cs,hcs⟩:∃cs,css[0]?=some cs:=⟨_,List.getElem?_eq_getElem (by omega)⟩;obtain⟨k1,k2⟩:=hcell 0 0 cs hcs (by omega);rw[List.getElem?_eq_getElem (by omega)]at k1;simp only[Nat.zero_mul,Addr.add_lit,Nat.add_zero]at k1
        rcases Nat.lt_or_ge b w.heap.size with hlt|hge
        ·exact hlt
        ·simp[World.cell?,Array.getElem?_eq_none hge]at k1
       refine q8.lst _ els b off cap css.flatten (fun h=>h) hblk (by omega) hell (by rw[l5 hell,l5 hcl,e1,e2]) ?_ ?_
       ·intro i x hx;obtain⟨q,j,cs,rfl,hj,hcs,hxj⟩:=key i x hx;obtain⟨k1,_⟩:=hcell q j cs hcs hj;rw[Addr.add_lit,Addr.add_lit,hxj]at k1;obtain⟨av,hav⟩:∃av,els[q]?=some av:=⟨_,List.getElem?_eq_getElem (by have:=(List.getElem?_eq_some_iff.1 hcs).1;omega)⟩;have hr:=(e3 q av cs hav hcs).2.1;obtain⟨c,hc'⟩:∃c,av[j]?=some c:=⟨_,List.getElem?_eq_getElem (by rw[hr.1];exact(List.getElem?_eq_some_iff.1 hxj).1)⟩;refine⟨?_,(hr.2 j c x hc' hxj).2⟩;rw[←Nat.add_assoc];exact k1
       ·intro i c x hc' hx;obtain⟨q,j,cs,rfl,hj,hcs,hxj⟩:=key i x hx;obtain⟨av,hav⟩:∃av,els[q]?=some av:=⟨_,List.getElem?_eq_getElem (by have:=(List.getElem?_eq_some_iff.1 hcs).1;omega)⟩;rw[n9 hell hav j hj]at hc';exact((e3 q av cs hav hcs).2.1.2 j c x hc' hxj).1
     ·intro el hel';obtain⟨i,hi⟩:=List.getElem?_of_mem hel';have hil:=(List.getElem?_eq_some_iff.1 hi).1;obtain⟨cs,hcs⟩:∃cs,css[i]?=some cs:=⟨_,List.getElem?_eq_getElem (by omega)⟩;exact(e3 i el cs hi hcs).2.2
   | agg z fs=>
    rw[ht]at hg;simp only[Bool.and_eq_true]at hg ⊢;obtain⟨hlay,hgf⟩:=hg;obtain⟨info,fa,h1,h2,h3,h4,hfs,_,hall⟩:=F4 ht;obtain⟨xs,n',rfl,rfl,hl,hxl,hf⟩:=DataW.trod_struct h2 h;have hcl:cs.length=z.length:=by rw[hl];simp[Program.cellsOf,h1,h4]
    obtain⟨avs,hr,hq⟩:=a9s (w:=w) (Q:=fun f a=>v8 P n f.2.2 a) fs 0 z.length cs hlay hcl (fun f hff=>by
     have hff':=hff;rw[hfs,List.mem_map]at hff';obtain⟨fd,hfd,rfl⟩:=hff';obtain⟨i,hi⟩:=List.getElem?_of_mem hfd;have hia:fa[i]?=some fd:=by simpa using hi
     have htr:=hf i fd hia;have hil:i<xs.length:=by rw[hxl];exact(Array.getElem?_eq_some_iff.1 hia).1
     rw[List.getElem?_eq_getElem hil]at htr;exact ih _ _ _ _ (List.all_eq_true.1 hgf _ hff) htr)
    rw[List.drop_zero]at hr;refine⟨avs,hr,by rw[hr.1,hcl],fun f hff=>?_⟩;have:=hq f hff
    rwa [Nat.sub_zero]at this
end
end Go.Tram
end
section
namespace Go.Cur
open Go.AM Go.Proofs Go.Tram
section
variable {P:Program}
theorem J0 {n:Nat} {t e:TypeId} {avs:List AV} (hk:a4P P t=none) (ht:i5 P t= .slice e) (h:v8 P (n+1) t avs):∃els,avs=[.lst (i5 P e).size els]∧els.length≤maxLen∧∀el∈els,v8 P n e el:=by
 simp only[v8,hk,ht]at h;exact h
theorem L9 {n:Nat} {t:TypeId} {z:List Value} {fs:List (Nat×Nat×TypeId)} {avs:List AV} (hk:a4P P t=none) (ht:i5 P t= .agg z fs) (h:v8 P (n+1) t avs):avs.length=z.length∧∀f∈fs,v8 P n f.2.2 ((avs.drop f.1).take f.2.1):=by
 simp only[v8,hk,ht]at h;exact h
theorem b0r {n:Nat} {t:TypeId} {k:IntKind} {avs:List AV} (hk:a4P P t=some (.i k)) (h:v8 P (n+1) t avs):∃m,avs=[.v (.int k m)]∧(Lit.int k m).wf=true:=by
 simp only[v8,hk]at h;exact h
theorem a7I {n:Nat} {t:TypeId} {avs:List AV} (hk:a4P P t=some .b) (h:v8 P (n+1) t avs):∃b,avs=[.v (.bool b)]:=by
 simp only[v8,hk]at h;exact h
end
theorem a2K {α:Type} {c:α→List AV} {R:α→Prop}:∀{els:List (List AV)},(∀el∈els,∃a,el=c a∧R a)→∃l:List α,els=l.map c∧∀a∈l,R a
 |[],_=>⟨[],rfl,by simp⟩
 |e::els,h=>by
  obtain⟨a,rfl,ha⟩:=h e (List.mem_cons_self ..);obtain⟨l,rfl,hl⟩:=a2K (els:=els) (c:=c) (R:=R) (fun el hel=>h el (List.mem_cons_of_mem _ hel));refine⟨a::l,rfl,fun b hb=>?_⟩
  rcases List.mem_cons.1 hb with rfl|hb
  ·exact ha
  ·exact hl b hb
theorem b5I:(Try.prog).underlying 3=some (.int .i64):=by kernel_rfl
theorem a7c:(Try.prog).underlying 4=some .bool:=by kernel_rfl
theorem c2n:a4P Try.prog 3=some (.i .i64):=by kernel_rfl
theorem c0O:a4P Try.prog 4=some .b:=by kernel_rfl
def I64 (n:Int):Prop:=-9223372036854775808≤n∧n≤9223372036854775807
theorem b6M {m:Int} (h:(Lit.int .i64 m).wf=true):I64 m:=by
 simpa [Lit.wf,IntKind.min,IntKind.max,IntKind.signed,IntKind.bits,I64]using h
theorem P2 {n:Nat} {avs:List AV} (h:v8 Try.prog (n+1) 3 avs):∃m,avs=[I m]∧I64 m:=by
 obtain⟨m,h1,h2⟩:=b0r c2n h;exact⟨m,h1,b6M h2⟩
theorem c2o {α:Type} {l:List α} (h:l.length=2):∃a b,l=[a,b]:=by match l,h with|[a,b],_=>exact⟨a,b,rfl⟩
theorem c2A {α:Type} {l:List α} (h:l.length=3):∃a b c,l=[a,b,c]:=by match l,h with|[a,b,c],_=>exact⟨a,b,c,rfl⟩
theorem b8v {α:Type} {l:List α} (h:l.length=4):∃a b c d,l=[a,b,c,d]:=by match l,h with|[a,b,c,d],_=>exact⟨a,b,c,d,rfl⟩
theorem c0p {n:Nat} {avs:List AV} (h:v8 Try.prog (n+1) 4 avs):∃b,avs=i9 b:=a7I c0O h
theorem a8S {n:Nat} {avs:List AV} (h:v8 Try.prog (n+2) 26 avs):∃l:List Bool,avs=[bL l]∧l.length≤maxLen:=by
 obtain⟨els,hl,hb,he⟩:=J0 (by kernel_rfl) c3h h;obtain⟨l,rfl,hR⟩:=a2K (c:=i9) (R:=fun _=>True) (fun el hel=>by obtain⟨b,h⟩:=c0p (he el hel);exact⟨b,h,trivial⟩);simp at hl hb;exact⟨l,hl,hb⟩
theorem b9a {n:Nat} {avs:List AV} (h:v8 Try.prog (n+2) 54 avs):∃s:Wr,avs=s.cells:=by
 obtain⟨h1,h2⟩:=L9 (by kernel_rfl) c3u h;obtain⟨a,b,c,d,rfl⟩:=b8v h1;obtain⟨x,hx,_⟩:=P2 (h2 (0,1,3) (by simp));obtain⟨y,hy,_⟩:=P2 (h2 (1,1,3) (by simp));obtain⟨z,hz,_⟩:=P2 (h2 (2,1,3) (by simp));obtain⟨u,hu⟩:=c0p (h2 (3,1,4) (by simp));simp at hx hy hz hu;subst hx hy hz hu;exact⟨⟨x,y,z,u⟩,rfl⟩
theorem b7Y {n:Nat} {avs:List AV} (h:v8 Try.prog (n+2) 52 avs):∃s:Fd,avs=s.cells:=by
 obtain⟨h1,h2⟩:=L9 (by kernel_rfl) c3A h;obtain⟨a,b,c,d,rfl⟩:=b8v h1;obtain⟨x,hx,_⟩:=P2 (h2 (0,1,3) (by simp));obtain⟨y,hy,_⟩:=P2 (h2 (1,1,3) (by simp));obtain⟨z,hz,_⟩:=P2 (h2 (2,1,3) (by simp));obtain⟨u,hu,_⟩:=P2 (h2 (3,1,3) (by simp));simp at hx hy hz hu;subst hx hy hz hu;exact⟨⟨x,y,z,u⟩,rfl⟩
theorem b8k {n:Nat} {avs:List AV} (h:v8 Try.prog (n+2) 66 avs):∃s:Ld,avs=s.cells∧I64 s.Units:=by
 obtain⟨h1,h2⟩:=L9 (by kernel_rfl) c3z h;obtain⟨a,b,c,rfl⟩:=c2A h1;obtain⟨x,hx,_⟩:=P2 (h2 (0,1,3) (by simp));obtain⟨y,hy,iy⟩:=P2 (h2 (1,1,3) (by simp));obtain⟨z,hz,_⟩:=P2 (h2 (2,1,3) (by simp));simp at hx hy hz;subst hx hy hz;exact⟨⟨x,y,z⟩,rfl,iy⟩
theorem a7w {n:Nat} {avs:List AV} (h:v8 Try.prog (n+4) 25 avs):∃g:Gr,avs=g.cells∧g.Wires.length≤maxLen∧g.Feeds.length≤maxLen:=by
 obtain⟨h1,h2⟩:=L9 (by kernel_rfl) c1O h;obtain⟨a,b,c,d,rfl⟩:=b8v h1;obtain⟨x,hx,_⟩:=P2 (h2 (0,1,3) (by simp));obtain⟨e1,hl1,b1,he1⟩:=J0 (by kernel_rfl) c3r (h2 (1,1,22) (by simp));obtain⟨l1,rfl,_⟩:=a2K (c:=Wr.cells) (R:=fun _=>True) (fun el hel=>by obtain⟨b,h⟩:=b9a (he1 el hel);exact⟨b,h,trivial⟩);obtain⟨e2,hl2,b2,he2⟩:=J0 (by kernel_rfl) c3j (h2 (2,1,23) (by simp));obtain⟨l2,rfl,_⟩:=a2K (c:=Fd.cells) (R:=fun _=>True) (fun el hel=>by obtain⟨b,h⟩:=b7Y (he2 el hel);exact⟨b,h,trivial⟩);obtain⟨y,hy,_⟩:=P2 (h2 (3,1,3) (by simp));simp at hx hl1 hl2 hy;subst hx hl1 hl2 hy;rw[List.length_map]at b1 b2;exact⟨⟨x,l1,l2,y⟩,by simp,b1,b2⟩
theorem a4f {n:Nat} {avs:List AV} (h:v8 Try.prog (n+4) 28 avs):∃s:Sta,avs=s.cells∧s.Feeds.length≤maxLen∧s.Wires.length≤maxLen:=by
 obtain⟨h1,h2⟩:=L9 (by kernel_rfl) c1T h;obtain⟨a,b,rfl⟩:=c2o h1;obtain⟨l1,hl1,b1⟩:=a8S (h2 (0,1,26) (by simp));obtain⟨l2,hl2,b2⟩:=a8S (h2 (1,1,26) (by simp));simp at hl1 hl2;subst hl1 hl2;exact⟨⟨l1,l2⟩,by simp,b1,b2⟩
theorem a4Y {n:Nat} {avs:List AV} (h:v8 Try.prog (n+3) 29 avs):∃l:List Ld,avs=[lL l]∧l.length≤maxLen∧∀x∈l,I64 x.Units:=by
 obtain⟨els,hl,hb,he⟩:=J0 (by kernel_rfl) c1L h;obtain⟨l,rfl,hR⟩:=a2K (c:=Ld.cells) (R:=fun x=>I64 x.Units) (fun el hel=>b8k (he el hel));rw[List.length_map]at hb;exact⟨l,hl,hb,hR⟩
open Go.WideShapes in
theorem a0I {H:Type} {enc:TypeId×Value→H} {W:World} {base n:Nat} {t:TypeId} {v:Value} {d:DataW H} {p:List MemPlace} {z:List Value} {fs:List (Nat×Nat×TypeId)} (hg:a7B Try.prog n t=true) (ht:i5 Try.prog t= .agg z fs)
  (hv:Value.okWide Try.prog W .any base t v) (h:DataW.Trod enc Try.prog W 0 (fun _=>true) true t v d p):∃avs,q8 W (fun _=>False) (.agg avs) v∧v8 Try.prog n t avs:=by
 obtain⟨fuel,h⟩:=h;obtain⟨avs,hr,hs⟩:=b3A n fuel t _ _ hg h;obtain⟨info,fa,h1,h2,_⟩:=F4 ht;obtain⟨cs,rfl,_⟩:=okWide_struct h2 hv;refine⟨avs,?_,hs⟩;have:=q8.agg (w:=W) (S:=fun _=>False) avs cs.toList hr.1 (fun x hx=>by
  obtain⟨i,hi⟩:=List.getElem?_of_mem hx;have hil:=(List.getElem?_eq_some_iff.1 hi).1;obtain⟨c,hc⟩:∃c,avs[i]?=some c:=⟨_,List.getElem?_eq_getElem (by rw[hr.1];exact hil)⟩;exact(hr.2 i c x hc hi).2) (fun i c x h1 h2=>(hr.2 i c x h1 h2).1)
 simpa using this
open Go.WideShapes in
theorem a1W {H:Type} {enc:TypeId×Value→H} {W:World} {base n:Nat} {t e:TypeId} {v:Value} {d:DataW H} {p:List MemPlace} (hg:a7B Try.prog n t=true) (ht:i5 Try.prog t= .slice e)
  (hv:Value.okWide Try.prog W .any base t v) (h:DataW.Trod enc Try.prog W 0 (fun _=>true) true t v d p):∃av,q8 W (fun _=>False) av v∧v8 Try.prog n t [av]:=by
 obtain⟨fuel,h⟩:=h;obtain⟨avs,hr,hs⟩:=b3A n fuel t _ _ hg h;obtain⟨info,h1,h2,_⟩:=n7 ht;obtain⟨a,len,cap,rfl⟩:=okWide_slice h2 hv;have hl:avs.length=1:=by rw[hr.1];rfl
 match avs,hl,hr,hs with
 |[av],_,hr,hs=>exact⟨av,(hr.2 0 av _ rfl rfl).1,hs⟩
theorem b2v {H:Type} {enc:TypeId×Value→H} {W:World} {base:Nat} {v:Value} {d:DataW H} {p:List MemPlace}
  (hv:Value.okWide Try.prog W .any base 3 v) (h:DataW.Trod enc Try.prog W 0 (fun _=>true) true 3 v d p):∃n,q8 W (fun _=>False) (I n) v∧I64 n:=by
 obtain⟨n,rfl,rfl,rfl,w0⟩:=Go.ChangeShapes.open_int b5I hv h;exact⟨n, .v _,b6M w0⟩
theorem c3l:laidOutB Try.prog=true:=by kernel_rfl
theorem c0G:mapsRowed Try.prog=true:=by kernel_rfl
theorem c3n:Kids Try.prog (· <Try.prog.types.size):=kids_rows c3l c0G
theorem full:∀t e,t<Try.prog.types.size→Try.prog.underlying t=some (.slice e)→0<Try.prog.cellsOf e:=slices_full_of Try.prog (by kernel_rfl)
theorem b5J {w w':World} (h:Ext (fun _=>False) w w') {a:Addr} (ha:a.block<w.heap.size):w'.cell? a=w.cell? a:=y9 (h.block _ ha (fun k=>k))
theorem a4K {H:Type} {enc:TypeId×Value→H} {f:Func} {s:ChangeSpec} {fresh handsOn c1j:Bool} {W W':World} {args:Array Value} {v:Value} {ds:List (DataW H)} {before:List MemPlace}
  (hvars:s.vars=[]) (hres:(s.fn H ds).results=[.lit (.bool true)]) (hargs:(s.fn H ds).args=ds) (hvs:(s.fn H ds).vars=[]) (hf:f.resultTypes= #[4]) (hts:∀t∈f.params.toList,t<Try.prog.types.size)
  (hW:DataW.Whole enc Try.prog f.params.toList s.vars false W args.toList ds [] before) (hext:Ext (fun _=>False) W W') (hv:v= .bool true):
  s.post enc Try.prog f false fresh handsOn c1j W args v W':=by
 subst hv;have hlt:=hW.lt;have hW':=hW;obtain⟨p,q,hA,hV,hpq,hz,hn⟩:=hW;rw[hvars]at hV;obtain⟨_,rfl⟩:=Go.ChangeShapes.trodVars_none hV;rw[List.append_nil]at hpq;subst hpq;have carry:∀(ts:List TypeId) (vs:List Value) (ds:List (DataW H)) (ps:List MemPlace),DataW.TrodAll enc Try.prog W 0 (fun _=>true) true ts vs ds ps→(∀x∈ps,x.block<W.heap.size)→DataW.TrodAll enc Try.prog W' 0 (fun _=>true) true ts vs ds ps:=by
  intro ts
  induction ts with
  |nil=>intro vs ds ps h _;match vs,ds,h with|[],[],h=>exact h
  | cons t ts ih=>
   intro vs ds ps h hl
   match vs,ds,h with
   |v::vs,d::ds,⟨p1,q1,⟨n,h1⟩,h2,he⟩=>
    subst he;refine⟨p1,q1,⟨n,DataW.trod_carry n _ _ _ h1 (fun x hx=>?_)⟩,ih vs ds q1 h2 (fun x hx=>hl x (List.mem_append_right _ hx)),rfl⟩;have hb:=hl x (List.mem_append_left _ hx)
    cases x with
    |cell b off=>exact b5J hext hb
    |map b=>exact hext.block b hb (fun k=>k)
 have hA':=carry _ _ _ _ hA hlt;have hag:∀sp:Nat→Bool,(∀x∈before,sp x.block=true)→DataW.TrodAll enc Try.prog W' 0 sp true f.params.toList args.toList (s.fn H (ds++[])).args before:=by
  intro sp hs;rw[List.append_nil,hargs];exact hA'.respare c3n full hts hs
 have hr:∀(b:Nat) (sp:Nat→Bool) (hd:Bool),DataW.TrodAll enc Try.prog W' b sp hd f.resultTypes.toList ((Value.bool true).resultList f.resultTypes.size) (s.fn H (ds++[])).results []:=by
  intro b sp hd;rw[List.append_nil,hres,hf];exact Go.ChangeShapes.trodAll_mk1 (Go.RowKit.shut_bool a7c _)
 have hkept:W.keptBut W' (· ∈before):=by
  refine⟨hext.os,hext.output,fun i hi=>?_⟩;rw[hext.block i hi (fun k=>k)]
  cases hb:W.heap[i]? with
  |none=>trivial
  |some o=>cases o<;>simp
 have hv0:∀sp:Nat→Bool,DataW.TrodVars enc Try.prog W' sp s.vars (s.fn H (ds++[])).vars []:=by
  intro sp;rw[hvars,List.append_nil,hvs]
  rfl
 have hold:∀x∈before,(fun b=>decide (b<W.heap.size)) x.block=true:=fun x hx=>by simpa using hlt x hx
 refine⟨ds,[],before,[],before,[],hW',hr _ _ _,hag _ hold,hv0 _,World.keptBut_mono (fun x hx=>⟨hx,Or.inr (Or.inl hx)⟩) hkept,fun _=>?_⟩;refine⟨Go.RowKit.ok_one hf rfl (Go.RowKit.okWide_bool_mk a7c _),_,_,([]++before)++[],⟨[]++before,[],Go.ChangeShapes.trodAll_append (hag _ (fun _ _=>rfl)) (hr _ _ _),hv0 _,rfl,?_,?_⟩,?_⟩
 ·intro b off hp;have hp':MemPlace.cell b off∈before:=by simpa using hp
  have hb:=hlt _ hp';have:W'.frozen? ⟨b,off,none⟩=W.frozen? ⟨b,off,none⟩:=by unfold World.frozen?;rw[hext.block b hb (fun k=>k)]
  rw[this];exact hz b off hp'
 ·intro ha;cases ha
 ·intro x hx _;simpa using hx
theorem a2s {P : Program} {f : FuncId} {fn : Func} {c : Code} {avs : List AV} {vs : List Value} {W : World} (hf : P.funcs[f]? = some fn) (hb : fn.body = some c) (hname : (fn.name == "runtime.NumGoroutine") = false)
  (h:d6 P f avs (Bo true)) (hl:avs.length=vs.length) (hr:∀(i:Nat) c x,avs[i]?=some c→vs[i]?=some x→q8 W (fun _=>False) c x):
  Calls P f vs.toArray W fun e W'=>e= .returned (.bool true)∧Ext (fun _=>False) W W':=by
 have hn' : ¬ fn.name = "runtime.NumGoroutine" := by simpa using hname
 rcases h with⟨_,h2⟩|h2
 ·refine(h2 (fun _=>False) W vs (fun b k=>k.elim) hl hr).mono fun e W' ⟨v,q1,q2,q3⟩=>?_
  cases q2
  exact⟨q1,q3⟩
 ·exfalso;obtain⟨v,q1,_⟩:=h2 (fun _=>False) W vs hl hr;have:(callFunc f vs.toArray).run P W= .ok (.enter f vs.toArray) W:=by simp[callFunc,hf,hn',hb]
  rw[this]at q1
  cases q1
theorem a8t {W:World}:∀(i:Nat) c x,([]:List AV)[i]?=some c→([]:List Value)[i]?=some x→q8 W (fun _=>False) c x:=fun i c x h=>by simp at h
theorem E1 {W:World} {a:AV} {v:Value} {xs:List AV} {vs:List Value} (h:q8 W (fun _=>False) a v) (k:∀(i:Nat) c x,xs[i]?=some c→vs[i]?=some x→q8 W (fun _=>False) c x):
  ∀(i:Nat) c x,(a::xs)[i]?=some c→(v::vs)[i]?=some x→q8 W (fun _=>False) c x:=fun i c x h1 h2=>by
 cases i with
 |zero=>simp at h1 h2;subst h1 h2;exact h
 |succ i=>exact k i c x (by simpa using h1) (by simpa using h2)
end Go.Cur
end
section
namespace Go.Cur
open Go.AM Go.Proofs
abbrev eL (l:List En):AV:= .lst 8 (l.map En.cells)
theorem b0J (g:Gr) (s:Sta) (l:List Ld) (hl:l.length≤1000) (h5:t7 g s l=true→C5 g s=false→∀p∈j7 g s,p.length≤5) (h12:t7 g s l=true→I7 g s):
  d6 Try.prog 44 [g.av,s.av,lL l] (if t7 g s l=true then(if C5 g s=true then .tup [.v (.slice none 0 0),I 3]else if okS g s (tkK l (A4 l))=true then .tup [eL ((j7 g s).map (enP g s (tkK l (A4 l)))),I 0]else .tup [.v (.slice none 0 0),I 4])else .tup [.v (.slice none 0 0),I 2]):=by
 cases hf:t7 g s l with
 |false=>
  have hb:=a6p g s l hl hf;refine d6.of_bodyG Try.func44 rfl (by decide) (by simp[Try.ntmps44]) ?_;intro J hJ;simp only[Try.ntmps44,Try.results44];refine gS fun K hK=>?_;simp -dsimp;apply hK;clear hK K;refine gS fun K hK=>?_;simp -dsimp;refine d5 _ (hb) (by simp) ?_;simp -dsimp;apply hK;clear hK K;refine b9 fun K1 hK1=>?_;refine d7 ?_;refine gS fun K hK=>?_;simp -dsimp;apply hK;clear hK K;refine d9 rfl (fun hc0=>?_) (fun hc0=>?_)
  ·refine gS fun K hK=>?_;simp -dsimp;apply hK;clear hK K;exact j6 (by simp[C2,n6])
  ·simp at hc0
 | true =>
  have hnt:=u6 hf;have hb:=R2 g s l hl hf;have hlg:=X5 g s hnt (h12 hf)
  cases hlo:C5 g s with
  | true=>
   rw[hlo]at hlg;refine d6.of_bodyG Try.func44 rfl (by decide) (by simp[Try.ntmps44]) ?_;intro J hJ;simp only[Try.ntmps44,Try.results44];refine gS fun K hK=>?_;simp -dsimp;apply hK;clear hK K;refine gS fun K hK=>?_;simp -dsimp;refine d5 _ (hb) (by simp) ?_;simp -dsimp;apply hK;clear hK K;refine b9 fun K1 hK1=>?_;refine d7 ?_;refine gS fun K hK=>?_;simp -dsimp;apply hK;clear hK K;refine d9 rfl (fun hc0=>?_) (fun hc0=>?_)
   ·simp at hc0
   ·refine gS fun K hK=>?_;simp -dsimp;refine d5 _ (hlg) (by simp) ?_;simp -dsimp;apply hK;clear hK K;refine d9 rfl (fun hc1=>?_) (fun hc1=>?_)
    ·refine gS fun K hK=>?_;simp -dsimp;apply hK;clear hK K;exact j6 (by simp[C2,n6])
    ·simp at hc1
  | false =>
   rw[hlo]at hlg;have hbd:=t9 hnt.gr;have h5:=h5 hf hlo;have htk:=a1Y l hl;have hI:=W0 l (A4 l);have hus:=a2d (O4 hf) (A4 l);have hit:=a6w g s hnt (h12 hf);have hc:=a2H (ntC g (bL s.Feeds) (bL s.Wires));unfold okS;generalize tkK l (A4 l)=us at htk hI hus ⊢;have hcall:=fun p (hp:p∈j7 g s)=>b3e (us:=us) hnt hp (Or.inl (h5 p hp)) hI hus;have htt:=fun p (hp:p∈j7 g s)=>L0 (us:=us) hnt hp (h5 p hp) hus;have hbb:=fun p (hp:p∈j7 g s)=>b4r (us:=us) hnt hp (Or.inl (h5 p hp)) hI hus;have hxg:=fun p (hp:p∈j7 g s) (v:List Int) (hv:v.length=p.length) i k (hk:p[i]?=some k)=>b8e hp hv hk;have hpl:=M3 g s;generalize hL:j7 g s=L at hit h5 hcall htt hbb hxg hpl ⊢;refine d6.of_bodyG Try.func44 rfl (by decide) (by simp[Try.ntmps44]) ?_;intro J hJ;simp only[Try.ntmps44,Try.results44];refine gS fun K hK=>?_;simp -dsimp;apply hK;clear hK K;refine gS fun K hK=>?_;simp -dsimp;refine d5 _ (hb) (by simp) ?_;simp -dsimp;apply hK;clear hK K;refine b9 fun K1 hK1=>?_;refine d7 ?_;refine gS fun K hK=>?_;simp -dsimp;apply hK;clear hK K;refine d9 rfl (fun hc0=>?_) (fun hc0=>?_)
   ·simp at hc0
   ·refine gS fun K hK=>?_;simp -dsimp;refine d5 _ (hlg) (by simp) ?_;simp -dsimp;apply hK;clear hK K;refine d9 rfl (fun hc1=>?_) (fun hc1=>?_)
    ·simp at hc1
    ·refine f6 ?_;simp only[zT,reduceIte,Nat.reduceEqDiff];refine hK1 _ _ ?_;refine b6 [2,6,7,8] (Or.inr (by simp)) ?_;simp only[zP,Nat.reduceEqDiff,reduceIte];refine gS fun K hK=>?_;simp -dsimp;refine d5 _ (htk) (by simp) ?_;simp -dsimp;apply hK;clear hK K;refine gS fun K hK=>?_;simp -dsimp;apply hK;clear hK K;refine b9 fun K2 hK2=>?_;refine gS fun K hK=>?_;simp -dsimp;refine d5 _ (hc) (by simp) ?_;simp -dsimp;apply hK;clear hK K;refine d7 ?_;refine b6 [6,7,8,10,11,41] (Or.inr (by simp)) ?_;simp only[zP,Nat.reduceEqDiff,reduceIte];refine G7 hJ [6,7,8,10,11,41] (fun t=>[some (.els 4 [g.cells]),some (.els 2 [s.cells]),some (.els 1 [[.v (.slice none 0 0)]]),some (.els 1 [[I 0]]),some (.els 1 [[net g s]]),some (.els 1 [[.mpc false [.i .i64] us]]),some (.els 1 [[.row 7 0 t]]),some (.els 8 (((L.take t).map (enP g s us)).map En.cells))]) (fun t=>((L.take t).all fun p=>(v6 g s us p).2.2)=true) rfl (hit) rfl (by simp) (by decide) (by decide) (by decide) (a2i L) ?_ ?_ ?_ ?_
     ·rfl
     ·exact(N3 6 0 0 8 (sz0:=1) (es:=[[.v (.slice none 0 0)]]) (e:=[.v (.slice none 0 0)]) (by simp) (by simp) (by simp)).trans (e9 [some 0,some 1,some 2,some 3,some 4,some 5,some 6,some 7] rfl (by simp) (by simp))
     ·intro n xv hxn hi l1 J1 hJ1;obtain⟨p,hp,rfl⟩:∃p,L[n]?=some p∧pAV p=xv:=by simpa using hxn
      have hpm:=List.mem_of_getElem? hp;have hnl:=(List.getElem?_eq_some_iff.1 hp).1;have hul:=o9 p;have hp5:=h5 p hpm;have hcl:=hcall p hpm;have hLp:p∈j7 g s:=hL▸hpm;obtain⟨R,hR⟩:∃R,R=((L.take n).map (enP g s us)):=⟨_,rfl⟩;have hRl:R.length=n:=by rw[hR];simp;omega
      have hRs:((L.take (n+1)).map (enP g s us))=R++[enP g s us p]:=by rw[List.take_add_one,hp,List.map_append,hR];rfl
      rw[←hR];simp only[pAV];simp only[List.zip_cons_cons,List.zip_nil_left,List.zip_nil_right,List.cons_append,List.nil_append];refine gR fun K hK=>?_;simp -dsimp;apply hK;clear hK K;simp only[a6z];intro J2 hJ2;refine b6 [6,7,8,10,11,12,41] (Or.inr (by simp)) ?_;simp only[zP,Nat.reduceEqDiff,reduceIte];refine d7 ?_;refine gS fun K hK=>?_;simp -dsimp;refine d5 _ (hcl) (by simp) ?_;simp -dsimp;apply hK;clear hK K;refine b9 fun K3 hK3=>?_;refine gS fun K hK=>?_;simp -dsimp;apply hK;clear hK K;refine d9 rfl (fun hc2=>?_) (fun hc2=>?_)
      ·refine gS fun K hK=>?_;simp -dsimp;apply hK;clear hK K;have hof:(v6 g s us p).2.2=false:=by simpa using hc2
       have hall:(L.all fun p=>(v6 g s us p).2.2)=false:=by rw[List.all_eq_false];exact⟨p,hpm,by simp[hof]⟩
       exact j6 ⟨[some (.els 4 [g.cells]),some (.els 2 [s.cells]),some (.els 1 [[.v (.slice none 0 0)]]),some (.els 1 [[I 4]]),some (.els 1 [[net g s]]),some (.els 1 [[.mpc false [.i .i64] us]]),some (.els 1 [[.row 7 0 n]]),some (.els 8 (R.map En.cells))],e9 [some 0,some 1,some 2,some 3,some 4,some 5,some 6,some 7] rfl (by simp) (by simp),by simp[hall,C2,n6]⟩
      ·have hok:(v6 g s us p).2.2=true:=by simpa using hc2
       obtain⟨t1,t2,t3⟩:=htt p hpm hok;obtain⟨b1,-,-,-⟩:=hbb p hpm hok;have hen:enP g s us p=enE g (k8 g s (upN p)) us (xOf (v6 g s us p).1 p) (v6 g s us p).2.1 p:=rfl;have hF12:=a9R hnt (p:=p) rfl;have hfa:=fun b (hb:b<(k8 g s (upN p)).length)=>C9 hnt (p:=p) rfl hb;have hfd:=a4V g s (upN p) hnt.sf (by omega) (by omega);generalize k8 g s (upN p)=F at hen hF12 hfa hfd;obtain⟨v,hv⟩:∃v,v=(v6 g s us p).1:=⟨_,rfl⟩;obtain⟨d,hd⟩:∃d,d=(v6 g s us p).2.1:=⟨_,rfl⟩;rw[←hv]at t3 b1 hen ⊢;rw[←hd]at t1 t2 hen ⊢;have hX:=fun k=>b6L (p:=p) t3 k;have hxe:=fun i k (hk:p[i]?=some k)=>hxg p hpm v b1 i k hk;generalize xOf v p=X at hen hX hxe;refine f6 ?_;simp only[zT,reduceIte,Nat.reduceEqDiff];refine hK3 _ _ ?_;refine b6 [6,7,8,10,11,12,13,14,41] (Or.inr (by simp)) ?_;simp only[zP,Nat.reduceEqDiff,reduceIte];refine gS fun K hK=>?_;simp -dsimp;apply hK;clear hK K;refine b9 fun K4 hK4=>?_;refine gS fun K hK=>?_;simp -dsimp;refine d5 _ (hfd) (by simp) ?_;simp -dsimp;apply hK;clear hK K;refine d7 ?_;refine b6 [6,7,8,10,11,12,13,14,16,17,18,41,55,56,57] (Or.inr (by simp)) ?_;simp only[zP,Nat.reduceEqDiff,reduceIte];refine g9 [6,7,8,10,11,12,13,14,17,18,41,55,56] (α:=Nat) (fun i=>[(16,I (enG g (F.take i) X d)),(57,I i)]) (fun i=>[some (.els 4 [g.cells]),some (.els 2 [s.cells]),some (.els 1 [[.v (.slice none 0 0)]]),some (.els 1 [[I 0]]),some (.els 1 [[net g s]]),some (.els 1 [[.mpc false [.i .i64] us]]),some (.els 1 [[.row 7 0 n]]),some (.els 8 (R.map En.cells))]) (fun i=>i≤F.length) (fun i=>F.length-i) 0 ?_ ?_ ?_
       ·exact Nat.zero_le _
       ·exact o1 (e9 [some 0,some 1,some 2,some 3,some 4,some 5,some 6,some 7] rfl (by simp[enG,sF]) (by simp)) (by simp)
       rintro i i1;simp only[zP,Nat.reduceEqDiff,reduceIte];refine gS fun K hK=>?_;simp -dsimp;apply hK;clear hK K;refine b9 fun K5 hK5=>?_;refine d9 rfl (fun hc3=>?_) (fun hc3=>?_)
       ·have hil:i<F.length:=by simpa using hc3
        have wi:=zW i (by omega);obtain⟨a1,a2,a3,a4,a5,a6,a7,a8,a9,a10⟩:=hfa i hil;obtain⟨f,hfq⟩:∃f:Nat,at0 F (i:Nat)=f:=⟨(at0 F (i:Nat)).toNat,by omega⟩;rw[hfq]at a1 a2 a3 a4 a5 a6 a7 a8 a9 a10;rw[Int.toNat_natCast]at a4;have hfn:f<g.Feeds.length:=by omega
        have hix:=a4t (upN p) (fdI g (f:Int)).At (by omega);rw[a3P a5 a6]at hix;have gv:=hxe _ _ (E3 a6);have hxb:=hX (fdI g (f:Int)).At.toNat;have hsn:=b4Z (g:=g) (X:=X) (d:=d) a1;have hG:=b4j (g:=g) (F:=F.take i) (X:=X) (d:=d) (fun f' hf'=>by obtain⟨b,hb⟩:=List.getElem?_of_mem (List.mem_of_mem_take hf');have h1:=hfa b (List.getElem?_eq_some_iff.1 hb).1;rw[J4 hb]at h1;exact⟨h1.2.2.2.2.2.2.1,h1.2.2.2.2.2.2.2⟩) hX t1 t2;rw[List.length_take]at hG;generalize p.idxOf (fdI g (f:Int)).At.toNat=ix at hix gv;generalize X (fdI g (f:Int)).At.toNat=x at gv hxb hsn;have hvd:0≤(fdI g (f:Int)).Volts*d∧(fdI g (f:Int)).Volts*d≤2000000000000:=⟨Int.mul_nonneg (by omega) (by omega),Int.le_trans (Int.mul_le_mul a8 t2 (by omega) (by omega)) (by omega)⟩;have hft:=b4y (g:=g) (f:=(f:Int)) ⟨a7,a8,a9,a10⟩ (D:=(fdI g (f:Int)).Volts*d-x) (by omega);have w0:IntKind.i64.wrap ((fdI g (f:Int)).Volts*(fdI g (f:Int)).Siem)=(fdI g (f:Int)).Volts*(fdI g (f:Int)).Siem:=f7 (by have:=Int.mul_nonneg (a:=(fdI g (f:Int)).Volts) (b:=(fdI g (f:Int)).Siem) (by omega) (by omega);omega) (by have:=Int.mul_le_mul a8 a10 (by omega) (by omega);omega);have w1:IntKind.i64.wrap ((fdI g (f:Int)).Volts*d)=(fdI g (f:Int)).Volts*d:=f7 (by omega) (by omega);have w2:IntKind.i64.wrap ((fdI g (f:Int)).Volts*d-x)=(fdI g (f:Int)).Volts*d-x:=f7 (by omega) (by omega);have hm:(if x<(fdI g (f:Int)).Volts*d then(fdI g (f:Int)).Volts*d-x else 0)=mx0 ((fdI g (f:Int)).Volts*d-x):=by unfold mx0;split<;>split<;>omega
        generalize mx0 ((fdI g (f:Int)).Volts*d-x)=m at hm hft hsn;rw[←Int.mul_assoc]at hft hsn;have w3:IntKind.i64.wrap ((fdI g (f:Int)).Volts*(fdI g (f:Int)).Siem*m)=(fdI g (f:Int)).Volts*(fdI g (f:Int)).Siem*m:=f7 (by omega) (by omega);have w4:IntKind.i64.wrap (enG g (F.take i) X d+(fdI g (f:Int)).Volts*(fdI g (f:Int)).Siem*m)=enG g (F.take i) X d+(fdI g (f:Int)).Volts*(fdI g (f:Int)).Siem*m:=f7 (by omega) (by omega);refine f6 ?_;simp only[zT,reduceIte,Nat.reduceEqDiff];refine hK5 _ _ ?_;refine b6 [6,7,8,10,11,12,13,14,16,17,18,41,55,56,57] (Or.inr (by simp)) ?_;simp only[zP,Nat.reduceEqDiff,reduceIte];refine b9 fun K6 hK6=>?_;refine d7 ?_;refine gS fun K hK=>?_;simp -dsimp [a1];apply hK;clear hK K;refine gS fun K hK=>?_;simp -dsimp [a4];apply hK;clear hK K;refine o8 l9 rfl (by decide) rfl rfl fun K hK=>?_;simp -dsimp [gv,w0,w1,w2,hm,w3,w4];refine d5 _ (hix) (by simp) ?_;simp -dsimp [gv,w0,w1,w2,hm,w3,w4];refine hK _ _ _ (by decide+kernel) ?_;clear hK K;simp only[zT,reduceIte,Nat.reduceEqDiff];refine hK6 _ _ ?_;refine b6 [6,7,8,10,11,12,13,14,16,17,18,41,55,56,57] (Or.inr (by simp)) ?_;simp only[zP,Nat.reduceEqDiff,reduceIte];refine gR fun K hK=>?_;simp -dsimp [wi];apply hK;clear hK K;simp only[zT,reduceIte,Nat.reduceEqDiff];exact⟨i+1,by omega,by omega,o1 (e9 [some 0,some 1,some 2,some 3,some 4,some 5,some 6,some 7] rfl (by simp[hsn]) (by simp)) (by simp)⟩
       ·have hie:¬i<F.length:=by simpa using hc3
        rw[show F.take i=F from List.take_of_length_le (by omega)];have hTa:=fun i=>b6X (us:=us) (p:=p.take i) hX hus;have hRa:=fun i=>b7j (us:=us) (p:=p.take i) hX hus;have hGa:=b4j (g:=g) (F:=F) (X:=X) (d:=d) (fun f' hf'=>by obtain⟨b,hb⟩:=List.getElem?_of_mem hf';have h1:=hfa b (List.getElem?_eq_some_iff.1 hb).1;rw[J4 hb]at h1;exact⟨h1.2.2.2.2.2.2.1,h1.2.2.2.2.2.2.2⟩) hX t1 t2;refine i6 ?_;simp only[zT,reduceIte,Nat.reduceEqDiff];refine hK4 _ _ ?_;refine b6 [6,7,8,10,11,12,13,14,16,17,18,41] (Or.inr (by simp)) ?_;simp only[zP,Nat.reduceEqDiff,reduceIte];refine b9 fun K7 hK7=>?_;refine gS fun K hK=>?_;simp -dsimp [hul];apply hK;clear hK K;refine d7 ?_;refine b6 [6,7,8,10,11,13,14,16,17,18,41,91,92,93] (Or.inr (by simp)) ?_;simp only[zP,Nat.reduceEqDiff,reduceIte];refine g9 [6,7,8,10,11,13,14,16,41,91,92] (α:=Nat) (fun j=>[(17,I (enT us X (p.take j))),(18,I (enR us X (p.take j))),(93,I j)]) (fun j=>[some (.els 4 [g.cells]),some (.els 2 [s.cells]),some (.els 1 [[.v (.slice none 0 0)]]),some (.els 1 [[I 0]]),some (.els 1 [[net g s]]),some (.els 1 [[.mpc false [.i .i64] us]]),some (.els 1 [[.row 7 0 n]]),some (.els 8 (R.map En.cells))]) (fun j=>j≤p.length) (fun j=>p.length-j) 0 ?_ ?_ ?_
        ·exact Nat.zero_le _
        ·exact o1 (e9 [some 0,some 1,some 2,some 3,some 4,some 5,some 6,some 7] rfl (by simp[enT,enR,sm]) (by simp)) (by simp)
        rintro j j1;simp only[zP,Nat.reduceEqDiff,reduceIte];refine gS fun K hK=>?_;simp -dsimp;apply hK;clear hK K;refine b9 fun K8 hK8=>?_;refine d9 rfl (fun hc4=>?_) (fun hc4=>?_)
        ·have hjl:j<p.length:=by simpa [hul]using hc4
         have wj:=zW j (by omega);obtain⟨k,hk⟩:∃k,p[j]?=some k:=⟨_,List.getElem?_eq_getElem hjl⟩;have gk:=E9 hk;have gv:=hxe _ _ hk;have hTs:=b6q (us:=us) (X:=X) hk;have hRs':=b5i (us:=us) (X:=X) hk;have hT0:=hTa j;have hT1:=hTa (j+1);have hR0:=hRa j;have hR1:=hRa (j+1);rw[List.length_take]at hT0 hT1 hR0 hR1;have hu:=hus k;have hxb:=hX k;have hxu:-600000000000000≤X k*igt us k∧X k*igt us k≤600000000000000:=by
          have h1:=a5w hX k (u:=igt us k) (by omega);have h2:=a5w hX k (u:=-igt us k) (by omega);have h3:X k*igt us k=X k*mx0 (igt us k)-X k*mx0 (-igt us k):=by rw[←Int.mul_sub];congr 1;unfold mx0;split<;>split<;>omega
          omega
         have we:IntKind.i64.wrap (X k*igt us k)=X k*igt us k:=f7 (by omega) (by omega);refine f6 ?_;simp only[zT,reduceIte,Nat.reduceEqDiff];refine hK8 _ _ ?_;refine b6 [6,7,8,10,11,13,14,16,17,18,41,91,92,93] (Or.inr (by simp)) ?_;simp only[zP,Nat.reduceEqDiff,reduceIte];refine b9 fun K9 hK9=>?_;refine d7 ?_;refine gS fun K hK=>?_;simp -dsimp [gk];apply hK;clear hK K;refine w9 l9 rfl (by decide) rfl rfl fun K hK=>?_;simp -dsimp [gk,gv,p7 hI,we];refine o4 (_) (fun hm=>rfl) ?_;simp -dsimp [gk,gv,p7 hI,we];refine hK _ _ _ (by decide+kernel) ?_;clear hK K;refine gS fun K hK=>?_;simp -dsimp [p7 hI];refine o4 (_) (fun hm=>rfl) ?_;simp -dsimp [p7 hI];apply hK;clear hK K;refine d9 rfl (fun hc5=>?_) (fun hc5=>?_)
         ·have hpos:0<igt us k:=by simpa using hc5
          have eT:X k*mx0 (igt us k)=X k*igt us k:=by unfold mx0;rw[if_pos hpos]
          have eR:X k*mx0 (-igt us k)=0:=by unfold mx0;rw[if_neg (by omega),Int.mul_zero]
          rw[eT]at hTs;rw[eR,Int.add_zero]at hRs';have w6:IntKind.i64.wrap (enT us X (p.take j)+X k*igt us k)=enT us X (p.take j)+X k*igt us k:=f7 (by omega) (by omega);refine gR fun K hK=>?_;simp -dsimp [w6];apply hK;clear hK K;simp only[zT,reduceIte,Nat.reduceEqDiff];refine hK9 _ _ ?_;refine b6 [6,7,8,10,11,13,14,16,17,18,41,91,92,93] (Or.inr (by simp)) ?_;simp only[zP,Nat.reduceEqDiff,reduceIte];refine gR fun K hK=>?_;simp -dsimp [wj];apply hK;clear hK K;simp only[zT,reduceIte,Nat.reduceEqDiff];exact⟨j+1,by omega,by omega,o1 (e9 [some 0,some 1,some 2,some 3,some 4,some 5,some 6,some 7] rfl (by simp[hTs,hRs']) (by simp)) (by simp)⟩
         ·have hpos:¬0<igt us k:=by simpa using hc5
          have eT:X k*mx0 (igt us k)=0:=by unfold mx0;rw[if_neg hpos,Int.mul_zero]
          have eR:X k*mx0 (-igt us k)=- (X k*igt us k):=by
           unfold mx0
           by_cases h:igt us k=0
           ·rw[h];simp
           ·rw[if_pos (by omega),Int.mul_neg]
          rw[eT,Int.add_zero]at hTs;rw[eR,←Int.sub_eq_add_neg]at hRs';have w6:IntKind.i64.wrap (enR us X (p.take j)-X k*igt us k)=enR us X (p.take j)-X k*igt us k:=f7 (by omega) (by omega);refine gR fun K hK=>?_;simp -dsimp [w6];apply hK;clear hK K;simp only[zT,reduceIte,Nat.reduceEqDiff];refine hK9 _ _ ?_;refine b6 [6,7,8,10,11,13,14,16,17,18,41,91,92,93] (Or.inr (by simp)) ?_;simp only[zP,Nat.reduceEqDiff,reduceIte];refine gR fun K hK=>?_;simp -dsimp [wj];apply hK;clear hK K;simp only[zT,reduceIte,Nat.reduceEqDiff];exact⟨j+1,by omega,by omega,o1 (e9 [some 0,some 1,some 2,some 3,some 4,some 5,some 6,some 7] rfl (by simp[hTs,hRs']) (by simp)) (by simp)⟩
        ·have hje:¬j<p.length:=by simpa [hul]using hc4
         rw[show p.take j=p from List.take_of_length_le (by omega)];have hT:=hTa p.length;have hB:=hRa p.length;rw[List.take_length]at hT hB;have fr1:=F3 (enG g F X d) d t1 (by omega) (by omega) (by omega);have fr2:=F3 (enT us X p) d t1 (by omega) (by omega) (by omega);have fr3:=F3 (enR us X p) d t1 (by omega) (by omega) (by omega);have fr4:=F3 (enG g F X d+enR us X p-enT us X p) d t1 (by omega) (by omega) (by omega);have w7:IntKind.i64.wrap (enG g F X d+enR us X p)=enG g F X d+enR us X p:=f7 (by omega) (by omega);have w8:IntKind.i64.wrap (enG g F X d+enR us X p-enT us X p)=enG g F X d+enR us X p-enT us X p:=f7 (by omega) (by omega);have htR:List.take n (R.map En.cells)=R.map En.cells:=List.take_of_length_le (by simp;omega);have f2:I9 (n+1) 65:=m8 (by omega) (by omega);refine i6 ?_;simp only[zT,reduceIte,Nat.reduceEqDiff];refine hK7 _ _ ?_;refine b6 [6,7,8,10,11,14,16,17,18,41] (Or.inr (by simp)) ?_;simp only[zP,Nat.reduceEqDiff,reduceIte];refine o8 l9 rfl (by decide) rfl rfl fun K hK=>?_;simp -dsimp [w7,w8,f2,hRl,htR];refine d5 _ (fr1) (by simp) ?_;simp -dsimp [w7,w8,f2,hRl,htR];refine d5 _ (fr2) (by simp) ?_;simp -dsimp [w7,w8,f2,hRl,htR];refine d5 _ (fr3) (by simp) ?_;simp -dsimp [w7,w8,f2,hRl,htR];refine d5 _ (fr4) (by simp) ?_;simp -dsimp [w7,w8,f2,hRl,htR];refine hK _ _ _ (by decide+kernel) ?_;clear hK K;simp only[Q8,B9,a1d,reduceIte,Nat.reduceEqDiff,eq_self];exact⟨by rw[b4o hp,hi,hok];rfl,e9 [some 0,some 1,some 2,some 3,some 4,some 5,some 6,some 8] rfl (by simp) (by simp[hRs,hen,enE])⟩
     ·intro hdone;simp only[zT,reduceIte,Nat.reduceEqDiff];refine hK2 _ _ ?_;refine b6 [6,7,11] (Or.inr (by simp)) ?_;simp only[zP,Nat.reduceEqDiff,reduceIte];refine gS fun K hK=>?_;simp -dsimp;apply hK;clear hK K;have hdone':(L.all fun p=>(v6 g s us p).2.2)=true:=by rw[List.take_of_length_le (by simp)]at hdone;exact hdone
      have htk:List.take L.length (L.map (En.cells∘enP g s us))=L.map (En.cells∘enP g s us):=List.take_of_length_le (by simp);exact j6 (by simp[C2,n6,hdone',htk])
end Go.Cur
end
section
namespace Go.Cur
open Go.AM Go.Proofs
theorem c1a {p:List Nat} {x:Nat→Int}:∀{W:List Wn},(∀w∈W,0<w.s)→0≤ws p x W
 |[],_=>by simp[ws]
 | w::W,h=>by
  have ih:=c1a (p:=p) (x:=x) (W:=W) fun w hw=>h w (by simp[hw]);have hw:=h w (by simp);rw[ws]
  split
  ·have h1:0≤w.s*((x w.a-x w.b)*(x w.a-x w.b)):=by
    refine Int.mul_nonneg (by omega) ?_;generalize x w.a-x w.b=D
    rcases Int.le_total 0 D with h|h
    ·exact Int.mul_nonneg h h
    ·exact Int.mul_nonneg_of_nonpos_of_nonpos h h
   rw[←Int.mul_assoc]at h1;omega
  ·omega
theorem b6S {g:Gr} {n:Nat→Int} {d:Int}:∀{F:List Int},(∀f∈F,1≤(fdI g f).Siem)→0≤fgl g n d F
 |[],_=>by simp[fgl,sF]
 |f::F,h=>by
  have ih:=b6S (n:=n) (d:=d) (F:=F) fun f hf=>h f (by simp[hf]);have hs:=h f (by simp);unfold fgl at ih ⊢;rw[O9];have h1:0≤mx0 ((fdI g f).Volts*d-n (fdI g f).At.toNat):=by unfold mx0;split<;>omega
  have h2:=Int.mul_nonneg (Int.mul_nonneg (show 0≤(fdI g f).Siem by omega) h1) h1;omega
theorem b5a {g:Gr} {n:Nat→Int} {d:Int} {F:List Int} {k:Nat} {f:Int} (h:F[k]?=some f):fgl g n d (F.take (k+1))=fgl g n d (F.take k)+(fdI g f).Siem*mx0 ((fdI g f).Volts*d-n (fdI g f).At.toNat)*mx0 ((fdI g f).Volts*d-n (fdI g f).At.toNat):=a4e h
theorem a3s (g:Gr) (s:Sta) (l:List Ld):d6 Try.prog 13 [g.av,s.av,lL l] (Bo true):=by
 have hk:=a7M;have hrf:(g.Wires.length≤100∧g.Feeds.length≤20∧l.length≤50)→d6 Try.prog 16 [g.av,s.av,lL l] (I (a4N g s l)):=fun h=>a2x g s l (by omega) (by omega) (by omega);have hre:a4N g s l=0→t7 g s l=true∧C5 g s=false:=fun h=>by
  rcases a3c g s l with h1|h1|h1
  ·omega
  ·omega
  ·exact⟨h1.1,h1.2.1⟩
 have hlt:a4N g s l=0→d6 Try.prog 17 [g.av,s.av] (Bo (b4J g s)):=fun h=>a4B g s (u6 (hre h).1);generalize hRE:a4N g s l=re at hrf hre hlt;refine d6.of_body Try.func13 rfl (by decide) (by simp[Try.ntmps13]) ?_;simp only[Try.ntmps13,Try.results13];refine aS fun K hK=>?_;simp -dsimp;apply hK;clear hK K;refine b8 fun K1 hK1=>?_;refine aS fun K hK=>?_;simp -dsimp;refine g8 _ (fun hm=>hrf (by simp at hm;omega)) (by simp) ?_;simp -dsimp;refine g8 _ (fun hm=>hlt (by simp at hm;omega)) (by simp) ?_;simp -dsimp;apply hK;clear hK K;refine d8 rfl (fun hc0=>?_) (fun hc0=>?_)
 ·refine aS fun K hK=>?_;simp -dsimp;refine d5 _ (hk) (by simp) ?_;simp -dsimp;apply hK;clear hK K;exact g7 (by simp)
 ·have hc1:l.length≤50∧re=0∧b4J g s=true:=by simp at hc0;exact⟨by omega,by omega,hc0.2⟩
  obtain⟨hfi,hlo⟩:=hre hc1.2.1;have hnt:=u6 hfi;have hbd:=t9 hnt.gr;have h5:=b2W hc1.2.2 hlo;have hld:=O4 hfi;have hus:=a2d hld (A4 l);have hsv:=a4X g s l (by omega) (fun _=>L5 hlo) (fun h1 h2 p hp=>Or.inl (h5 p hp));unfold a6K at hsv;rw[if_pos hfi,if_neg (by rw[hlo];decide)]at hsv;have hse:=b0J g s l (by omega) (fun _ _=>h5) (fun _=>L5 hlo);rw[if_pos hfi,if_neg (by rw[hlo];decide)]at hse;refine f5 ?_;simp only[zT,reduceIte,Nat.reduceEqDiff];refine hK1 _ _ ?_;refine b7 [2,3,4] ?_;simp only[zP,Nat.reduceEqDiff,reduceIte]
  cases hok:okS g s (tkK l (A4 l))
  rw[if_neg (by rw[hok];decide)]at hsv hse
  rotate_left
  rw[if_pos hok]at hsv hse;have hel:((j7 g s).map (enP g s (tkK l (A4 l)))).length=(j7 g s).length:=by simp
  have heg:∀(i:Nat) p,(j7 g s)[i]?=some p→((j7 g s).map (enP g s (tkK l (A4 l))))[i]?=some (enP g s (tkK l (A4 l)) p):=fun i p h=>by rw[List.getElem?_map,h];rfl
  generalize (j7 g s).map (enP g s (tkK l (A4 l)))=ES at hse hel heg
  rotate_left
  ·refine aS fun K hK=>?_;simp -dsimp;refine d5 _ (hsv) (by simp) ?_;simp -dsimp;apply hK;clear hK K;refine aS fun K hK=>?_;simp -dsimp;refine d5 _ (hse) (by simp) ?_;simp -dsimp;apply hK;clear hK K;refine b8 fun K2 hK2=>?_;refine aS fun K hK=>?_;simp -dsimp;apply hK;clear hK K;refine d8 rfl (fun hc1=>?_) (fun hc1=>?_)
   ·refine aS fun K hK=>?_;simp -dsimp;refine g8 _ (fun hm=>hk) (by simp) ?_;simp -dsimp;apply hK;clear hK K;exact g7 (by simp)
   ·simp at hc1
  ·refine aS fun K hK=>?_;simp -dsimp;refine d5 _ (hsv) (by simp) ?_;simp -dsimp;apply hK;clear hK K;refine aS fun K hK=>?_;simp -dsimp;refine d5 _ (hse) (by simp) ?_;simp -dsimp;apply hK;clear hK K;refine b8 fun K3 hK3=>?_;refine aS fun K hK=>?_;simp -dsimp;apply hK;clear hK K;refine d8 rfl (fun hc1=>?_) (fun hc1=>?_)
   ·simp at hc1
   ·obtain⟨N,hnn⟩:∃N:Nat,g.Nodes.toNat=N:=⟨g.Nodes.toNat,rfl⟩;have hn0:0≤g.Nodes:=by omega
    have hnN:g.Nodes=(N:Int):=by omega
    have hVl:((vlA g.Nodes.toNat (vfS g s (tkK l (A4 l)))).length:Int)=g.Nodes:=by simp[vlA];omega
    have hFl:(flA g s (vfS g s (tkK l (A4 l)))).length=g.Feeds.length:=by simp[flA]
    refine f5 ?_;simp only[zT,reduceIte,Nat.reduceEqDiff];refine hK3 _ _ ?_;refine b7 [3,4,7,8,10] ?_;simp only[zP,Nat.reduceEqDiff,reduceIte];refine aS fun K hK=>?_;simp -dsimp;refine d5 _ (Y6 g s hnt) (by simp) ?_;simp -dsimp;apply hK;clear hK K;refine b8 fun K4 hK4=>?_;refine aS fun K hK=>?_;simp -dsimp [hVl,hFl,hel];apply hK;clear hK K;refine d8 rfl (fun hc2=>?_) (fun hc2=>?_)
    ·simp at hc2
    ·have hcm:=fun p (hp:p∈j7 g s) (hok:(v6 g s (tkK l (A4 l)) p).2.2=true)=>a7v (us:=tkK l (A4 l)) hnt hp (h5 p hp) hus hok;have hvt:=fun k (hk:k<N)=>a1N hnt h5 hus hok (k:=k) (by omega);have hokp:∀p∈j7 g s,(v6 g s (tkK l (A4 l)) p).2.2=true:=fun p hp=>by unfold okS at hok;rw[List.all_eq_true]at hok;exact hok p hp
     rw[hnn];obtain⟨us,hus'⟩:∃us,us=tkK l (A4 l):=⟨_,rfl⟩;rw[←hus']at hcm hus hvt hokp heg ⊢;have hcom:=fun p (hp:p∈j7 g s)=>a9L N (vfS g s us) p (cmD (vfS g s us) p) (hcm p hp (hokp p hp)).d0 (hcm p hp (hokp p hp)).d1 (by have:=h5 p hp;omega) (by omega) (fun k hk=>⟨by have:=G4 hp hk;omega,((hcm p hp (hokp p hp)).den k hk).1,((hcm p hp (hokp p hp)).den k hk).2.2,(hvt k (by have:=G4 hp hk;omega)).2.2⟩);have gVS:=fun k (hk:k<N)=>Q5 (vf:=vfS g s us) hk;have gFS:=fun i (hi:i<g.Feeds.length)=>V4 (fs:=flA g s (vfS g s us)) (k:=i) (by simp[flA];omega);have hFF:=fun i (hi:i<g.Feeds.length)=>b4h (g:=g) (s:=s) (vf:=vfS g s us) hi;obtain⟨vf,hvf⟩:∃vf,vf=vfS g s us:=⟨_,rfl⟩;rw[←hvf]at hcm hcom gVS gFS hFF hvt ⊢;generalize vlA N vf=VS at gVS hcom ⊢;generalize flA g s vf=FS at gFS hFF ⊢;have hpl:=M3 g s;have hltp:=fun p (hp:p∈j7 g s) k (hk:k∈p)=>G4 hp hk;have hndp:=fun p (hp:p∈j7 g s)=>a0z hp;have hclp:=fun p (hp:p∈j7 g s)=>(P0 hnt hp (by have:=h5 p hp;omega)).cl;rw[hnn]at hltp;have hfd:=fun p (hp:p∈j7 g s)=>a0x g s (upN p) hnt.sf (by have:=h5 p hp;have:=o9 p;omega) (by omega);have hok':=hokp;have h5':=h5;have hpm':∀p∈j7 g s,p∈j7 g s:=fun _ h=>h;generalize j7 g s=L at hcm hcom hpl hltp hndp hclp hfd hok' h5' hel heg ⊢;have hVS1:=hVl;refine f5 ?_;simp only[zT,reduceIte,Nat.reduceEqDiff];refine hK4 _ _ ?_;refine b7 [3,4,7,10,12] ?_;simp only[zP,Nat.reduceEqDiff,reduceIte];refine b8 fun K5 hK5=>?_;refine aS fun K hK=>?_;simp -dsimp;apply hK;clear hK K;refine e8 ?_;refine b7 [3,4,7,10,12,13] ?_;simp only[zP,Nat.reduceEqDiff,reduceIte];refine i4 [3,4,7,10,12] (α:=Nat) (fun i=>[(13,I i)]) (fun i=>[some (.els 4 [g.cells]),some (.els 2 [s.cells])]) (fun i=>i≤L.length) (fun i=>L.length-i) 0 ?_ ?_ ?_
     ·exact Nat.zero_le _
     ·exact e9 [some 0,some 1] rfl (by simp) (by simp)
     rintro i i1;simp only[zP,Nat.reduceEqDiff,reduceIte];refine b8 fun K6 hK6=>?_;refine aS fun K hK=>?_;simp -dsimp;apply hK;clear hK K;refine d8 rfl (fun hc3=>?_) (fun hc3=>?_)
     ·have hil:i<L.length:=by simpa using hc3
      have wi:=zW i (by omega);obtain⟨p,hp⟩:∃p,L[i]?=some p:=⟨_,List.getElem?_eq_getElem hil⟩;have hpm:=List.mem_of_getElem? hp;have hul:=o9 p;have hp5:=h5' p hpm;have hcmp:=hcom p hpm;have hC:=hcm p hpm (hok' p hpm);have hlt:=hltp p hpm;have hcl:=hclp p hpm;have hfdp:=hfd p hpm;have he:=heg i p hp;have hcN:∀k,cmN vf (cmD vf p) k=(vf k).Num*(cmD vf p/ (vf k).Den):=fun _=>rfl;generalize hdd:cmD vf p=d at hcmp hC hcN;generalize hnn':cmN vf d=n at hC hcN;obtain⟨d0,d1,hden,hnb,-,-,-,hene,hsame⟩:=hC;have hF12:=a9R hnt (p:=p) rfl;have hfa:=fun b (hb:b<(k8 g s (upN p)).length)=>C9 hnt (p:=p) rfl hb;have hfm:=fun f (hf:f∈k8 g s (upN p))=>H6 hf;generalize k8 g s (upN p)=F at hfdp hF12 hfa hfm hene hsame;have hfb:∀f∈F,1≤(fdI g f).Volts∧(fdI g f).Volts≤1000∧1≤(fdI g f).Siem∧(fdI g f).Siem≤4:=fun f hf=>by obtain⟨b,hb⟩:=List.getElem?_of_mem hf;have h1:=hfa b (List.getElem?_eq_some_iff.1 hb).1;rw[J4 hb]at h1;exact⟨h1.2.2.2.2.2.2.1,h1.2.2.2.2.2.2.2⟩
      have hWs:∀w∈onW g.Wires s.Wires,0<w.s∧w.s≤4:=fun w hw=>by
       obtain⟨v,hv,rfl⟩:=V6 hw;have h1:=hnt.wires v hv;simp only[wrB,Bool.and_eq_true,t4]at h1;simp only;omega
      obtain⟨Ee,hEe⟩:∃Ee,Ee=enG g F n d+enR us n p-enT us n p:=⟨_,rfl⟩;have hLo:(enP g s us p).Lost=red Ee d:=by rw[hsame,hEe];rfl
      rw[←hEe]at hene;have hE0:0≤Ee:=by
       have h1:=c1a (p:=p) (x:=n) (fun w hw=>(hWs w hw).1);have h2:=b6S (g:=g) (n:=n) (d:=d) (F:=F) (fun f hf=>(hfb f hf).2.2.1);refine Int.not_lt.1 fun hn=>?_;have:=Int.mul_neg_of_pos_of_neg d0 hn;omega
      have hEb:Ee≤1000000000000000000:=by
       have hXn:∀k:Nat,((fun k=>if k∈p then n k else 0:Nat→Int) k).natAbs≤7000000000000:=fun k=>by
        by_cases h:k∈p
        ·simp only[if_pos h];exact hnb k h
        ·simp only[if_neg h];decide
       have e1:enG g F n d=enG g F (fun k=>if k∈p then n k else 0) d:=by
        have:=a4Q (c:=1) (c':=1) (l:=F) (h:=fun f=>(fdI g f).Volts*((fdI g f).Siem*mx0 ((fdI g f).Volts*d-n (fdI g f).At.toNat))) (h':=fun f=>(fdI g f).Volts*((fdI g f).Siem*mx0 ((fdI g f).Volts*d-(fun k=>if k∈p then n k else 0) (fdI g f).At.toNat))) (fun f hf=>by simp only;rw[if_pos (hfm f hf).2.2.1]);rw[Int.mul_one,Int.mul_one]at this;exact this
       have e2:enT us n p=enT us (fun k=>if k∈p then n k else 0) p:=i8 fun k hk=>by simp only;rw[if_pos hk]
       have e3:enR us n p=enR us (fun k=>if k∈p then n k else 0) p:=i8 fun k hk=>by simp only;rw[if_pos hk]
       have b1:=b4j (g:=g) (F:=F) (X:=fun k=>if k∈p then n k else 0) (d:=d) hfb hXn d0 d1;have b2:=b6X (us:=us) (p:=p) (X:=fun k=>if k∈p then n k else 0) hXn hus;have b3:=b7j (us:=us) (p:=p) (X:=fun k=>if k∈p then n k else 0) hXn hus;rw[←e1]at b1;rw[←e2]at b2;rw[←e3]at b3;omega
      obtain⟨v1,v2⟩:=b6T (n:=Ee) (k:=1) d0 (by decide);rw[Int.mul_one]at v1 v2;rw[Int.mul_one]at v2;have v0:=(a1j (n:=Ee) d0).1;have v3:0≤(red Ee d).Num:=by unfold red;exact Int.ediv_nonneg hE0 (by omega)
      rw[←hLo]at v0 v1 v2 v3;generalize enP g s us p=e at he v0 v1 v2 v3;have r1:d.tmod e.Lost.Den=0:=by rw[Int.tmod_eq_emod_of_nonneg (by omega)];exact Int.emod_eq_zero_of_dvd v1
      have r2:d.tdiv e.Lost.Den=d/e.Lost.Den:=Int.tdiv_eq_ediv_of_nonneg (by omega);have r3:=Int.ediv_nonneg (show 0≤d by omega) (show 0≤e.Lost.Den by omega);have r4:=Int.ediv_le_self e.Lost.Den (show 0≤d by omega);have r5:IntKind.i64.wrap (d/e.Lost.Den)=d/e.Lost.Den:=f7 (by omega) (by omega);have r6:IntKind.i64.wrap (e.Lost.Num*(d/e.Lost.Den))=Ee:=by rw[v2];exact f7 (by omega) (by omega)
      have r7:¬e.Lost.Den=0:=by omega
      have r8:¬e.Lost.Den<1:=by omega
      have r9:¬e.Lost.Num<0:=by omega
      refine f5 ?_;simp only[zT,reduceIte,Nat.reduceEqDiff];refine hK6 _ _ ?_;refine b7 [3,4,7,10,12,13] ?_;simp only[zP,Nat.reduceEqDiff,reduceIte];refine b8 fun K7 hK7=>?_;refine e8 ?_;refine aS fun K hK=>?_;simp -dsimp [hp,pAV];refine d5 _ (hcmp) (by simp) ?_;simp -dsimp [hp,pAV];apply hK;clear hK K;refine b8 fun K8 hK8=>?_;refine aS fun K hK=>?_;simp -dsimp [r1,r7,r8,r9];refine l3 (e.cells) (fun _=>by simp[he]) ?_;simp -dsimp [r1,r7,r8,r9];refine l3 (e.cells) (fun _=>by simp[he]) ?_;simp -dsimp [r1,r7,r8,r9];refine l3 (e.cells) (fun _=>by simp[he]) ?_;simp -dsimp [r1,r7,r8,r9];apply hK;clear hK K;refine d8 rfl (fun hc4=>?_) (fun hc4=>?_)
      ·simp at hc4
      ·obtain⟨fw,hfw⟩:∃fw:Nat→Int,fw=fun k=>ws p n (onW (g.Wires.take k) (s.Wires.take k)):=⟨_,rfl⟩;have hfw0:fw 0=0:=by rw[hfw];rfl
       have wr0:IntKind.i64.wrap 0=0:=f7 (by decide) (by decide);refine f5 ?_;simp only[zT,reduceIte,Nat.reduceEqDiff];refine hK8 _ _ ?_;refine b7 [3,4,7,10,12,13,14] ?_;simp only[zP,Nat.reduceEqDiff,reduceIte];refine aS fun K hK=>?_;simp -dsimp;apply hK;clear hK K;refine b8 fun K9 hK9=>?_;refine aS fun K hK=>?_;simp -dsimp;apply hK;clear hK K;refine e8 ?_;refine b7 [3,4,7,10,12,13,14,16,17] ?_;simp only[zP,Nat.reduceEqDiff,reduceIte];refine i4 [3,4,7,10,12,13,14] (α:=Nat) (fun k=>[(16,I (IntKind.i64.wrap (fw k))),(17,I k)]) (fun k=>[some (.els 4 [g.cells]),some (.els 2 [s.cells])]) (fun k=>k≤g.Wires.length) (fun k=>g.Wires.length-k) 0 ?_ ?_ ?_
       ·exact Nat.zero_le _
       ·exact e9 [some 0,some 1] rfl (by simp[hfw0,wr0]) (by simp)
       rintro k k1;simp only[zP,Nat.reduceEqDiff,reduceIte];refine b8 fun K10 hK10=>?_;refine aS fun K hK=>?_;simp -dsimp;apply hK;clear hK K;refine d8 rfl (fun hc5=>?_) (fun hc5=>?_)
       ·have hkl:k<g.Wires.length:=by simpa using hc5
        have wk:=zW k (by omega);obtain⟨w,hw⟩:∃w,g.Wires[k]?=some w:=⟨_,List.getElem?_eq_getElem hkl⟩;have gb:=v9 (l:=s.Wires) (k:=k) (by have:=hnt.sw;omega);have hos:=b1u hw gb;have hwb:=hnt.wires w (List.mem_of_getElem? hw);simp only[wrB,Bool.and_eq_true,t4,Bool.not_eq_true',decide_eq_false_iff_not]at hwb;obtain⟨a,ha⟩:∃a:Nat,w.A=a:=⟨w.A.toNat,by omega⟩;obtain⟨b,hb⟩:∃b:Nat,w.B=b:=⟨w.B.toNat,by omega⟩;have hat:w.A.toNat=a:=by omega
        have hbt:w.B.toNat=b:=by omega
        rw[hat,hbt]at hos;have hfwn:fw (k+1)=fw k+if bAt s.Wires k=true∧a∈p then w.Siem*(n a-n b)*(n a-n b)else 0:=by
         rw[hfw];simp only;rw[hos,a6i]
         congr 1
         cases bAt s.Wires k with
         |false=>simp[ws]
         |true=>by_cases hap:a∈p<;>simp[ws,hap]
        have hhold:=a8v (upN p) w.A (by omega);have hhd:decide (w.A∈upN p)=decide (a∈p):=decide_eq_decide.2 (by rw[V5,hat];exact⟨fun h=>h.2,fun h=>⟨by omega,h⟩⟩);rw[hhd]at hhold;refine f5 ?_;simp only[zT,reduceIte,Nat.reduceEqDiff];refine hK10 _ _ ?_;refine b7 [3,4,7,10,12,13,14,16,17] ?_;simp only[zP,Nat.reduceEqDiff,reduceIte];refine b8 fun K11 hK11=>?_;refine e8 ?_;refine aS fun K hK=>?_;simp -dsimp [hw];apply hK;clear hK K;refine s9 l9 rfl fun K hK=>?_;simp -dsimp [gb];refine l3 ([iL (upN p)]) (fun _=>by simp[hp,pAV]) ?_;simp -dsimp [gb];refine g8 _ (fun hm=>hhold) (by simp) ?_;simp -dsimp [gb];refine hK _ _ _ (by decide+kernel) ?_;clear hK K;refine d8 rfl (fun hc6=>?_) (fun hc6=>?_)
        ·have hca:bAt s.Wires k=true∧a∈p:=by simpa using hc6
         have hap:=hca.2;have hbp:b∈p:=by
          have h1:=hcl _ (b6Z hw (by rw[gb,hca.1]));simp only[hat,hbt]at h1;exact h1.1 hap
         have han:=hlt a hap;have hbn:=hlt b hbp;have gva:=gVS a han;have gvb:=gVS b hbn;have nba:=hnb a hap;have nbb:=hnb b hbp;rw[if_pos hca]at hfwn;have qa:=hden a hap;have qb:=hden b hbp;have ca:=hcN a;have cb:=hcN b;have s1:d.tdiv (vf a).Den=d/ (vf a).Den:=Int.tdiv_eq_ediv_of_nonneg (by omega);have s2:d.tdiv (vf b).Den=d/ (vf b).Den:=Int.tdiv_eq_ediv_of_nonneg (by omega);have s3:¬(vf a).Den=0:=by omega
         have s4:¬(vf b).Den=0:=by omega
         have s5:=Int.ediv_nonneg (show 0≤d by omega) (show 0≤(vf a).Den by omega);have s6:=Int.ediv_le_self (vf a).Den (show 0≤d by omega);have s7:=Int.ediv_nonneg (show 0≤d by omega) (show 0≤(vf b).Den by omega);have s8:=Int.ediv_le_self (vf b).Den (show 0≤d by omega);have x1:IntKind.i64.wrap (d/ (vf a).Den)=d/ (vf a).Den:=f7 (by omega) (by omega);have x2:IntKind.i64.wrap (d/ (vf b).Den)=d/ (vf b).Den:=f7 (by omega) (by omega);have x3:IntKind.i64.wrap ((vf a).Num*(d/ (vf a).Den))=n a:=by rw[←ca];exact f7 (by omega) (by omega)
         have x4:IntKind.i64.wrap ((vf b).Num*(d/ (vf b).Den))=n b:=by rw[←cb];exact f7 (by omega) (by omega)
         have x5:IntKind.i64.wrap (n a-n b)=n a-n b:=f7 (by omega) (by omega);generalize hby:n a-n b=by_ at hfwn x5;have hS:w.Siem=1∨w.Siem=2∨w.Siem=3∨w.Siem=4:=by omega
         have x6:IntKind.i64.wrap (w.Siem*by_)=w.Siem*by_:=by rcases hS with h|h|h|h<;>rw[h]<;>exact f7 (by omega) (by omega)
         have x7:IntKind.i64.wrap (IntKind.i64.wrap (fw k)+IntKind.i64.wrap (w.Siem*by_*by_))=IntKind.i64.wrap (fw (k+1)):=by
          rw[hfwn];exact(a9j _ _).trans (a7z _ _)
         refine s9 l9 rfl fun K hK=>?_;simp -dsimp [ha,hb,gva,gvb,s1,s2,s3,s4,x1,x2,x3,x4,hby,x5];refine hK _ _ _ (by decide+kernel) ?_;clear hK K;refine aR fun K hK=>?_;simp -dsimp [x6,x7];apply hK;clear hK K;simp only[zT,reduceIte,Nat.reduceEqDiff];refine hK11 _ _ ?_;refine b7 [3,4,7,10,12,13,14,16,17] ?_;simp only[zP,Nat.reduceEqDiff,reduceIte];refine aR fun K hK=>?_;simp -dsimp [wk];apply hK;clear hK K;simp only[zT,reduceIte,Nat.reduceEqDiff];exact⟨k+1,by omega,by omega,e9 [some 0,some 1] rfl (by simp) (by simp)⟩
        ·refine f5 ?_;simp only[zT,reduceIte,Nat.reduceEqDiff];refine hK11 _ _ ?_;refine b7 [3,4,7,10,12,13,14,16,17] ?_;simp only[zP,Nat.reduceEqDiff,reduceIte];refine aR fun K hK=>?_;simp -dsimp [wk];apply hK;clear hK K;simp only[zT,reduceIte,Nat.reduceEqDiff];have hca:¬(bAt s.Wires k=true∧a∈p):=by intro h;simp[h.1,h.2]at hc6
         rw[if_neg hca,Int.add_zero]at hfwn;exact⟨k+1,by omega,by omega,e9 [some 0,some 1] rfl (by simp[hfwn]) (by simp)⟩
       ·have hke:¬k<g.Wires.length:=by simpa using hc5
        have hfe:fw k=ws p n (onW g.Wires s.Wires):=by rw[hfw];simp only;rw[List.take_of_length_le (by omega),List.take_of_length_le (by have:=hnt.sw;omega)]
        rw[hfe];obtain⟨fl,hfl⟩:∃fl:Nat→Int,fl=fun k=>ws p n (onW g.Wires s.Wires)+fgl g n d (F.take k):=⟨_,rfl⟩;have hfl0:ws p n (onW g.Wires s.Wires)=fl 0:=by rw[hfl];simp[fgl,sF]
        have hflE:fl F.length=Ee*d:=by rw[hfl];simp only;rw[List.take_length,hene,Int.mul_comm]
        rw[hfl0];refine j8 ?_;simp only[zT,reduceIte,Nat.reduceEqDiff];refine hK9 _ _ ?_;refine b7 [3,4,7,10,12,13,14,16] ?_;simp only[zP,Nat.reduceEqDiff,reduceIte];refine s9 l9 rfl fun K hK=>?_;simp -dsimp [hp,pAV];refine d5 _ (hfdp) (by simp) ?_;simp -dsimp [hp,pAV];refine hK _ _ _ (by decide+kernel) ?_;clear hK K;refine b8 fun K12 hK12=>?_;refine aS fun K hK=>?_;simp -dsimp;apply hK;clear hK K;refine e8 ?_;refine b7 [3,4,7,10,12,13,14,16,20,21] ?_;simp only[zP,Nat.reduceEqDiff,reduceIte];refine i4 [3,4,7,10,12,13,14,20] (α:=Nat) (fun k=>[(16,I (IntKind.i64.wrap (fl k))),(21,I k)]) (fun k=>[some (.els 4 [g.cells]),some (.els 2 [s.cells])]) (fun k=>k≤F.length) (fun k=>F.length-k) 0 ?_ ?_ ?_
        ·exact Nat.zero_le _
        ·exact e9 [some 0,some 1] rfl (by simp) (by simp)
        rintro k k1;simp only[zP,Nat.reduceEqDiff,reduceIte];refine b8 fun K13 hK13=>?_;refine aS fun K hK=>?_;simp -dsimp;apply hK;clear hK K;refine d8 rfl (fun hc7=>?_) (fun hc7=>?_)
        ·have hkl:k<F.length:=by simpa using hc7
         have wk:=zW k (by omega);obtain⟨a1,a2,a3,a4,a5,a6,a7,a8,a9,a10⟩:=hfa k hkl;obtain⟨f,hfq⟩:∃f:Nat,at0 F (k:Nat)=f:=⟨(at0 F (k:Nat)).toNat,by omega⟩;rw[hfq]at a1 a2 a3 a4 a5 a6 a7 a8 a9 a10;rw[Int.toNat_natCast]at a4;have hfln:fl (k+1)=fl k+(fdI g (f:Int)).Siem*mx0 ((fdI g (f:Int)).Volts*d-n (fdI g (f:Int)).At.toNat)*mx0 ((fdI g (f:Int)).Volts*d-n (fdI g (f:Int)).At.toNat):=by rw[hfl];simp only;rw[b5a a1,Int.add_assoc]
         obtain⟨kA,hkA⟩:∃kA,kA=(fdI g (f:Int)).At.toNat:=⟨_,rfl⟩;have hAt:(fdI g (f:Int)).At=(kA:Int):=by omega
         rw[←hkA]at a6 hfln;have hkN:=hlt _ a6;have gv:=gVS kA hkN;have qa:=hden kA a6;have ca:=hcN kA;have nba:=hnb kA a6;have s1:d.tdiv (vf kA).Den=d/ (vf kA).Den:=Int.tdiv_eq_ediv_of_nonneg (by omega);have s3:¬(vf kA).Den=0:=by omega
         have s5:=Int.ediv_nonneg (show 0≤d by omega) (show 0≤(vf kA).Den by omega);have s6:=Int.ediv_le_self (vf kA).Den (show 0≤d by omega);have x1:IntKind.i64.wrap (d/ (vf kA).Den)=d/ (vf kA).Den:=f7 (by omega) (by omega);have x3:IntKind.i64.wrap ((vf kA).Num*(d/ (vf kA).Den))=n kA:=by rw[←ca];exact f7 (by omega) (by omega)
         have hvd:0≤(fdI g (f:Int)).Volts*d∧(fdI g (f:Int)).Volts*d≤2000000000000:=⟨Int.mul_nonneg (by omega) (by omega),Int.le_trans (Int.mul_le_mul a8 d1 (by omega) (by omega)) (by omega)⟩;have w1:IntKind.i64.wrap ((fdI g (f:Int)).Volts*d)=(fdI g (f:Int)).Volts*d:=f7 (by omega) (by omega);have w2:IntKind.i64.wrap ((fdI g (f:Int)).Volts*d-n kA)=(fdI g (f:Int)).Volts*d-n kA:=f7 (by omega) (by omega);have hm:(if n kA<(fdI g (f:Int)).Volts*d then(fdI g (f:Int)).Volts*d-n kA else 0)=mx0 ((fdI g (f:Int)).Volts*d-n kA):=by unfold mx0;split<;>split<;>omega
         have hmb:0≤mx0 ((fdI g (f:Int)).Volts*d-n kA)∧mx0 ((fdI g (f:Int)).Volts*d-n kA)≤10000000000000:=by unfold mx0;split<;>omega
         generalize mx0 ((fdI g (f:Int)).Volts*d-n kA)=by_ at hfln hm hmb;have x6:IntKind.i64.wrap ((fdI g (f:Int)).Siem*by_)=(fdI g (f:Int)).Siem*by_:=by rcases(by omega:(fdI g (f:Int)).Siem=1∨(fdI g (f:Int)).Siem=2∨(fdI g (f:Int)).Siem=3∨(fdI g (f:Int)).Siem=4)with h|h|h|h<;>rw[h]<;>exact f7 (by omega) (by omega)
         have x7:IntKind.i64.wrap (IntKind.i64.wrap (fl k)+IntKind.i64.wrap ((fdI g (f:Int)).Siem*by_*by_))=IntKind.i64.wrap (fl (k+1)):=by
          rw[hfln];exact(a9j _ _).trans (a7z _ _)
         refine f5 ?_;simp only[zT,reduceIte,Nat.reduceEqDiff];refine hK13 _ _ ?_;refine b7 [3,4,7,10,12,13,14,16,20,21] ?_;simp only[zP,Nat.reduceEqDiff,reduceIte];refine b8 fun K14 hK14=>?_;refine e8 ?_;refine s9 l9 rfl fun K hK=>?_;simp -dsimp [a1,a4];refine hK _ _ _ (by decide+kernel) ?_;clear hK K;refine s9 l9 rfl fun K hK=>?_;simp -dsimp [hAt,gv,s1,s3,x1,x3,w1,w2,hm];refine hK _ _ _ (by decide+kernel) ?_;clear hK K;refine aR fun K hK=>?_;simp -dsimp [x6,x7];apply hK;clear hK K;simp only[zT,reduceIte,Nat.reduceEqDiff];refine hK14 _ _ ?_;refine b7 [3,4,7,10,12,13,14,16,20,21] ?_;simp only[zP,Nat.reduceEqDiff,reduceIte];refine aR fun K hK=>?_;simp -dsimp [wk];apply hK;clear hK K;simp only[zT,reduceIte,Nat.reduceEqDiff];exact⟨k+1,by omega,by omega,e9 [some 0,some 1] rfl (by simp) (by simp)⟩
        ·have hkl:¬k<F.length:=by simpa using hc7
         have hkF:k=F.length:=by omega
         rw[hkF,hflE];refine j8 ?_;simp only[zT,reduceIte,Nat.reduceEqDiff];refine hK12 _ _ ?_;refine b7 [3,4,7,10,12,13,14,16] ?_;simp only[zP,Nat.reduceEqDiff,reduceIte];refine s9 l9 rfl fun K hK=>?_;simp -dsimp [he,r2,r5,r6,r7];refine hK _ _ _ (by decide+kernel) ?_;clear hK K;refine d8 rfl (fun hc8=>?_) (fun hc8=>?_)
         ·simp at hc8
         ·refine f5 ?_;simp only[zT,reduceIte,Nat.reduceEqDiff];refine hK7 _ _ ?_;refine b7 [3,4,7,10,12,13] ?_;simp only[zP,Nat.reduceEqDiff,reduceIte];refine aR fun K hK=>?_;simp -dsimp [wi];apply hK;clear hK K;simp only[zT,reduceIte,Nat.reduceEqDiff];exact⟨i+1,by omega,by omega,e9 [some 0,some 1] rfl (by simp) (by simp)⟩
     ·refine j8 ?_;simp only[zT,reduceIte,Nat.reduceEqDiff];refine hK5 _ _ ?_;refine b7 [] ?_;simp only[zP,Nat.reduceEqDiff,reduceIte];refine aS fun K hK=>?_;simp -dsimp;refine d5 _ (hk) (by simp) ?_;simp -dsimp;apply hK;clear hK K;exact g7 (by simp)
end Go.Cur
end
