import Derived.Test.YtibddmpaklcleaaL3
import Derived.Test.YtibddmpaklcleaaProg
set_option maxRecDepth 100000
set_option maxHeartbeats 8000000
set_option linter.unusedVariables false
set_option linter.unusedSimpArgs false
section
namespace Go.Cur
open Go.AM Go.Proofs
theorem d4.split {P : Program} {f : FuncId} {fn : Func} {c : Code} {x : AV} {rest : List AV} {res : AV} (hf : P.funcs[f]? = some fn) (hb : fn.body = some c) (hname : (fn.name == "runtime.NumGoroutine") = false)
  (h:∀(w:World) (S:Nat→Prop) (y:Value),q8 w S x y→∃x',q8 w S x' y∧d4 P f (x'::rest) res):d4 P f (x::rest) res:=by
 have hn' : ¬ fn.name = "runtime.NumGoroutine" := by simpa using hname
 have hcf:∀(w:World) (vs:Array Value),(callFunc f vs).run P w= .ok (.enter f vs) w:=fun w vs=>by simp[callFunc,hf,hn',hb]
 refine Or.inl ⟨hcf,?_⟩;intro S0 w vs hlow hl hrep
 match vs,hl with
 | y::vs,hl=>
  obtain⟨x',hx',hp⟩:=h w S0 y (hrep 0 x y rfl rfl);have hrep':∀(i:Nat) c z,(x'::rest)[i]?=some c→(y::vs)[i]?=some z→q8 w S0 c z:=by
   intro i c z h1 h2
   cases i with
   |zero=>simp only[List.getElem?_cons_zero,Option.some.injEq]at h1 h2;subst h1 h2;exact hx'
   |succ i=>exact hrep (i+1) c z (by simpa using h1) h2
  rcases hp with⟨_,h2⟩|h2
  ·exact h2 S0 w (y::vs) hlow (by simpa using hl) hrep'
  ·obtain⟨v,h3,_⟩:=h2 S0 w (y::vs) (by simpa using hl) hrep';rw[hcf]at h3;cases h3
theorem b2q (op:BinOp) (t:TypeId) (x y:Operand) (a b:Option Addr) (n c m d:Nat) (w:World):(eqGuard op t x y (.slice a n c) (.slice b m d)).run Try.prog w= .ok () w:=by
 cases op<;>simp[eqGuard]
theorem a6E (t e:TypeId) (hu:(Try.prog).underlying t=some (.slice e)) (a:Option Addr) (n c:Nat) (w:World):(binOp .eql t (.slice a n c) (.slice none 0 0)).run Try.prog w= .ok (.bool a.isNone) w:=by
 have hq:(Op.equal t (.slice a n c) (.slice none 0 0)).run Try.prog w= .ok a.isNone w:=by
  show(Op.equalIn (Op.maxDepth-1+1) t _ _).run _ w=_
  cases a<;>simp[Op.equalIn,run_underlying hu]
 simp[binOp,hq]
@[simp] theorem c2n:X5 Try.prog 42=true:=by kernel_rfl
@[simp] theorem c1W:X5 Try.prog 26=true:=by kernel_rfl
theorem b8E:(Try.prog).underlying 26=some (.slice 4):=by kernel_rfl
theorem b8d {w:World} {S:Nat→Prop} {sz:Nat} {y:Value} (h:q8 w S (.lst sz []) y):∃a cap,y= .slice a 0 cap:=by
 cases h with
 |lst _ _ b off cap=>exact⟨_,cap,rfl⟩
 |lstNil _ a cap=>exact⟨a,cap,rfl⟩
theorem b3j {w:World} {S:Nat→Prop} {sz:Nat} {y:Value} (h:q8 w S (.v (.slice none 0 0)) y):q8 w S (.lst sz []) y:=by
 cases h;exact .lstNil _ _ _
theorem b4K {w:World} {S:Nat→Prop} {sz:Nat} {y:Value} (h:q8 w S (.full sz []) y):q8 w S (.lst sz []) y:=by
 cases h;exact .lstNil _ _ _
theorem y9 (l:List Bool) (hn:l.length≤1000):d4 Try.prog 73 [.lst 1 (l.map i6)] (.lst 1 (l.map i6)):=by
 by_cases hne:l=[]
 ·subst hne;refine d4.split Try.func73 rfl (by decide) fun w S y hy=>?_;obtain⟨a,cap,rfl⟩:=b8d hy;refine⟨.v (.slice a 0 cap), .v _,?_⟩
  cases a with
  |none=>
   refine d4.res (res:= .v (.slice none 0 0)) ?_ fun w S y=>b3j;refine d4.of_body Try.func73 rfl (by decide) (by simp[Try.ntmps73]) ?_;simp only[Try.ntmps73,Try.results73];refine aS fun K hK=>?_;simp -dsimp;apply hK;clear hK K;refine b9 fun K1 hK1=>?_;refine aS fun K hK=>?_;simp -dsimp;apply hK;clear hK K;refine d9 rfl (fun hc0=>?_) (fun hc0=>?_)
   ·refine aS fun K hK=>?_;simp -dsimp;apply hK;clear hK K;exact f7 (by simp)
   ·simp at hc0
  |some a=>
   refine d4.res (res:= .full 1 []) ?_ fun w S y=>b4K;refine d4.of_body Try.func73 rfl (by decide) (by simp[Try.ntmps73]) ?_;simp only[Try.ntmps73,Try.results73];refine aS fun K hK=>?_;simp -dsimp;apply hK;clear hK K;refine b9 fun K1 hK1=>?_;refine aS fun K hK=>?_;simp -dsimp;refine⟨fun w=>b2q _ _ _ _ _ _ _ _ _ _ w,_,fun w=>a6E _ _ b8E _ _ _ w,?_⟩;simp -dsimp;apply hK;clear hK K;refine d9 rfl (fun hc0=>?_) (fun hc0=>?_)
   ·simp at hc0
   ·refine e8 ?_;simp only[zT,reduceIte,Nat.reduceEqDiff];refine hK1 _ _ ?_;refine b7 [0] ?_;simp only[zP,Nat.reduceEqDiff,reduceIte];refine aS fun K hK=>?_;simp -dsimp;apply hK;clear hK K;exact f7 (by simp)
 ·have f1:D8 l.length 2:=j7 (by omega) (by omega);refine d4.of_body Try.func73 rfl (by decide) (by simp[Try.ntmps73]) ?_;simp only[Try.ntmps73,Try.results73];refine aS fun K hK=>?_;simp -dsimp;apply hK;clear hK K;refine b9 fun K1 hK1=>?_;refine aS fun K hK=>?_;simp -dsimp [hne];apply hK;clear hK K;refine d9 rfl (fun hc0=>?_) (fun hc0=>?_)
  ·simp at hc0
  ·refine e8 ?_;simp only[zT,reduceIte,Nat.reduceEqDiff];refine hK1 _ _ ?_;refine b7 [0] ?_;simp only[zP,Nat.reduceEqDiff,reduceIte];refine aS fun K hK=>?_;simp -dsimp [hne,f1];apply hK;clear hK K;exact f7 (by simp)
theorem a4C (l:List Int) (x:Int) (hn:l.length≤100000):d4 Try.prog 71 [iL l,I x] (I (J3 l fun y=>decide (x=y))):=by
 refine d4.of_body Try.func71 rfl (by decide) (by simp[Try.ntmps71]) ?_;simp only[Try.ntmps71,Try.results71];refine aS fun K hK=>?_;simp -dsimp;apply hK;clear hK K;refine b9 fun K1 hK1=>?_;refine aS fun K hK=>?_;simp -dsimp;apply hK;clear hK K;refine e7 ?_;refine b7 [0,1,7,8] ?_;simp only[zP,Nat.reduceEqDiff,reduceIte];refine g7 [0,1,7] (α:=Nat) (fun k=>[(8,I k)]) (fun _=>[]) (fun k=>k≤l.length∧(l.take k).any (fun y=>decide (x=y))=false) (fun k=>l.length-k) 0 ?_ ?_ ?_
 ·simp
 ·exact i7 (by simp)
 rintro k ⟨k1,k2⟩;simp only[zP,Nat.reduceEqDiff,reduceIte];refine aS fun K hK=>?_;simp -dsimp;apply hK;clear hK K;refine b9 fun K2 hK2=>?_;refine d9 rfl (fun hc0=>?_) (fun hc0=>?_)
 ·skip
  try simp at hc0
  obtain⟨y,hx⟩:∃y,l[k]?=some y:=⟨_,List.getElem?_eq_getElem hc0⟩;have wk:=zW k (by omega);refine e8 ?_;simp only[zT,reduceIte,Nat.reduceEqDiff];refine hK2 _ _ ?_;refine b7 [0,1,7,8] ?_;simp only[zP,Nat.reduceEqDiff,reduceIte];refine b9 fun K3 hK3=>?_;refine e7 ?_;refine aS fun K hK=>?_;simp -dsimp;apply hK;clear hK K;refine aS fun K hK=>?_;simp -dsimp [hx];apply hK;clear hK K;refine d9 rfl (fun hc1=>?_) (fun hc1=>?_)
  ·simp only[a6T]at hc1;refine aS fun K hK=>?_;simp -dsimp;apply hK;clear hK K;exact f7 (by simp[a0d hx hc1 k2])
  ·simp only[a6T]at hc1;refine e8 ?_;simp only[zT,reduceIte,Nat.reduceEqDiff];refine hK3 _ _ ?_;refine b7 [0,1,7,8] ?_;simp only[zP,Nat.reduceEqDiff,reduceIte];refine aR fun K hK=>?_;simp -dsimp [wk];apply hK;clear hK K;simp only[zT,reduceIte,Nat.reduceEqDiff];exact⟨k+1,⟨by omega,by rw[b5F hx,k2,hc1];rfl⟩,by omega,i7 (by simp)⟩
 ·skip
  try simp at hc0
  have hall:=a8c (by omega) k2;refine j0 ?_;simp only[zT,reduceIte,Nat.reduceEqDiff];refine hK1 _ _ ?_;refine b7 [] ?_;simp only[zP,Nat.reduceEqDiff,reduceIte];refine aS fun K hK=>?_;simp -dsimp;apply hK;clear hK K;exact f7 (by simp[L8 hall])
theorem b6B (l:List Int) (x:Int):l.any (fun y=>decide (x=y))=decide (x∈l):=by
 rw[Bool.eq_iff_iff];simp
theorem a3K (l:List Int) (x:Int) (hn:l.length≤100000):d4 Try.prog 91 [iL l,I x] (Bo (decide (x∈l))):=by
 refine d4.of_body Try.func91 rfl (by decide) (by simp[Try.ntmps91]) ?_;simp only[Try.ntmps91,Try.results91];refine aS fun K hK=>?_;simp -dsimp;apply hK;clear hK K;refine aS fun K hK=>?_;simp -dsimp;refine b8 _ (a4C l x hn) (by simp) ?_;simp -dsimp;apply hK;clear hK K;exact f7 (by simp[a5Z,b6B])
theorem b1l (a:Int):d4 Try.prog 121 [I a] (Bo false):=by
 refine d4.of_body Try.func121 rfl (by decide) (by simp[Try.ntmps121]) ?_;simp only[Try.ntmps121,Try.results121];refine aS fun K hK=>?_;simp -dsimp;apply hK;clear hK K;refine aS fun K hK=>?_;simp -dsimp;apply hK;clear hK K;exact f7 (by simp)
theorem b6D (a b:Int):d4 Try.prog 110 [I a,I b] (Bo (decide (a<b))):=by
 refine d4.of_body Try.func110 rfl (by decide) (by simp[Try.ntmps110]) ?_;simp only[Try.ntmps110,Try.results110];refine aS fun K hK=>?_;simp -dsimp;apply hK;clear hK K;refine aS fun K hK=>?_;simp -dsimp;refine b8 _ (b1l a) (by simp) ?_;simp -dsimp;refine g6 _ (fun hm=>b1l b) (by simp) ?_;simp -dsimp;apply hK;clear hK K;exact f7 (by simp)
def ins (x:Int):List Int→List Int
 |[]=>[x]
 |y::l=>if x<y then x::y::l else y::ins x l
def srt (l:List Int):List Int:=l.foldl (fun s x=>ins x s) []
theorem b0X (x:Int):∀l,(ins x l).length=l.length+1
 |[]=>rfl
 |y::l=>by
  simp only[ins]
  split
  ·rfl
  ·simp[b0X x l]
theorem b1H (x z:Int):∀l,z∈ins x l↔z=x∨z∈l
 |[]=>by simp[ins]
 | y::l=>by
  simp only[ins]
  split
  ·simp
  ·simp only[List.mem_cons,b1H x z l];constructor
   ·rintro(h|h|h)<;>simp[h]
   ·rintro(h|h|h)<;>simp[h]
theorem a3y (x:Int):∀l:List Int,l.Pairwise (· ≤ ·)→(ins x l).Pairwise (· ≤ ·)
 |[],_=>by simp[ins]
 | y::l,h=>by
  rw[List.pairwise_cons]at h;simp only[ins]
  split
  ·rename_i hx;rw[List.pairwise_cons,List.pairwise_cons];refine⟨fun z hz=>?_,h⟩
   rcases List.mem_cons.1 hz with rfl|hz
   ·omega
   ·have:=h.1 z hz;omega
  ·rename_i hx;rw[List.pairwise_cons];refine⟨fun z hz=>?_,a3y x l h.2⟩
   rcases(b1H x z l).1 hz with rfl|hz
   ·omega
   ·exact h.1 z hz
theorem a2r (x:Int) (B:List Int) (hB:∀y∈B,x<y):∀A:List Int,(∀y∈A,y≤x)→ins x (A++B)=A++x::B
 |[],_=>by
  cases B with
  |nil=>rfl
  |cons y B=>simp only[List.nil_append,ins];rw[if_pos (hB y (by simp))]
 |a::A,h=>by
  simp only[List.cons_append,ins];rw[if_neg (by have:=h a (by simp);omega),a2r x B hB A fun y hy=>h y (by simp[hy])]
theorem b5i {l:List Int} {i:Nat} {x:Int} (h:l[i]?=some x):srt (l.take (i+1))=ins x (srt (l.take i)):=by
 rw[List.take_add_one,h];simp[srt]
theorem b8g (l:List Int):(srt l).length=l.length:=by
 have gen:∀(l s:List Int),(l.foldl (fun s x=>ins x s) s).length=s.length+l.length:=by
  intro l
  induction l with
  |nil=>simp
  |cons x l ih=>intro s;rw[List.foldl_cons,ih,b0X];simp;omega
 have:=gen l [];simpa [srt]using this
theorem a3J (l:List Int):(srt l).Pairwise (· ≤ ·):=by
 have gen:∀(l s:List Int),s.Pairwise (· ≤ ·)→(l.foldl (fun s x=>ins x s) s).Pairwise (· ≤ ·):=by
  intro l
  induction l with
  |nil=>intro s h;exact h
  |cons x l ih=>intro s h;exact ih _ (a3y x s h)
 exact gen l [] List.Pairwise.nil
theorem b9H {L:List Int} (h:L.Pairwise (· ≤ ·)) {j:Nat} {y:Int} (hy:L[j]?=some y):∀a∈L.take (j+1),a≤y:=by
 intro a ha;obtain⟨hj,he⟩:=List.getElem?_eq_some_iff.1 hy;rw[List.take_add_one,hy]at ha
 rcases List.mem_append.1 ha with ha|ha
 ·have hs:L=L.take j++y::L.drop (j+1):=by rw[←he,List.getElem_cons_drop,List.take_append_drop]
  rw[hs,List.pairwise_append]at h;exact h.2.2 a ha y (by simp)
 ·simp at ha;omega
def a7b (L:List Int) (x:Int) (R:List Int) (j:Nat):List Int:=L.take j++x::(L.drop j++R)
theorem a7o {L:List Int} {x:Int} {R:List Int} {j:Nat} (h:j≤L.length):(a7b L x R j)[j]?=some x:=by
 unfold a7b;rw[List.getElem?_append_right (by simp;omega)];simp[Nat.min_eq_left h]
theorem a7Q {L:List Int} {x y:Int} {R:List Int} {j:Nat} (h:L[j]?=some y):(a7b L x R (j+1))[j]?=some y:=by
 have hj:=(List.getElem?_eq_some_iff.1 h).1;unfold a7b;rw[List.getElem?_append_left (by simp;omega),List.getElem?_take];simp[h]
theorem b3e {L:List Int} {x y:Int} {R:List Int} {j:Nat} (h:L[j]?=some y):((a7b L x R (j+1)).set (j+1) y).set j x=a7b L x R j:=by
 obtain⟨hj,hy⟩:=List.getElem?_eq_some_iff.1 h;have h1:L.take (j+1)=L.take j++[y]:=by rw[List.take_add_one,h];rfl
 have h2:L.drop j=y::L.drop (j+1):=by rw[List.drop_eq_getElem_cons hj,hy]
 have hl:(L.take j).length=j:=by rw[List.length_take];omega
 unfold a7b;rw[h1,h2,List.append_assoc,List.set_append,if_neg (by omega),List.set_append,if_neg (by omega),hl];simp
theorem b9i (xs:List Int) (h1:1≤xs.length) (hn:xs.length≤1000):e9 Try.prog 104 [.row 0 0 xs.length,I 0,I xs.length] [some (.els 1 (xs.map i4))] [] (.tup []) [some (.els 1 ((srt xs).map i4))] []:=by
 have w01:IntKind.i64.wrap 1=1:=f6 (by omega) (by omega);have wm1:IntKind.i64.wrap (-1)=-1:=f6 (by omega) (by omega);refine e9.of_bodyG [0] Try.func104 rfl (by decide) (by simp[Try.ntmps104]) rfl rfl ?_;intro J hJ;simp only[Try.ntmps104,Try.results104];refine gS fun K hK=>?_;simp -dsimp [w01];apply hK;clear hK K;refine d5 ?_;refine b5 [0,1,2,6] (Or.inr (by simp)) ?_;simp only[zP,Nat.reduceEqDiff,reduceIte];refine f5 [0,1,2] (α:=Nat) (fun i=>[(6,I i)]) (fun i=>[some (.els 1 ((srt (xs.take i)++xs.drop i).map i4))]) (fun i=>1≤i∧i≤xs.length) (fun i=>xs.length-i) 1 ?_ ?_ ?_
 ·exact⟨Nat.le_refl _,h1⟩
 ·refine l9 (d8 [some 0] rfl (by simp) ?_) (by simp);obtain⟨x,l,rfl⟩:∃x l,xs=x::l:=by cases xs with|nil=>simp at h1|cons x l=>exact⟨x,l,rfl⟩
  simp[srt,ins]
 rintro i ⟨i1,i2⟩;simp only[zP,Nat.reduceEqDiff,reduceIte];refine b6 fun K1 hK1=>?_;refine gS fun K hK=>?_;simp -dsimp;apply hK;clear hK K;refine d6 rfl (fun hc0=>?_) (fun hc0=>?_)
 ·skip
  try simp at hc0
  have wi:=zW i (by omega);obtain⟨x,hx⟩:∃x,xs[i]?=some x:=⟨_,List.getElem?_eq_getElem hc0⟩;obtain⟨hxi,hxe⟩:=List.getElem?_eq_some_iff.1 hx;have hdr:xs.drop i=x::xs.drop (i+1):=by rw[List.drop_eq_getElem_cons hxi,hxe]
  have hdm:(xs.map i4).drop i=[I x]::(xs.drop (i+1)).map i4:=by rw[←List.map_drop,hdr];rfl
  have hst:=b5i hx;have hsl:(srt (xs.take i)).length=i:=by rw[b8g,List.length_take];omega
  have hso:=a3J (xs.take i);generalize srt (xs.take i)=L at hst hsl hso ⊢;generalize hR:xs.drop (i+1)=R at hdr hdm ⊢;have hRl:R.length=xs.length-(i+1):=by rw[←hR,List.length_drop]
  refine d7 ?_;simp only[zT,reduceIte,Nat.reduceEqDiff];refine hK1 _ _ ?_;refine b5 [0,1,2,6] (Or.inr (by simp)) ?_;simp only[zP,Nat.reduceEqDiff,reduceIte];refine b6 fun K2 hK2=>?_;refine d5 ?_;refine gS fun K hK=>?_;simp -dsimp;apply hK;clear hK K;refine d5 ?_;refine b5 [0,1,2,6,7] (Or.inr (by simp)) ?_;simp only[zP,Nat.reduceEqDiff,reduceIte];refine f5 [0,1,2,6] (α:=Nat) (fun j=>[(7,I j)]) (fun j=>[some (.els 1 ((a7b L x R j).map i4))]) (fun j=>j≤i∧∀y∈L.drop j,x<y) (fun j=>j) i ?_ ?_ ?_
  ·exact⟨Nat.le_refl _,by rw[List.drop_of_length_le (by omega)];simp⟩
  ·refine l9 (d8 [some 0] rfl (by simp) ?_) (by simp);simp[a7b,hdm,List.take_of_length_le (show L.length≤i by omega),List.drop_of_length_le (show L.length≤i by omega)]
  rintro j ⟨j1,j2⟩
  rcases j with _|j
  rotate_left
  obtain⟨y,hy⟩:∃y,L[j]?=some y:=⟨_,List.getElem?_eq_getElem (by omega)⟩;have gj:=a7o (L:=L) (x:=x) (R:=R) (j:=j+1) (by omega);have gb:=a7Q (x:=x) (R:=R) hy;have wj:IntKind.i64.wrap (j:Int)=j:=f6 (by omega) (by omega);have hj1:j+1<xs.length:=by omega
  have hj0:j<xs.length:=by omega
  have hdj:L.drop j=y::L.drop (j+1):=by obtain⟨hh,he⟩:=List.getElem?_eq_some_iff.1 hy;rw[List.drop_eq_getElem_cons hh,he]
  rotate_left
  ·simp only[zP,Nat.reduceEqDiff,reduceIte];refine b6 fun K3 hK3=>?_;refine q9 k7 rfl (by decide) rfl rfl fun K hK=>?_;simp -dsimp [a7o (L:=L) (x:=x) (R:=R) (Nat.zero_le _),wm1];refine g6 _ (fun hm=>b6D x x) (by simp) ?_;simp -dsimp [a7o (L:=L) (x:=x) (R:=R) (Nat.zero_le _),wm1];refine hK _ _ _ (by decide+kernel) ?_;clear hK K;refine d6 rfl (fun hc1=>?_) (fun hc1=>?_)
   ·simp at hc1
   ·have hfin:ins x L=x::L:=by have:=a2r x L (by simpa using j2) [] (by simp);simpa using this
    have he:srt (xs.take (i+1))++xs.drop (i+1)=a7b L x R 0:=by rw[hst,hR,hfin];simp[a7b]
    refine f8 ?_;simp only[zT,reduceIte,Nat.reduceEqDiff];refine hK2 _ _ ?_;refine b5 [0,1,2,6] (Or.inr (by simp)) ?_;simp only[zP,Nat.reduceEqDiff,reduceIte];refine gR fun K hK=>?_;simp -dsimp [wi];apply hK;clear hK K;simp only[zT,reduceIte,Nat.reduceEqDiff];exact⟨i+1,⟨by omega,by omega⟩,by omega,l9 (d8 [some 0] rfl (by simp) (by simp only[he];simp)) (by simp)⟩
  ·simp only[zP,Nat.reduceEqDiff,reduceIte];refine b6 fun K4 hK4=>?_;refine q9 k7 rfl (by decide) rfl rfl fun K hK=>?_;simp -dsimp [gj,gb,wj,hj1,hj0];refine⟨by omega,?_⟩
   try simp -dsimp [gj,gb,wj,hj1,hj0]
   refine g6 _ (fun hm=>b6D x y) (by simp) ?_;simp -dsimp [gj,gb,wj,hj1,hj0];refine hK _ _ _ (by decide+kernel) ?_;clear hK K;refine d6 rfl (fun hc1=>?_) (fun hc1=>?_)
   ·skip
    try simp at hc1
    refine d7 ?_;simp only[zT,reduceIte,Nat.reduceEqDiff];refine hK4 _ _ ?_;refine b5 [0,1,2,6,7] (Or.inr (by simp)) ?_;simp only[zP,Nat.reduceEqDiff,reduceIte];refine b6 fun K5 hK5=>?_;refine d5 ?_;refine o4 k7 rfl (by decide) rfl rfl fun K hK=>?_;simp -dsimp [gj,gb,wj,hj1,hj0]
    repeat (refine⟨by omega,?_⟩;try simp -dsimp [gj,gb,wj,hj1,hj0])
    refine hK _ _ _ (by decide+kernel) ?_;clear hK K;simp only[zT,reduceIte,Nat.reduceEqDiff];refine hK5 _ _ ?_;refine b5 [0,1,2,6,7] (Or.inr (by simp)) ?_;simp only[zP,Nat.reduceEqDiff,reduceIte];refine gR fun K hK=>?_;simp -dsimp [wj];apply hK;clear hK K;simp only[zT,reduceIte,Nat.reduceEqDiff];have hsw:(((a7b L x R (j+1)).map i4).set (j+1) [I y]).set j [I x]=(a7b L x R j).map i4:=by rw[←b3e hy,List.map_set,List.map_set];rfl
    exact⟨j,⟨by omega,by intro z hz;rw[hdj]at hz;rcases List.mem_cons.1 hz with rfl|hz;exact hc1;exact j2 z hz⟩,by omega,l9 (d8 [some 0] rfl (by simp) (by simp[hsw])) (by simp)⟩
   ·skip
    try simp at hc1
    have hfin:ins x L=L.take (j+1)++x::L.drop (j+1):=by have:=a2r x (L.drop (j+1)) j2 (L.take (j+1)) (fun a ha=>Int.le_trans (b9H hso hy a ha) hc1);rwa [List.take_append_drop]at this
    have he:srt (xs.take (i+1))++xs.drop (i+1)=a7b L x R (j+1):=by rw[hst,hR,hfin];simp[a7b]
    refine f8 ?_;simp only[zT,reduceIte,Nat.reduceEqDiff];refine hK2 _ _ ?_;refine b5 [0,1,2,6] (Or.inr (by simp)) ?_;simp only[zP,Nat.reduceEqDiff,reduceIte];refine gR fun K hK=>?_;simp -dsimp [wi];apply hK;clear hK K;simp only[zT,reduceIte,Nat.reduceEqDiff];exact⟨i+1,⟨by omega,by omega⟩,by omega,l9 (d8 [some 0] rfl (by simp) (by simp only[he];simp)) (by simp)⟩
 ·skip
  try simp at hc0
  have hie:i=xs.length:=by omega
  subst hie;refine f8 ?_
  try simp only[zT,reduceIte,Nat.reduceEqDiff]
  exact⟨[some 0],rfl,by simp,by simp,by simp[h1],by simp[y3,m6]⟩
theorem a7d:(Try.prog).underlying 3=some (.int .i64):=by kernel_rfl
theorem b2Z:(Try.prog).underlying 156=some (.int .u64):=by kernel_rfl
theorem b8O:(Try.prog).underlying 9=some .string:=by kernel_rfl
theorem b6G:(Try.prog).underlying 5=some (.int .u8):=by kernel_rfl
theorem b6c:(Try.prog).underlying 154=some (.int .u64):=by kernel_rfl
theorem b2r (s:ByteArray) (n:Int) (h0:0≤n) (h1:n.toNat<s.size) (w:World):(Instr.index 9 (.string s) (.int .u8 n)).run Try.prog w= .ok (.int .u8 (s[n.toNat]).toNat) w:=by
 have hs:s[n.toNat]?=some s[n.toNat]:=getElem?_pos s n.toNat h1;simp[Instr.index,asIntOf,run_underlying b8O,h0,hs]
theorem b7G (n:Int) (w:World):(convert 3 154 (.int .i64 n)).run Try.prog w= .ok (.int .u64 (IntKind.u64.wrap n)) w:=by
 simp[convert,run_underlying a7d,run_underlying b6c,Conv.intToInt]
theorem b7x (n:Int) (w:World):(convert 156 5 (.int .u64 n)).run Try.prog w= .ok (.int .u8 (IntKind.u8.wrap n)) w:=by
 simp[convert,run_underlying b2Z,run_underlying b6G,Conv.intToInt]
theorem b7Y (n:Int) (w:World):(convert 5 3 (.int .u8 n)).run Try.prog w= .ok (.int .i64 (IntKind.i64.wrap n)) w:=by
 simp[convert,run_underlying a7d,run_underlying b6G,Conv.intToInt]
abbrev U (n:Int):AV:= .v (.int .u64 n)
theorem u64_in {n:Int} (h0:0≤n) (h1:n<18446744073709551616):IntKind.u64.wrap n=n:=by rw[IntKind.wrap_u64];omega
theorem b8q (n:Int) (h0:0≤n) (h1:n≤200):∃k,d4 Try.prog 114 [U n] (I k):=by
 have w8:IntKind.u8.wrap n=n:=by rw[IntKind.wrap_u8];omega
 have h2:¬4294967296≤n:=by omega
 have h3:¬65536≤n:=by omega
 have h4:¬256≤n:=by omega
 apply Exists.intro;refine d4.of_body Try.func114 rfl (by decide) (by simp[Try.ntmps114]) ?_;simp only[Try.ntmps114,Try.results114];refine aS fun K hK=>?_;simp -dsimp;apply hK;clear hK K;refine b9 fun K1 hK1=>?_;refine aS fun K hK=>?_;simp -dsimp;apply hK;clear hK K;refine d9 rfl (fun hc0=>?_) (fun hc0=>?_)
 ·skip
  try simp at hc0
  omega
 ·skip
  try simp at hc0
  refine e8 ?_;simp only[zT,reduceIte,Nat.reduceEqDiff];refine hK1 _ _ ?_;refine b7 [0,2] ?_;simp only[zP,Nat.reduceEqDiff,reduceIte];refine b9 fun K2 hK2=>?_;refine aS fun K hK=>?_;simp -dsimp;apply hK;clear hK K;refine d9 rfl (fun hc1=>?_) (fun hc1=>?_)
  ·skip
   try simp at hc1
   omega
  ·skip
   try simp at hc1
   refine e8 ?_;simp only[zT,reduceIte,Nat.reduceEqDiff];refine hK2 _ _ ?_;refine b7 [0,2] ?_;simp only[zP,Nat.reduceEqDiff,reduceIte];refine b9 fun K3 hK3=>?_;refine aS fun K hK=>?_;simp -dsimp;apply hK;clear hK K;refine d9 rfl (fun hc2=>?_) (fun hc2=>?_)
   ·skip
    try simp at hc2
    omega
   ·skip
    try simp at hc2
    refine e8 ?_;simp only[zT,reduceIte,Nat.reduceEqDiff];refine hK3 _ _ ?_;refine b7 [0,2] ?_;simp only[zP,Nat.reduceEqDiff,reduceIte];refine aS fun K hK=>?_;simp -dsimp;refine⟨_,b7x n,?_⟩
    try simp -dsimp [w8]
    refine⟨_,b2r _ n h0 (Nat.lt_of_lt_of_le (show n.toNat<256 by omega) (by decide+kernel)),?_⟩
    try simp -dsimp
    refine⟨_,b7Y _,?_⟩
    try simp -dsimp
    apply hK;clear hK K;exact f7 rfl
theorem c1p (n:Int) (h0:0≤n) (h1:n≤200):∃k,d4 Try.prog 101 [U n] (I k):=by
 obtain⟨k,hk⟩:=b8q n h0 h1;refine⟨k,?_⟩;refine d4.of_body Try.func101 rfl (by decide) (by simp[Try.ntmps101]) ?_;simp only[Try.ntmps101,Try.results101];refine aS fun K hK=>?_;simp -dsimp;apply hK;clear hK K;refine b9 fun K1 hK1=>?_;refine d9 rfl (fun hc0=>?_) (fun hc0=>?_)
 ·simp at hc0
 ·refine e8 ?_;simp only[zT,reduceIte,Nat.reduceEqDiff];refine hK1 _ _ ?_;refine b7 [0] ?_;simp only[zP,Nat.reduceEqDiff,reduceIte];refine aS fun K hK=>?_;simp -dsimp;refine b8 _ (hk) (by simp) ?_;simp -dsimp;apply hK;clear hK K;exact f7 (by simp)
theorem c2a (xs:List Int) (k:Int) (h1:1≤xs.length) (hn:xs.length≤12):e9 Try.prog 100 [.row 0 0 xs.length,I 0,I xs.length,I k] [some (.els 1 (xs.map i4))] [] (.tup []) [some (.els 1 ((srt xs).map i4))] []:=by
 have hs:=b9i xs h1 (by omega);have wl:IntKind.i64.wrap (xs.length:Int)=xs.length:=f6 (by omega) (by omega);refine e9.of_bodyG [0] Try.func100 rfl (by decide) (by simp[Try.ntmps100]) rfl rfl ?_;intro J hJ;simp only[Try.ntmps100,Try.results100];refine gS fun K hK=>?_;simp -dsimp;apply hK;clear hK K;refine gS fun K hK=>?_;simp -dsimp;apply hK;clear hK K;refine d5 ?_;refine b5 [0,1,2,3,8,9] (Or.inr (by simp)) ?_;simp only[zP,Nat.reduceEqDiff,reduceIte];refine f5 [0] (α:=Unit) (fun _=>[(1,I 0),(2,I xs.length),(3,I k),(8,Bo true),(9,Bo true)]) (fun _=>[some (.els 1 (xs.map i4))]) (fun _=>True) (fun _=>0) () ?_ ?_ ?_
 ·simp
 ·exact l9 (i7 (by simp)) (by simp)
 rintro u-;simp only[zP,Nat.reduceEqDiff,reduceIte];refine d5 ?_;refine gS fun K hK=>?_;simp -dsimp [wl];apply hK;clear hK K;refine b6 fun K1 hK1=>?_;refine gS fun K hK=>?_;simp -dsimp;apply hK;clear hK K;refine d6 rfl (fun hc0=>?_) (fun hc0=>?_)
 ·skip
  try simp at hc0
  refine gS fun K hK=>?_;simp -dsimp;refine i8 [0] [] [some 0] (hs) (by decide) rfl (by simp) (by simp) rfl (by simp) ?_;simp -dsimp;apply hK;clear hK K;exact i5 ⟨[some 0],rfl,by simp,by simp,by simp[h1],by simp[y3,m6]⟩
 ·skip
  try simp at hc0
  omega
theorem b9J (xs:List Int) (h1:1≤xs.length) (hn:xs.length≤12):e9 Try.prog 85 [.row 0 0 xs.length] [some (.els 1 (xs.map i4))] [] (.tup []) [some (.els 1 ((srt xs).map i4))] []:=by
 obtain⟨k,hk⟩:=c1p xs.length (by omega) (by omega);have hs:=c2a xs k h1 hn;have wu:IntKind.u64.wrap (xs.length:Int)=xs.length:=u64_in (by omega) (by omega);refine e9.of_bodyG [0] Try.func85 rfl (by decide) (by simp[Try.ntmps85]) rfl rfl ?_;intro J hJ;simp only[Try.ntmps85,Try.results85];refine gS fun K hK=>?_;simp -dsimp;apply hK;clear hK K;refine gR fun K hK=>?_;simp -dsimp;refine⟨_,b7G _,?_⟩;simp -dsimp [wu];refine b8 _ (hk) (by simp) ?_;simp -dsimp;refine i8 [0] [] [some 0] (hs) (by decide) rfl (by simp) (by simp) rfl (by simp) ?_;simp -dsimp;apply hK;clear hK K
 try simp only[zT,reduceIte,Nat.reduceEqDiff]
 exact⟨[some 0],rfl,by simp,by simp,by simp[h1],by simp[y3,m6]⟩
end Go.Cur
end
section
namespace Go.Cur
open Go.AM Go.Proofs
def bAt (l:List Bool) (k:Nat):Bool:=(l[k]?).getD false
theorem v8 {l:List Bool} {k:Nat} (h:k<l.length):l[k]?=some (bAt l k):=by
 unfold bAt;rw[List.getElem?_eq_getElem h];rfl
def a6a (g:Gr) (s:Sta):Nat→Bool
 |0=>true
 |k+1=>a6a g s k&&(match g.Wires[k]? with|some w=>w.Sw||bAt s.Wires k|none=>true)
def stB (g:Gr) (s:Sta):Bool:=decide (s.Feeds.length=g.Feeds.length)&&decide (s.Wires.length=g.Wires.length)&&a6a g s g.Wires.length
def lkv (l:List Ld):List (List KC×Value):=l.map fun f=>(ik f.At, .bool true)
theorem b2B:∀(l:List Ld) (x:Int),r9 (lkv l) (ik x)=if (l.any fun f=>decide (f.At=x))=true then some (.bool true)else none
 |[],x=>rfl
 |f::l,x=>by
  have ih:=b2B l x;simp only[lkv]at ih;simp only[lkv,List.map_cons,r9,List.any_cons,Bool.or_eq_true,decide_eq_true_eq]
  by_cases h:f.At=x
  ·rw[if_pos (by rw[h]),if_pos (Or.inl h)]
  ·rw[if_neg (fun e=>h (O3.1 e).symm),ih];simp only[h,false_or]
theorem v9 (l:List Ld) (x:Int):((r9 (lkv l) (ik x)).getD (.bool false))= .bool (l.any fun f=>decide (f.At=x)):=by
 rw[b2B]
 cases (l.any fun f=>decide (f.At=x))<;>rfl
theorem a1s:∀(l:List Ld) (f:Ld),(l.any fun x=>decide (x.At=f.At))=false→x9 (lkv l) (ik f.At) (.bool true)=lkv (l++[f])
 |[],f,_=>rfl
 |x::l,f,h=>by
  simp only[List.any_cons,Bool.or_eq_false_iff,decide_eq_false_iff_not]at h;have ih:=a1s l f h.2;simp only[lkv]at ih;simp only[lkv,List.map_cons,List.cons_append,x9];rw[if_neg (fun e=>h.1 (O3.1 e).symm),ih]
def ldB (g:Gr) (l:List Ld) (f:Ld):Bool:=inr f.At 0 (g.Nodes-1)&&inr f.Units (-40) 40&&inr f.Rank 0 100&& !(l.any fun x=>decide (x.At=f.At))
def a2T (g:Gr) (l:List Ld):Nat→Bool
 |0=>true
 |k+1=>a2T g l k&&(match l[k]? with|some f=>ldB g (l.take k) f|none=>true)
def t4 (g:Gr) (s:Sta) (l:List Ld):Bool:=grB g&&stB g s&&a2T g l l.length
theorem a7X {g:Gr} {s:Sta} {k:Nat} (h:a6a g s k=false):∀d,a6a g s (k+d)=false
 |0=>h
 |d+1=>by rw[←Nat.add_assoc];simp only[a6a,a7X h d,Bool.false_and]
theorem a8h {g:Gr} {l:List Ld} {k:Nat} (h:a2T g l k=false):∀d,a2T g l (k+d)=false
 |0=>h
 |d+1=>by rw[←Nat.add_assoc];simp only[a2T,a8h h d,Bool.false_and]
theorem b6x {g:Gr} {s:Sta} {l:List Ld} {k:Nat} {w:Wr} (hw:g.Wires[k]?=some w) (h:(w.Sw||bAt s.Wires k)=false):t4 g s l=false:=by
 have hk:=(List.getElem?_eq_some_iff.1 hw).1;have h1:a6a g s (k+1)=false:=by simp only[a6a,hw,h,Bool.and_false]
 have h2:=a7X h1 (g.Wires.length-(k+1));rw[show k+1+(g.Wires.length-(k+1))=g.Wires.length by omega]at h2;simp[t4,stB,h2]
theorem b6H {g:Gr} {s:Sta} {l:List Ld} {k:Nat} {f:Ld} (hf:l[k]?=some f) (h:ldB g (l.take k) f=false):t4 g s l=false:=by
 have hk:=(List.getElem?_eq_some_iff.1 hf).1;have h1:a2T g l (k+1)=false:=by simp only[a2T,hf,h,Bool.and_false]
 have h2:=a8h h1 (l.length-(k+1));rw[show k+1+(l.length-(k+1))=l.length by omega]at h2;simp[t4,h2]
@[simp] def ntC (g:Gr) (fe wi:AV):List AV:=g.cells++[fe,wi]
abbrev net (g:Gr) (s:Sta):AV:= .iptr (ntC g (bL s.Feeds) (bL s.Wires))
theorem c0H (t:List Bool) (hne:t≠[]) (hn:t.length≤1000):M8 Try.prog 73 [bL t] 0 t.length 1 (t.map i6):=by
 have f1:D8 t.length 2:=j7 (by omega) (by omega);refine M8.of_body Try.func73 rfl (by decide) (by simp[Try.ntmps73]) (by simp) (by simpa using hne) ?_;simp only[Try.ntmps73,Try.results73];refine aS fun K hK=>?_;simp -dsimp;apply hK;clear hK K;refine b9 fun K1 hK1=>?_;refine aS fun K hK=>?_;simp -dsimp [hne];apply hK;clear hK K;refine d9 rfl (fun hc0=>?_) (fun hc0=>?_)
 ·simp at hc0
 ·refine e8 ?_;simp only[zT,reduceIte,Nat.reduceEqDiff];refine hK1 _ _ ?_;refine b7 [0] ?_;simp only[zP,Nat.reduceEqDiff,reduceIte];refine aS fun K hK=>?_;simp -dsimp [hne,f1];apply hK;clear hK K;exact f7 ⟨2,0,rfl,by simp,by simp⟩
theorem r6 {g:Gr} (h:grB g=true):1≤g.Nodes∧g.Nodes≤40∧g.Wires.length≤80∧g.Feeds.length≤12∧0≤g.Least∧g.Least≤1000:=by
 simp only[grB,grH,Bool.and_eq_true,decide_eq_true_eq,u5]at h;omega
theorem a5E (g:Gr) (s:Sta) (l:List Ld) (hl:l.length≤1000) (hfine:t4 g s l=false):d4 Try.prog 47 [g.av,s.av,lL l] (.tup [.v (.pointer none),Bo false]):=by
 refine d4.of_body Try.func47 rfl (by decide) (by simp[Try.ntmps47]) ?_;simp only[Try.ntmps47,Try.results47];refine aS fun K hK=>?_;simp -dsimp;apply hK;clear hK K;refine b9 fun K1 hK1=>?_;refine aS fun K hK=>?_;simp -dsimp [okE];refine b8 _ (a7G g) (by simp) ?_;simp -dsimp [okE];apply hK;clear hK K;refine d9 rfl (fun hc0=>?_) (fun hc0=>?_)
 ·refine aS fun K hK=>?_;simp -dsimp;apply hK;clear hK K;exact f7 (by simp)
 ·have hgo:grB g=true∧s.Feeds.length=g.Feeds.length∧s.Wires.length=g.Wires.length:=by
   cases hg:grB g with
   |false=>simp[hg]at hc0
   |true=>simp[hg]at hc0;exact⟨rfl,by omega,by omega⟩
  have hb:=r6 hgo.1;refine e8 ?_;simp only[zT,reduceIte,Nat.reduceEqDiff];refine hK1 _ _ ?_;refine b7 [2,3,4] ?_;simp only[zP,Nat.reduceEqDiff,reduceIte];refine b9 fun K2 hK2=>?_;refine aS fun K hK=>?_;simp -dsimp;apply hK;clear hK K;refine e7 ?_;refine b7 [2,3,4,35,36,37] ?_;simp only[zP,Nat.reduceEqDiff,reduceIte];refine g7 [2,3,4,35,36] (α:=Nat) (fun k=>[(37,I k)]) (fun k=>[some (.els 4 [g.cells]),some (.els 2 [s.cells])]) (fun k=>k≤g.Wires.length∧a6a g s k=true) (fun k=>g.Wires.length-k) 0 ?_ ?_ ?_
  ·exact⟨Nat.zero_le _,rfl⟩
  ·exact i7 (by simp)
  rintro k ⟨k1,k2⟩;simp only[zP,Nat.reduceEqDiff,reduceIte];refine aS fun K hK=>?_;simp -dsimp;apply hK;clear hK K;refine b9 fun K3 hK3=>?_;refine d9 rfl (fun hc1=>?_) (fun hc1=>?_)
  ·skip
   try simp at hc1
   obtain⟨w,hw⟩:∃w,g.Wires[k]?=some w:=⟨_,List.getElem?_eq_getElem hc1⟩;have wk:=zW k (by omega);have gb:=v8 (l:=s.Wires) (k:=k) (by omega);refine e8 ?_;simp only[zT,reduceIte,Nat.reduceEqDiff];refine hK3 _ _ ?_;refine b7 [2,3,4,35,36,37] ?_;simp only[zP,Nat.reduceEqDiff,reduceIte];refine b9 fun K4 hK4=>?_;refine e7 ?_;refine aS fun K hK=>?_;simp -dsimp [hw];apply hK;clear hK K;refine aS fun K hK=>?_;simp -dsimp [gb,hgo.2.2];refine l4 (i6 (bAt s.Wires k)) (fun _=>by simp[gb]) ?_;simp -dsimp [gb,hgo.2.2];apply hK;clear hK K;refine d9 rfl (fun hc2=>?_) (fun hc2=>?_)
   ·skip
    try simp at hc2
    refine aS fun K hK=>?_;simp -dsimp;apply hK;clear hK K;exact f7 (by simp)
   ·skip
    try simp at hc2
    refine e8 ?_;simp only[zT,reduceIte,Nat.reduceEqDiff];refine hK4 _ _ ?_;refine b7 [2,3,4,35,36,37] ?_;simp only[zP,Nat.reduceEqDiff,reduceIte];refine aR fun K hK=>?_;simp -dsimp [wk];apply hK;clear hK K;simp only[zT,reduceIte,Nat.reduceEqDiff];refine⟨k+1,⟨by omega,?_⟩,by omega,d8 [some 0,some 1] rfl (by simp) (by simp)⟩;simp only[a6a,k2,hw,Bool.true_and]
    cases hw1:w.Sw<;>cases hb1:bAt s.Wires k<;>simp[hw1,hb1]at hc2 ⊢
  ·skip
   try simp at hc1
   have hke:k=g.Wires.length:=by omega
   subst hke;refine j0 ?_;simp only[zT,reduceIte,Nat.reduceEqDiff];refine hK2 _ _ ?_;refine b7 [2,3,4] ?_;simp only[zP,Nat.reduceEqDiff,reduceIte];refine aS fun K hK=>?_;simp -dsimp;apply hK;clear hK K;refine b9 fun K5 hK5=>?_;refine aS fun K hK=>?_;simp -dsimp;apply hK;clear hK K;refine e7 ?_;refine b7 [3,4,10,55,56,57] ?_;simp only[zP,Nat.reduceEqDiff,reduceIte];refine g7 [3,4,10,55,56] (α:=Nat) (fun k=>[(57,I k)]) (fun k=>[some (.els 4 [g.cells]),some (.els 2 [s.cells]),some (.map false [.i .i64] (lkv (l.take k)))]) (fun k=>k≤l.length∧a2T g l k=true) (fun k=>l.length-k) 0 ?_ ?_ ?_
   ·exact⟨Nat.zero_le _,rfl⟩
   ·exact d8 [some 0,some 1,some 2] rfl (by simp) (by simp[lkv])
   rintro i ⟨i1,i2⟩;simp only[zP,Nat.reduceEqDiff,reduceIte];refine aS fun K hK=>?_;simp -dsimp;apply hK;clear hK K;refine b9 fun K6 hK6=>?_;refine d9 rfl (fun hc3=>?_) (fun hc3=>?_)
   ·skip
    try simp at hc3
    obtain⟨f,hf⟩:∃f,l[i]?=some f:=⟨_,List.getElem?_eq_getElem hc3⟩;have wi:=zW i (by omega);have wn:IntKind.i64.wrap (g.Nodes-1)=g.Nodes-1:=f6 (by omega) (by omega);refine e8 ?_;simp only[zT,reduceIte,Nat.reduceEqDiff];refine hK6 _ _ ?_;refine b7 [3,4,10,55,56,57] ?_;simp only[zP,Nat.reduceEqDiff,reduceIte];refine b9 fun K7 hK7=>?_;refine e7 ?_;refine aS fun K hK=>?_;simp -dsimp [hf];apply hK;clear hK K;refine b9 fun K8 hK8=>?_;refine aS fun K hK=>?_;simp -dsimp [wn,v9];refine b8 _ (s8 _ _ _) (by simp) ?_;simp -dsimp [wn,v9];refine g6 _ (fun hm=>s8 f.Units (-40) 40) (by simp) ?_;simp -dsimp [wn,v9];refine g6 _ (fun hm=>s8 f.Rank 0 100) (by simp) ?_;simp -dsimp [wn,v9];refine o3 (_) (fun hm=>rfl) ?_;simp -dsimp [wn,v9];apply hK;clear hK K;refine d9 rfl (fun hc4=>?_) (fun hc4=>?_)
    ·have hfd:ldB g (l.take i) f= !(!inr f.At 0 (g.Nodes-1)|| !inr f.Units (-40) 40|| !inr f.Rank 0 100||((l.take i).any fun x=>decide (x.At=f.At))):=by
      simp only[ldB]
      cases inr f.At 0 (g.Nodes-1)<;>cases inr f.Units (-40) 40<;>cases inr f.Rank 0 100<;>cases ((l.take i).any fun x=>decide (x.At=f.At))<;>rfl
     refine aS fun K hK=>?_;simp -dsimp;apply hK;clear hK K;exact f7 (by simp)
    ·have hfd:ldB g (l.take i) f= !(!inr f.At 0 (g.Nodes-1)|| !inr f.Units (-40) 40|| !inr f.Rank 0 100||((l.take i).any fun x=>decide (x.At=f.At))):=by
      simp only[ldB]
      cases inr f.At 0 (g.Nodes-1)<;>cases inr f.Units (-40) 40<;>cases inr f.Rank 0 100<;>cases ((l.take i).any fun x=>decide (x.At=f.At))<;>rfl
     have hany:((l.take i).any fun x=>decide (x.At=f.At))=false:=by
      cases h:((l.take i).any fun x=>decide (x.At=f.At))with
      |false=>rfl
      |true=>rw[h]at hc4;simp at hc4
     refine e8 ?_;simp only[zT,reduceIte,Nat.reduceEqDiff];refine hK8 _ _ ?_;refine b7 [3,4,10,12,55,56,57] ?_;simp only[zP,Nat.reduceEqDiff,reduceIte];refine aR fun K hK=>?_;simp -dsimp [a1s _ _ hany];apply hK;clear hK K;simp only[zT,reduceIte,Nat.reduceEqDiff];refine hK7 _ _ ?_;refine b7 [3,4,10,55,56,57] ?_;simp only[zP,Nat.reduceEqDiff,reduceIte];refine aR fun K hK=>?_;simp -dsimp [wi];apply hK;clear hK K;simp only[zT,reduceIte,Nat.reduceEqDiff];refine⟨i+1,⟨by omega,?_⟩,by omega,d8 [some 0,some 1,some 2] rfl (by simp) (by simp[List.take_add_one,hf])⟩;simp only[a2T,i2,hf,hfd,hc4];rfl
   ·skip
    try simp at hc3
    have hie:i=l.length:=by omega
    subst hie;exfalso;simp[t4,stB,hgo.1,hgo.2.1,hgo.2.2,k2,i2]at hfine
theorem O2 (g:Gr) (s:Sta) (l:List Ld) (hl:l.length≤1000) (hfine:t4 g s l=true):d4 Try.prog 47 [g.av,s.av,lL l] (.tup [net g s,Bo true]):=by
 have hfine0:=hfine;simp only[t4,stB,Bool.and_eq_true,decide_eq_true_eq]at hfine0;have hgo:grB g=true∧s.Feeds.length=g.Feeds.length∧s.Wires.length=g.Wires.length:=⟨hfine0.1.1,hfine0.1.2.1.1,hfine0.1.2.1.2⟩;refine d4.of_body Try.func47 rfl (by decide) (by simp[Try.ntmps47]) ?_;simp only[Try.ntmps47,Try.results47];refine aS fun K hK=>?_;simp -dsimp;apply hK;clear hK K;refine b9 fun K1 hK1=>?_;refine aS fun K hK=>?_;simp -dsimp [okE];refine b8 _ (a7G g) (by simp) ?_;simp -dsimp [okE];apply hK;clear hK K;refine d9 rfl (fun hc0=>?_) (fun hc0=>?_)
 ·exfalso;simp[hgo.1,hgo.2.1,hgo.2.2]at hc0
 ·have hb:=r6 hgo.1;refine e8 ?_;simp only[zT,reduceIte,Nat.reduceEqDiff];refine hK1 _ _ ?_;refine b7 [2,3,4] ?_;simp only[zP,Nat.reduceEqDiff,reduceIte];refine b9 fun K2 hK2=>?_;refine aS fun K hK=>?_;simp -dsimp;apply hK;clear hK K;refine e7 ?_;refine b7 [2,3,4,35,36,37] ?_;simp only[zP,Nat.reduceEqDiff,reduceIte];refine g7 [2,3,4,35,36] (α:=Nat) (fun k=>[(37,I k)]) (fun k=>[some (.els 4 [g.cells]),some (.els 2 [s.cells])]) (fun k=>k≤g.Wires.length∧a6a g s k=true) (fun k=>g.Wires.length-k) 0 ?_ ?_ ?_
  ·exact⟨Nat.zero_le _,rfl⟩
  ·exact i7 (by simp)
  rintro k ⟨k1,k2⟩;simp only[zP,Nat.reduceEqDiff,reduceIte];refine aS fun K hK=>?_;simp -dsimp;apply hK;clear hK K;refine b9 fun K3 hK3=>?_;refine d9 rfl (fun hc1=>?_) (fun hc1=>?_)
  ·skip
   try simp at hc1
   obtain⟨w,hw⟩:∃w,g.Wires[k]?=some w:=⟨_,List.getElem?_eq_getElem hc1⟩;have wk:=zW k (by omega);have gb:=v8 (l:=s.Wires) (k:=k) (by omega);refine e8 ?_;simp only[zT,reduceIte,Nat.reduceEqDiff];refine hK3 _ _ ?_;refine b7 [2,3,4,35,36,37] ?_;simp only[zP,Nat.reduceEqDiff,reduceIte];refine b9 fun K4 hK4=>?_;refine e7 ?_;refine aS fun K hK=>?_;simp -dsimp [hw];apply hK;clear hK K;refine aS fun K hK=>?_;simp -dsimp [gb,hgo.2.2];refine l4 (i6 (bAt s.Wires k)) (fun _=>by simp[gb]) ?_;simp -dsimp [gb,hgo.2.2];apply hK;clear hK K;refine d9 rfl (fun hc2=>?_) (fun hc2=>?_)
   ·exfalso;have hfl:(w.Sw||bAt s.Wires k)=false:=by cases hw1:w.Sw<;>cases hb1:bAt s.Wires k<;>simp[hw1,hb1]at hc2 ⊢
    rw[b6x hw hfl]at hfine;cases hfine
   ·refine e8 ?_;simp only[zT,reduceIte,Nat.reduceEqDiff];refine hK4 _ _ ?_;refine b7 [2,3,4,35,36,37] ?_;simp only[zP,Nat.reduceEqDiff,reduceIte];refine aR fun K hK=>?_;simp -dsimp [wk];apply hK;clear hK K;simp only[zT,reduceIte,Nat.reduceEqDiff];refine⟨k+1,⟨by omega,?_⟩,by omega,d8 [some 0,some 1] rfl (by simp) (by simp)⟩;simp only[a6a,k2,hw,Bool.true_and]
    cases hw1:w.Sw<;>cases hb1:bAt s.Wires k<;>simp[hw1,hb1]at hc2 ⊢
  ·skip
   try simp at hc1
   have hke:k=g.Wires.length:=by omega
   subst hke;refine j0 ?_;simp only[zT,reduceIte,Nat.reduceEqDiff];refine hK2 _ _ ?_;refine b7 [2,3,4] ?_;simp only[zP,Nat.reduceEqDiff,reduceIte];refine aS fun K hK=>?_;simp -dsimp;apply hK;clear hK K;refine b9 fun K5 hK5=>?_;refine aS fun K hK=>?_;simp -dsimp;apply hK;clear hK K;refine e7 ?_;refine b7 [3,4,10,55,56,57] ?_;simp only[zP,Nat.reduceEqDiff,reduceIte];refine g7 [3,4,10,55,56] (α:=Nat) (fun k=>[(57,I k)]) (fun k=>[some (.els 4 [g.cells]),some (.els 2 [s.cells]),some (.map false [.i .i64] (lkv (l.take k)))]) (fun k=>k≤l.length∧a2T g l k=true) (fun k=>l.length-k) 0 ?_ ?_ ?_
   ·exact⟨Nat.zero_le _,rfl⟩
   ·exact d8 [some 0,some 1,some 2] rfl (by simp) (by simp[lkv])
   rintro i ⟨i1,i2⟩;simp only[zP,Nat.reduceEqDiff,reduceIte];refine aS fun K hK=>?_;simp -dsimp;apply hK;clear hK K;refine b9 fun K6 hK6=>?_;refine d9 rfl (fun hc3=>?_) (fun hc3=>?_)
   ·skip
    try simp at hc3
    obtain⟨f,hf⟩:∃f,l[i]?=some f:=⟨_,List.getElem?_eq_getElem hc3⟩;have wi:=zW i (by omega);have wn:IntKind.i64.wrap (g.Nodes-1)=g.Nodes-1:=f6 (by omega) (by omega);refine e8 ?_;simp only[zT,reduceIte,Nat.reduceEqDiff];refine hK6 _ _ ?_;refine b7 [3,4,10,55,56,57] ?_;simp only[zP,Nat.reduceEqDiff,reduceIte];refine b9 fun K7 hK7=>?_;refine e7 ?_;refine aS fun K hK=>?_;simp -dsimp [hf];apply hK;clear hK K;refine b9 fun K8 hK8=>?_;refine aS fun K hK=>?_;simp -dsimp [wn,v9];refine b8 _ (s8 _ _ _) (by simp) ?_;simp -dsimp [wn,v9];refine g6 _ (fun hm=>s8 f.Units (-40) 40) (by simp) ?_;simp -dsimp [wn,v9];refine g6 _ (fun hm=>s8 f.Rank 0 100) (by simp) ?_;simp -dsimp [wn,v9];refine o3 (_) (fun hm=>rfl) ?_;simp -dsimp [wn,v9];apply hK;clear hK K;refine d9 rfl (fun hc4=>?_) (fun hc4=>?_)
    ·have hfd:ldB g (l.take i) f= !(!inr f.At 0 (g.Nodes-1)|| !inr f.Units (-40) 40|| !inr f.Rank 0 100||((l.take i).any fun x=>decide (x.At=f.At))):=by
      simp only[ldB]
      cases inr f.At 0 (g.Nodes-1)<;>cases inr f.Units (-40) 40<;>cases inr f.Rank 0 100<;>cases ((l.take i).any fun x=>decide (x.At=f.At))<;>rfl
     exfalso;rw[b6H hf (by rw[hfd,hc4];rfl)]at hfine;cases hfine
    ·have hfd:ldB g (l.take i) f= !(!inr f.At 0 (g.Nodes-1)|| !inr f.Units (-40) 40|| !inr f.Rank 0 100||((l.take i).any fun x=>decide (x.At=f.At))):=by
      simp only[ldB]
      cases inr f.At 0 (g.Nodes-1)<;>cases inr f.Units (-40) 40<;>cases inr f.Rank 0 100<;>cases ((l.take i).any fun x=>decide (x.At=f.At))<;>rfl
     have hany:((l.take i).any fun x=>decide (x.At=f.At))=false:=by
      cases h:((l.take i).any fun x=>decide (x.At=f.At))with
      |false=>rfl
      |true=>rw[h]at hc4;simp at hc4
     refine e8 ?_;simp only[zT,reduceIte,Nat.reduceEqDiff];refine hK8 _ _ ?_;refine b7 [3,4,10,12,55,56,57] ?_;simp only[zP,Nat.reduceEqDiff,reduceIte];refine aR fun K hK=>?_;simp -dsimp [a1s _ _ hany];apply hK;clear hK K;simp only[zT,reduceIte,Nat.reduceEqDiff];refine hK7 _ _ ?_;refine b7 [3,4,10,55,56,57] ?_;simp only[zP,Nat.reduceEqDiff,reduceIte];refine aR fun K hK=>?_;simp -dsimp [wi];apply hK;clear hK K;simp only[zT,reduceIte,Nat.reduceEqDiff];refine⟨i+1,⟨by omega,?_⟩,by omega,d8 [some 0,some 1,some 2] rfl (by simp) (by simp[List.take_add_one,hf])⟩;simp only[a2T,i2,hf,hfd,hc4];rfl
   ·skip
    try simp at hc3
    refine j0 ?_;simp only[zT,reduceIte,Nat.reduceEqDiff];refine hK5 _ _ ?_;refine b7 [3,4] ?_;simp only[zP,Nat.reduceEqDiff,reduceIte];refine v6 k7 rfl fun K hK=>?_;simp -dsimp;refine b8 _ (y9 s.Feeds (by omega)) (by simp) ?_;simp -dsimp;refine b8 _ (y9 s.Wires (by omega)) (by simp) ?_;simp -dsimp;refine hK _ _ _ (by decide+kernel) ?_;clear hK K;exact f7 (by simp)
end Go.Cur
end
section
namespace Go.Cur
open Go.AM Go.Proofs
theorem b7o {nt:Nat} {T:Tm} {H:Hp} (g:List (Option Nat)) (hn:s9 g=true):Go.AM.Sub nt T H (T.map fun p=>(p.1,R1 (l7 H) g 3 (Go.AM.l5 T p.1))) (a0f H g):=by
 refine B9 g hn ?_ rfl;have gen:∀(T':Tm),a1h H g T (T'.map fun p=>(p.1,R1 (l7 H) g 3 (Go.AM.l5 T p.1))):=by
  intro T'
  induction T' with
  |nil=>trivial
  |cons p T' ih=>exact⟨Or.inr rfl,ih⟩
 exact gen T
def tkS (s:List (List KC×Value)) (p:Ld×Bool):List (List KC×Value):=if p.2 then x9 s (ik p.1.At) (.int .i64 p.1.Units)else s
def tkK (l:List Ld) (sv:List Bool):List (List KC×Value):=(l.zip sv).foldl tkS []
def b4k (x:Int) (c:Int) (p:Ld×Bool):Int:=if p.2=true∧p.1.At=x then p.1.Units else c
def cur (l:List Ld) (sv:List Bool) (x:Int):Int:=(l.zip sv).foldl (b4k x) 0
theorem U3 (l:List Ld) (sv:List Bool):a0R (tkK l sv):=by
 have gen:∀(l:List (Ld×Bool)) (s:List (List KC×Value)),a0R s→a0R (l.foldl tkS s):=by
  intro l
  induction l with
  |nil=>intro s h;exact h
  |cons w l ih=>
   intro s h;refine ih _ ?_;unfold tkS
   split
   ·exact h.set _ _
   ·exact h
 exact gen _ [] a0R.nil
theorem a4p (l:List Ld) (sv:List Bool) (x:Int):igt (tkK l sv) x=cur l sv x:=by
 have gen:∀(l:List (Ld×Bool)) (s:List (List KC×Value)),igt (l.foldl tkS s) x=l.foldl (b4k x) (igt s x):=by
  intro l
  induction l with
  |nil=>intro s;rfl
  | cons w l ih=>
   intro s;rw[List.foldl_cons,List.foldl_cons,ih]
   congr 1
   unfold tkS b4k
   by_cases h:w.2=true
   ·rw[if_pos h,a2M]
    by_cases hx:w.1.At=x
    ·rw[if_pos hx.symm,if_pos ⟨h,hx⟩]
    ·rw[if_neg (fun e=>hx e.symm),if_neg (fun e=>hx e.2)]
   ·rw[if_neg h,if_neg (fun e=>h e.1)]
 exact gen _ []
theorem a9T {l:List Ld} {sv:List Bool} {k:Nat} {f:Ld} {b:Bool} (hl:l[k]?=some f) (hs:sv[k]?=some b):tkK (l.take (k+1)) (sv.take (k+1))=tkS (tkK (l.take k) (sv.take k)) (f,b):=by
 have hk:=(List.getElem?_eq_some_iff.1 hl).1;have hk2:=(List.getElem?_eq_some_iff.1 hs).1;unfold tkK;rw[List.take_add_one,List.take_add_one,hl,hs,List.zip_append (by simp;omega)];simp
theorem b5Y {n k:Nat} (h:k<n):(List.replicate n true)[k]?=some true:=by simp[h]
theorem b0c (l:List Ld) (sv:List Bool) (hl:l.length≤1000) (hs:∀k,k<l.length→sv[k]?=some true) (hsl:sv.take l.length=sv):d4 Try.prog 50 [lL l, .v (.slice none 0 0)] (.mpc false [.i .i64] (tkK l sv)):=by
 refine d4.of_body Try.func50 rfl (by decide) (by simp[Try.ntmps50]) ?_;simp only[Try.ntmps50,Try.results50];refine aS fun K hK=>?_;simp -dsimp;apply hK;clear hK K;refine aS fun K hK=>?_;simp -dsimp;apply hK;clear hK K;refine b9 fun K1 hK1=>?_;refine aS fun K hK=>?_;simp -dsimp;apply hK;clear hK K;refine e7 ?_;refine b7 [1,5,9,10,11] ?_;simp only[zP,Nat.reduceEqDiff,reduceIte];refine g7 [1,5,9,10] (α:=Nat) (fun k=>[(11,I k)]) (fun k=>[some (.map false [.i .i64] (tkK (l.take k) (sv.take k)))]) (fun k=>k≤l.length) (fun k=>l.length-k) 0 ?_ ?_ ?_
 ·exact Nat.zero_le _
 ·exact i7 (by simp[tkK])
 rintro k k1;simp only[zP,Nat.reduceEqDiff,reduceIte];refine aS fun K hK=>?_;simp -dsimp;apply hK;clear hK K;refine b9 fun K2 hK2=>?_;refine d9 rfl (fun hc0=>?_) (fun hc0=>?_)
 ·skip
  try simp at hc0
  obtain⟨f,hf⟩:∃f,l[k]?=some f:=⟨_,List.getElem?_eq_getElem hc0⟩;have wk:=zW k (by omega);have hsn:=a9T hf (hs k hc0);refine e8 ?_;simp only[zT,reduceIte,Nat.reduceEqDiff];refine hK2 _ _ ?_;refine b7 [1,5,9,10,11] ?_;simp only[zP,Nat.reduceEqDiff,reduceIte];refine b9 fun K3 hK3=>?_;refine e7 ?_;refine aS fun K hK=>?_;simp -dsimp [hf];apply hK;clear hK K;refine aS fun K hK=>?_;simp -dsimp;apply hK;clear hK K;refine d9 rfl (fun hc1=>?_) (fun hc1=>?_)
  ·refine aR fun K hK=>?_;simp -dsimp;apply hK;clear hK K;simp only[zT,reduceIte,Nat.reduceEqDiff];refine hK3 _ _ ?_;refine b7 [1,5,9,10,11] ?_;simp only[zP,Nat.reduceEqDiff,reduceIte];refine aR fun K hK=>?_;simp -dsimp [wk];apply hK;clear hK K;simp only[zT,reduceIte,Nat.reduceEqDiff];exact⟨k+1,by omega,by omega,d8 [some 0] rfl (by simp) (by simp[hsn,tkS])⟩
  ·simp at hc1
 ·skip
  try simp at hc0
  have hke:k=l.length:=by omega
  subst hke;refine j0 ?_;simp only[zT,reduceIte,Nat.reduceEqDiff];refine hK1 _ _ ?_;refine b7 [5] ?_;simp only[zP,Nat.reduceEqDiff,reduceIte];refine aS fun K hK=>?_;simp -dsimp;apply hK;clear hK K;exact f7 (by simp[hsl])
theorem a2q (l:List Ld) (hl:l.length≤1000):d4 Try.prog 50 [lL l, .v (.slice none 0 0)] (.mpc false [.i .i64] (tkK l (List.replicate l.length true))):=b0c l _ hl (fun k hk=>b5Y hk) (by simp)
theorem b9A (l:List Int) (f:FuncId) (cl:List (List AV)) (q:Int→Bool) (h:∀x∈l,d4 Try.prog f (I x::a5w cl) (Bo (q x))) (hl:l.length≤1000):d4 Try.prog 89 [iL l, .clo f (a5w cl)] (iL (l.filter q)):=by
 refine d4.of_body Try.func89 rfl (by decide) (by simp[Try.ntmps89]) ?_;simp only[Try.ntmps89,Try.results89];refine aS fun K hK=>?_;simp -dsimp;apply hK;clear hK K;refine aS fun K hK=>?_;simp -dsimp;apply hK;clear hK K;refine b9 fun K1 hK1=>?_;refine aS fun K hK=>?_;simp -dsimp;apply hK;clear hK K;refine e7 ?_;refine b7 [1,5,8,9,10] ?_;simp only[zP,Nat.reduceEqDiff,reduceIte];refine g7 [1,8,9] (α:=Nat) (fun k=>[(5, .row 0 0 ((l.take k).filter q).length),(10,I k)]) (fun k=>[some (.els 1 (((l.take k).filter q).map i4))]) (fun k=>k≤l.length) (fun k=>l.length-k) 0 ?_ ?_ ?_
 ·exact Nat.zero_le _
 ·exact(z7 5 1 (by simp)).trans (i7 (by simp))
 rintro k k1;simp only[zP,Nat.reduceEqDiff,reduceIte];refine aS fun K hK=>?_;simp -dsimp;apply hK;clear hK K;refine b9 fun K2 hK2=>?_;refine d9 rfl (fun hc0=>?_) (fun hc0=>?_)
 ·skip
  try simp at hc0
  obtain⟨x,hx⟩:∃x,l[k]?=some x:=⟨_,List.getElem?_eq_getElem hc0⟩;have wk:=zW k (by omega);have hfl:((l.take k).filter q).length≤k:=by have:=List.length_filter_le q (l.take k);rw[List.length_take]at this;omega
  have hfs:(l.take (k+1)).filter q=(l.take k).filter q++if q x then [x]else []:=by rw[List.take_add_one,hx,List.filter_append];cases hq:q x<;>simp[hq]
  have f1:D8 (((l.take k).filter q).length+1) 9:=j7 (by omega) (by omega);generalize (l.take k).filter q=L at hfs hfl f1 ⊢;refine e8 ?_;simp only[zT,reduceIte,Nat.reduceEqDiff];refine hK2 _ _ ?_;refine b7 [1,5,8,9,10] ?_;simp only[zP,Nat.reduceEqDiff,reduceIte];refine b9 fun K3 hK3=>?_;refine e7 ?_;refine aS fun K hK=>?_;simp -dsimp [hx];apply hK;clear hK K;refine aS fun K hK=>?_;simp -dsimp;refine b8 _ (h x (List.mem_of_getElem? hx)) (by simp) ?_;simp -dsimp;apply hK;clear hK K;refine d9 rfl (fun hc1=>?_) (fun hc1=>?_)
  ·refine aR fun K hK=>?_;simp -dsimp [f1];apply hK;clear hK K;simp only[zT,reduceIte,Nat.reduceEqDiff];refine hK3 _ _ ?_;refine b7 [1,5,8,9,10] ?_;simp only[zP,Nat.reduceEqDiff,reduceIte];refine aR fun K hK=>?_;simp -dsimp [wk];apply hK;clear hK K;simp only[zT,reduceIte,Nat.reduceEqDiff];exact⟨k+1,by omega,by omega,d8 [some 1] rfl (by simp[hfs,hc1]) (by simp[hfs,hc1])⟩
  ·refine e8 ?_;simp only[zT,reduceIte,Nat.reduceEqDiff];refine hK3 _ _ ?_;refine b7 [1,5,8,9,10] ?_;simp only[zP,Nat.reduceEqDiff,reduceIte];refine aR fun K hK=>?_;simp -dsimp [wk];apply hK;clear hK K;simp only[zT,reduceIte,Nat.reduceEqDiff];exact⟨k+1,by omega,by omega,d8 [some 0] rfl (by simp[hfs,hc1]) (by simp[hfs,hc1])⟩
 ·skip
  try simp at hc0
  have hke:k=l.length:=by omega
  subst hke;refine j0 ?_;simp only[zT,reduceIte,Nat.reduceEqDiff];refine hK1 _ _ ?_;refine b7 [5] ?_;simp only[zP,Nat.reduceEqDiff,reduceIte];refine aS fun K hK=>?_;simp -dsimp;apply hK;clear hK K;exact f7 (by simp)
def fdI (g:Gr) (i:Int):Fd:=(g.Feeds[i.toNat]?).getD default
theorem O6 {g:Gr} {i:Int} (h0:0≤i) (h1:i<g.Feeds.length):g.Feeds[i.toNat]?=some (fdI g i):=by
 unfold fdI;rw[List.getElem?_eq_getElem (by omega)];rfl
def upI (n:Nat):List Int:=(List.range n).map fun(k:Nat)=>(k:Int)
theorem a4Z {n:Nat} {i:Int}:i∈upI n↔0≤i∧i<n:=by
 simp only[upI,List.mem_map,List.mem_range];constructor
 ·rintro⟨k,hk,rfl⟩;omega
 ·rintro⟨h0,h1⟩;exact⟨i.toNat,by omega,by omega⟩
theorem I6 (n:Nat):(upI n).length=n:=by simp[upI]
@[simp] theorem c1m (n:Nat):List.take n ((upI n).map i4)=(upI n).map i4:=List.take_of_length_le (by simp[I6])
theorem a4u (n:Nat):upI (n+1)=upI n++[(n:Int)]:=by simp[upI,List.range_succ]
def a1D (g:Gr) (s:Sta) (part:List Int) (i:Int):Bool:=bAt s.Feeds i.toNat&&decide ((fdI g i).At∈part)
def m9 (g:Gr) (s:Sta) (part:List Int):List Int:=(upI g.Feeds.length).filter (a1D g s part)
theorem b5N (g:Gr) (s:Sta) (part:List Int) (i:Int) (hs:s.Feeds.length=g.Feeds.length) (hp:part.length≤1000) (h0:0≤i) (h1:i<g.Feeds.length):
  d4 Try.prog 90 (I i::a5w [[net g s],[iL part]]) (Bo (a1D g s part i)):=by
 show d4 Try.prog 90 [I i, .iptr [net g s], .iptr [iL part]] (Bo (a1D g s part i));have gb:=v8 (l:=s.Feeds) (k:=i.toNat) (by omega);have gf:=O6 h0 h1;refine d4.of_body Try.func90 rfl (by decide) (by simp[Try.ntmps90]) ?_;simp only[Try.ntmps90,Try.results90];refine aS fun K hK=>?_;simp -dsimp;apply hK;clear hK K;refine v6 k7 rfl fun K hK=>?_;simp -dsimp [gb,gf,h0];refine l4 (fdI g i).cells (fun _=>by simp[gf]) ?_;simp -dsimp [gb,gf,h0];refine g6 _ (fun hm=>a3K part (fdI g i).At (by omega)) (by simp) ?_;simp -dsimp [gb,gf,h0];refine hK _ _ _ (by decide+kernel) ?_;clear hK K;exact f7 (by simp[a1D])
theorem a4h (g:Gr) (s:Sta) (part:List Int) (hs:s.Feeds.length=g.Feeds.length) (hp:part.length≤1000) (hn:g.Feeds.length≤1000):
  d4 Try.prog 70 [net g s,iL part] (iL (m9 g s part)):=by
 have hk:=b9A (upI g.Feeds.length) 90 [[net g s],[iL part]] (a1D g s part) (fun x hx=>b5N g s part x hs hp (a4Z.1 hx).1 (a4Z.1 hx).2) (by rw[I6];omega);refine d4.of_body Try.func70 rfl (by decide) (by simp[Try.ntmps70]) ?_;simp only[Try.ntmps70,Try.results70];refine aS fun K hK=>?_;simp -dsimp;apply hK;clear hK K;refine aS fun K hK=>?_;simp -dsimp;apply hK;clear hK K;refine b9 fun K1 hK1=>?_;refine aS fun K hK=>?_;simp -dsimp;apply hK;clear hK K;refine e7 ?_;refine b7 [2,3,5,12,13] ?_;simp only[zP,Nat.reduceEqDiff,reduceIte];refine g7 [2,3,12] (α:=Nat) (fun k=>[(5, .row 2 0 k),(13,I k)]) (fun k=>[some (.els 1 [[net g s]]),some (.els 1 [[iL part]]),some (.els 1 ((upI k).map i4))]) (fun k=>k≤g.Feeds.length) (fun k=>g.Feeds.length-k) 0 ?_ ?_ ?_
 ·exact Nat.zero_le _
 ·exact(z7 5 1 (by simp)).trans (i7 (by simp[upI]))
 rintro k k1;simp only[zP,Nat.reduceEqDiff,reduceIte];refine aS fun K hK=>?_;simp -dsimp;apply hK;clear hK K;refine b9 fun K2 hK2=>?_;refine d9 rfl (fun hc0=>?_) (fun hc0=>?_)
 ·skip
  try simp at hc0
  have wk:=zW k (by omega);have f1:D8 (k+1) 9:=j7 (by omega) (by omega);refine e8 ?_;simp only[zT,reduceIte,Nat.reduceEqDiff];refine hK2 _ _ ?_;refine b7 [2,3,5,12,13] ?_;simp only[zP,Nat.reduceEqDiff,reduceIte];refine b9 fun K3 hK3=>?_;refine e7 ?_;refine aS fun K hK=>?_;simp -dsimp;apply hK;clear hK K;refine aR fun K hK=>?_;simp -dsimp [f1,I6,a4u];apply hK;clear hK K;simp only[zT,reduceIte,Nat.reduceEqDiff];refine hK3 _ _ ?_;refine b7 [2,3,5,12,13] ?_;simp only[zP,Nat.reduceEqDiff,reduceIte];refine aR fun K hK=>?_;simp -dsimp [wk];apply hK;clear hK K;simp only[zT,reduceIte,Nat.reduceEqDiff];exact⟨k+1,by omega,by omega,d8 [some 0,some 1,some 3] rfl (by simp) (by simp[a4u,I6])⟩
 ·skip
  try simp at hc0
  have hke:k=g.Feeds.length:=by omega
  subst hke;refine a4a (b7o [] rfl) ?_;simp;refine j0 ?_;simp only[zT,reduceIte,Nat.reduceEqDiff];refine hK1 _ _ ?_;refine b7 [2,3,5] ?_;simp only[zP,Nat.reduceEqDiff,reduceIte];refine aS fun K hK=>?_;simp -dsimp [I6];refine b8 _ (hk) (by simp) ?_;simp -dsimp [I6];apply hK;clear hK K;exact f7 (by simp[m9])
def red (n d:Int):Fr:=⟨n/Int.gcd n d,d/Int.gcd n d⟩
theorem a5s {n d:Int} (hd:0<d):∃a b g:Int,0<g∧(Int.gcd n d:Int)=g∧n=g*a∧d=g*b:=by
 obtain⟨a,ha⟩:=Int.gcd_dvd_left n d;obtain⟨b,hb⟩:=Int.gcd_dvd_right n d;refine⟨a,b,Int.gcd n d,?_,rfl,ha,hb⟩;have:0<Int.gcd n d:=Int.gcd_pos_of_ne_zero_right _ (by omega);omega
theorem b1d {n d:Int} (hd:0<d) (h1:-9223372036854775807≤n) (h2:n≤9223372036854775807) (h3:d≤9223372036854775807):
  0<(Int.gcd n d:Int)∧IntKind.i64.wrap (n.tdiv (Int.gcd n d))=(red n d).Num∧IntKind.i64.wrap (d.tdiv (Int.gcd n d))=(red n d).Den:=by
 obtain⟨a,b,g,hg,e,ha,hb⟩:=a5s (n:=n) hd;have ea:n.tdiv g=a:=by rw[ha];exact Int.mul_tdiv_cancel_left _ (by omega)
 have eb:d.tdiv g=b:=by rw[hb];exact Int.mul_tdiv_cancel_left _ (by omega)
 have ea':n/g=a:=by rw[ha];exact Int.mul_ediv_cancel_left _ (by omega)
 have eb':d/g=b:=by rw[hb];exact Int.mul_ediv_cancel_left _ (by omega)
 have hb0:0<b:=by
  refine Int.not_le.1 fun h=>?_;have:=Int.mul_nonpos_of_nonneg_of_nonpos (Int.le_of_lt hg) h;omega
 have hbd:b≤d:=by
  have:=Int.mul_le_mul_of_nonneg_right (show(1:Int)≤g by omega) (Int.le_of_lt hb0);omega
 have hna:a.natAbs≤n.natAbs:=by
  rw[ha,Int.natAbs_mul];exact Nat.le_mul_of_pos_left _ (by omega)
 unfold red;rw[e,ea,eb,ea',eb'];exact⟨hg,f6 (by omega) (by omega),f6 (by omega) (by omega)⟩
theorem a9c {a b:Nat} (hb:¬b=0):Nat.gcd b (a % b)=Nat.gcd a b:=by
 rw[Nat.gcd_comm a b,Nat.gcd_rec b a,Nat.gcd_comm]
theorem C4 (n d:Int) (hd:0<d) (h1:-9223372036854775807≤n) (h2:n≤9223372036854775807) (h3:d≤9223372036854775807):d4 Try.prog 72 [I n,I d] (red n d).av:=by
 have wn:IntKind.i64.wrap (-n)=-n:=f6 (by omega) (by omega);have hmx:(if n< -n then-n else n)=(n.natAbs:Int):=by split<;>omega
 obtain⟨hg,q1,q2⟩:=b1d hd h1 h2 h3;refine d4.of_body Try.func72 rfl (by decide) (by simp[Try.ntmps72]) ?_;simp only[Try.ntmps72,Try.results72];refine aS fun K hK=>?_;simp -dsimp;apply hK;clear hK K;refine aS fun K hK=>?_;simp -dsimp [wn,hmx];apply hK;clear hK K;refine b9 fun K1 hK1=>?_;refine e7 ?_;refine b7 [0,1,4,5,6] ?_;simp only[zP,Nat.reduceEqDiff,reduceIte];refine g7 [0,1,4] (α:=Nat×Nat) (fun x=>[(5,I x.1),(6,I x.2)]) (fun _=>[some (.els 2 [[I 0,I 0]])]) (fun x=>Nat.gcd x.1 x.2=Int.gcd n d) (fun x=>x.2) (n.natAbs,d.toNat) ?_ ?_ ?_
 ·simp only[Int.gcd];congr 1;omega
 ·have hdn:((d.toNat:Nat):Int)=d:=Int.toNat_of_nonneg (by omega);exact i7 (by simp[hdn])
 rintro⟨a,b⟩ i1;simp only at i1 ⊢;simp only[zP,Nat.reduceEqDiff,reduceIte];refine b9 fun K2 hK2=>?_;refine aS fun K hK=>?_;simp -dsimp;apply hK;clear hK K;refine d9 rfl (fun hc0=>?_) (fun hc0=>?_)
 ·skip
  try simp at hc0
  have hb0:¬b=0:=by omega
  have hm:(a:Int).tmod b=((a % b:Nat):Int):=by rw[Int.tmod_eq_emod_of_nonneg (by omega)];rfl
  refine e8 ?_;simp only[zT,reduceIte,Nat.reduceEqDiff];refine hK2 _ _ ?_;refine b7 [0,1,4,5,6] ?_;simp only[zP,Nat.reduceEqDiff,reduceIte];refine e7 ?_;refine F4 k7 rfl fun K hK=>?_;simp -dsimp [hm,hb0];refine hK _ _ _ (by decide+kernel) ?_;clear hK K;simp only[zT,reduceIte,Nat.reduceEqDiff];exact⟨(b,a % b),by simp only;rw[a9c hb0];exact i1,Nat.mod_lt _ (by omega),i7 (by simp)⟩
 ·skip
  try simp at hc0
  have hb0:b=0:=by omega
  subst hb0;rw[Nat.gcd_zero_right]at i1;subst i1;have hg0:¬Int.gcd n d=0:=by omega
  refine j0 ?_;simp only[zT,reduceIte,Nat.reduceEqDiff];refine hK1 _ _ ?_;refine b7 [0,1,4,5] ?_;simp only[zP,Nat.reduceEqDiff,reduceIte];refine v6 k7 rfl fun K hK=>?_;simp -dsimp [q1,q2,hg0];refine hK _ _ _ (by decide+kernel) ?_;clear hK K;exact f7 (by simp)
end Go.Cur
end
section
namespace Go.Cur
def E {α:Type}:(α→List α→Int)→List α→Int
 |_,[]=>0
 |f,c::cs=>f c cs-E (fun d l=>f d (c::l)) cs
theorem H4 {α:Type}:∀{cs:List α} {f g:α→List α→Int},(∀c l,c∈cs→l.length+1=cs.length→(∀x∈l,x∈cs)→f c l=g c l)→E f cs=E g cs
 |[],_,_,_=>rfl
 | c::cs,f,g,h=>by
  rw[E,E,h c cs (by simp) (by simp) (fun x hx=>by simp[hx])]
  congr 1
  exact H4 fun d l hd hl hm=>h d (c::l) (by simp[hd]) (by simp only[List.length_cons];omega) (fun x hx=>by
   rcases List.mem_cons.1 hx with rfl|hx
   ·simp
   ·exact List.mem_cons_of_mem _ (hm x hx))
theorem b1L {α:Type}:∀{cs:List α} {f g:α→List α→Int},E (fun c l=>f c l+g c l) cs=E f cs+E g cs
 |[],_,_=>rfl
 |c::cs,f,g=>by rw[E,E,E,b1L];omega
theorem a2x {α:Type} (a:Int):∀{cs:List α} {f:α→List α→Int},E (fun c l=>a*f c l) cs=a*E f cs
 |[],_=>by simp[E]
 |c::cs,f=>by rw[E,E,a2x,Int.mul_sub]
theorem c0c {α:Type} {cs:List α} {f:α→List α→Int}:E (fun c l=>-f c l) cs=-E f cs:=by
 have:=a2x (cs:=cs) (f:=f) (-1);simpa using this
theorem c1y {α:Type} {cs:List α} {f g:α→List α→Int}:E (fun c l=>f c l-g c l) cs=E f cs-E g cs:=by
 have:=b1L (cs:=cs) (f:=f) (g:=fun c l=>-g c l);rw[c0c]at this;simpa [Int.sub_eq_add_neg]using this
theorem a3M {α:Type} {cs:List α} {f:α→List α→Int} (h:∀c l,c∈cs→l.length+1=cs.length→(∀x∈l,x∈cs)→f c l=0):E f cs=0:=by
 have:E f cs=E (fun c l=>0*f c l) cs:=H4 fun c l h1 h2 h3=>by rw[h c l h1 h2 h3];simp
 rw[this,a2x,Int.zero_mul]
theorem b6I {α:Type} {a b:α}:∀{pre post:List α} {f:α→List α→Int},(∀c u v,f c (u++a::b::v)=-f c (u++b::a::v))→E f (pre++a::b::post)=-E f (pre++b::a::post)
 | [],post,f,h=>by
  simp only[List.nil_append,E];have:E (fun d l=>f d (a::b::l)) post=-E (fun d l=>f d (b::a::l)) post:=by
   rw[←c0c];exact H4 fun d l _ _ _=>h d [] l
  omega
 |x::pre,post,f,h=>by
  simp only[List.cons_append,E];rw[h,b6I (f:=fun d l=>f d (x::l)) (pre:=pre) (post:=post) fun c u v=>h c (x::u) v];omega
theorem b7w {α:Type} {a b z:α} {x y:Int}:∀{pre post:List α} {f:α→List α→Int},(∀c u v,f c (u++z::v)=x*f c (u++a::v)+y*f c (u++b::v))→(∀l,f z l=x*f a l+y*f b l)→
  E f (pre++z::post)=x*E f (pre++a::post)+y*E f (pre++b::post)
 | [],post,f,h,hz=>by
  simp only[List.nil_append,E];have:E (fun d l=>f d (z::l)) post=x*E (fun d l=>f d (a::l)) post+y*E (fun d l=>f d (b::l)) post:=by
   rw[←a2x,←a2x,←b1L];exact H4 fun d l _ _ _=>h d [] l
  rw[hz,this,Int.mul_sub,Int.mul_sub];omega
 |w::pre,post,f,h,hz=>by
  simp only[List.cons_append,E];rw[h,b7w (f:=fun d l=>f d (w::l)) (pre:=pre) (post:=post) (fun c u v=>h c (w::u) v) (fun l=>hz (w::l)),Int.mul_sub,Int.mul_sub];omega
theorem c0r {α:Type}:∀{cs:List α} {h:α→α→List α→Int},E (fun c l=>E (fun d m=>h c d m) l) cs=-E (fun c l=>E (fun d m=>h d c m) l) cs
 |[],_=>rfl
 |x::cs,h=>by
  simp only[E,c1y];have h1:E (fun c=>E fun d l=>h c d (x::l)) cs=-E (fun c=>E fun d l=>h d c (x::l)) cs:=c0r (cs:=cs) (h:=fun c d m=>h c d (x::m));have h2:E (fun d m=>h d x m) cs=E (fun c=>h c x) cs:=rfl;have h3:E (fun d m=>h x d m) cs=E (h x) cs:=rfl;omega
def det:List Nat→List (Nat→Int)→Int
 |[],[]=>1
 |[],_::_=>0
 |i::is,cs=>E (fun c l=>c i*det is l) cs
def sg:Nat→Int
 |0=>1
 |n+1=>-sg n
theorem b2l:∀n,sg n*sg n=1
 |0=>rfl
 |n+1=>by rw[sg,Int.neg_mul_neg,b2l n]
theorem a8U {a b:Nat→Int}:∀{is:List Nat} {pre post:List (Nat→Int)},det is (pre++a::b::post)=-det is (pre++b::a::post)
 |[],pre,post=>by cases pre<;>simp[det]
 |i::is,pre,post=>by
  rw[det,det];exact b6I fun c u v=>by rw[a8U (is:=is),Int.mul_neg]
theorem b2W {a b:Nat→Int} {x y:Int}:∀{is:List Nat} {pre post:List (Nat→Int)},is≠[]→det is (pre++(fun i=>x*a i+y*b i)::post)=x*det is (pre++a::post)+y*det is (pre++b::post)
 |[],pre,post,h=>absurd rfl h
 |[i],pre,post,_=>by
  rw[det,det,det];refine b7w (fun c u v=>?_) (fun l=>?_)
  ·cases u<;>simp[det]
  ·simp only[Int.add_mul,Int.mul_assoc]
 |i::j::is,pre,post,_=>by
  rw[det,det,det];refine b7w (fun c u v=>?_) (fun l=>?_)
  ·rw[b2W (is:=j::is) (by simp),Int.mul_add,Int.mul_left_comm,Int.mul_left_comm (c i) y]
  ·simp only[Int.add_mul,Int.mul_assoc]
theorem a1T {a:Nat→Int} {is:List Nat}:∀{pre mid post:List (Nat→Int)},det is (pre++mid++a::post)=sg mid.length*det is (pre++a::mid++post)
 |pre,[],post=>by simp[sg]
 |pre,m::mid,post=>by
  have h:=a1T (a:=a) (is:=is) (pre:=pre++[m]) (mid:=mid) (post:=post);have h2:=a8U (a:=m) (b:=a) (is:=is) (pre:=pre) (post:=mid++post);simp only[List.append_assoc,List.cons_append,List.nil_append,List.length_cons,sg]at h h2 ⊢;rw[h,h2,Int.mul_neg,Int.neg_mul]
theorem a4T {i j:Nat} {is:List Nat} {cs:List (Nat→Int)}:det (i::j::is) cs=-det (j::i::is) cs:=by
 simp only[det];simp only[←a2x];rw[c0r]
 congr 1
 exact H4 fun c l _ _ _=>H4 fun d m _ _ _=>by rw[Int.mul_left_comm]
theorem a5N {i:Nat}:∀{u v:List Nat} {cs:List (Nat→Int)},det (i::(u++i::v)) cs=0
 |[],v,cs=>by have:=a4T (i:=i) (j:=i) (is:=v) (cs:=cs);rw[List.nil_append];omega
 |j::u,v,cs=>by
  rw[List.cons_append,a4T,det];rw[a3M fun c l _ _ _=>by rw[a5N,Int.mul_zero]]
  rfl
theorem b1o {i:Nat} {is:List Nat} {cs:List (Nat→Int)} (h:i∈is):det (i::is) cs=0:=by
 obtain⟨u,v,rfl⟩:=List.append_of_mem h;exact a5N
theorem M7 {r:Nat}:∀{is v:List Nat} {cs:List (Nat→Int)},det (is++r::v) cs=sg is.length*det (r::(is++v)) cs
 |[],v,cs=>by simp[sg]
 | i::is,v,cs=>by
  have:det (i::(is++r::v)) cs=sg is.length*det (i::r::(is++v)) cs:=by
   rw[det,det,←a2x];exact H4 fun c l _ _ _=>by rw[M7,Int.mul_left_comm]
  rw[List.cons_append,this,a4T,List.length_cons,sg,Int.mul_neg,Int.neg_mul];rfl
def rep (i:Nat) (is:List Nat) (b:Nat→Int) (pre:List (Nat→Int)):List (Nat→Int)→Int
 |[]=>0
 |c::post=>c i*det is (pre++b::post)+rep i is b (pre++[c]) post
theorem c0k {i:Nat} {is:List Nat} {b:Nat→Int}:∀{post pre:List (Nat→Int)},E (fun d l=>d i*det is (b::pre++l)) post=sg pre.length*rep i is b pre post
 |[],pre=>by simp[E,rep]
 |c::post,pre=>by
  have h:=c0k (i:=i) (is:=is) (b:=b) (post:=post) (pre:=pre++[c]);have h2:=a1T (a:=b) (is:=is) (pre:=[]) (mid:=pre) (post:=post);simp only[List.append_assoc,List.cons_append,List.nil_append,List.length_append,List.length_cons,List.length_nil,sg]at h h2 ⊢;rw[E,rep,h,h2];have hs:=b2l pre.length;rw[Int.mul_add,Int.mul_left_comm (sg pre.length) (c i),←Int.mul_assoc (sg pre.length) (sg pre.length),hs,Int.one_mul,Int.neg_mul];omega
theorem b9R {i:Nat} {is:List Nat} {b:Nat→Int} {cs:List (Nat→Int)} (h:i∈is):rep i is b [] cs=det is cs*b i:=by
 have h1:=b1o (cs:=b::cs) h;have h2:=c0k (i:=i) (is:=is) (b:=b) (post:=cs) (pre:=[]);rw[det,E]at h1;simp only[List.cons_append,List.nil_append,List.length_nil,sg,Int.one_mul]at h2;rw[h2]at h1;rw[Int.mul_comm];omega
end Go.Cur
end
section
namespace Go.Cur
def sm (f:Nat→Int):List Nat→Int
 |[]=>0
 |i::is=>f i+sm f is
theorem J5 {f:Nat→Int}:∀{u v:List Nat},sm f (u++v)=sm f u+sm f v
 |[],v=>by simp[sm]
 |i::u,v=>by rw[List.cons_append,sm,sm,J5];omega
theorem n0 {f g:Nat→Int}:∀{u:List Nat},(∀i∈u,f i=g i)→sm f u=sm g u
 |[],_=>rfl
 |i::u,h=>by rw[sm,sm,h i (by simp),n0 fun k hk=>h k (by simp[hk])]
theorem M4 {f:Nat→Int}:∀{u:List Nat},(∀i∈u,f i=0)→sm f u=0
 |[],_=>rfl
 |i::u,h=>by rw[sm,h i (by simp),M4 fun k hk=>h k (by simp[hk])];rfl
theorem a6j {f:Nat→Int}:∀{u:List Nat},(∀i∈u,0≤f i)→0≤sm f u
 |[],_=>by simp[sm]
 |i::u,h=>by
  have h1:=h i (by simp);have h2:=a6j (f:=f) (u:=u) fun k hk=>h k (by simp[hk]);rw[sm];omega
theorem b1a {f g:Nat→Int}:∀{u:List Nat},(∀i∈u,f i≤g i)→sm f u≤sm g u
 |[],_=>by simp[sm]
 |i::u,h=>by
  have h1:=h i (by simp);have h2:=b1a (f:=f) (g:=g) (u:=u) fun k hk=>h k (by simp[hk]);rw[sm,sm];omega
theorem a0F {f g:Nat→Int}:∀{u:List Nat},sm (fun i=>f i+g i) u=sm f u+sm g u
 |[]=>rfl
 |i::u=>by rw[sm,sm,sm,a0F];omega
theorem p7 {f:Nat→Int} (a:Int):∀{u:List Nat},sm (fun i=>a*f i) u=a*sm f u
 |[]=>by simp[sm]
 |i::u=>by rw[sm,sm,p7,Int.mul_add]
theorem a0l {f:Nat→Nat→Int}:∀{u v:List Nat},sm (fun i=>sm (fun k=>f i k) v) u=sm (fun k=>sm (fun i=>f i k) u) v
 |[],v=>by rw[sm,M4];intro k _;rfl
 |i::u,v=>by
  rw[sm,a0l (u:=u),←a0F];exact n0 fun k _=>rfl
theorem X6 {f:Nat→Int} {u v:List Nat} {k:Nat}:sm f (u++k::v)=f k+sm f (u++v):=by
 rw[J5,J5,sm];omega
theorem b8V {α β:Type} {g:β→α}:∀{cs:List β} {f:α→List α→Int},E f (cs.map g)=E (fun c l=>f (g c) (l.map g)) cs
 |[],_=>rfl
 |c::cs,f=>by
  rw[List.map_cons,E,E,b8V];rfl
theorem Z4 {i:Nat} {is ks:List Nat} {A:Nat→Nat→Int}:det (i::is) (ks.map fun k i=>A i k)=E (fun k l=>A i k*det is (l.map fun k i=>A i k)) ks:=by
 rw[det,b8V]
theorem a2F:∀{is ks:List Nat} {A B:Nat→Nat→Int},(∀i∈is,∀k∈ks,A i k=B i k)→det is (ks.map fun k i=>A i k)=det is (ks.map fun k i=>B i k)
 |[],ks,A,B,_=>by cases ks<;>rfl
 |i::is,ks,A,B,h=>by
  rw[Z4,Z4];exact H4 fun k l hk _ hl=>by rw[h i (by simp) k hk,a2F fun i hi k hk=>h i (by simp[hi]) k (hl k hk)]
theorem a8X {e:Nat→Int}:∀{is:List Nat} {cs:List (Nat→Int)},(∀i∈is,e i=0)→det is (e::cs)=0
 |[],_,_=>rfl
 |i::is,cs,h=>by
  rw[det,E,h i (by simp),a3M fun c l _ _ _=>by rw[a8X fun k hk=>h k (by simp[hk]),Int.mul_zero]];simp
theorem a8G {i:Nat} {is:List Nat} {cs:List (Nat→Int)} (h:∀c∈cs,sm c (i::is)=0):det (i::is) cs=0:=by
 have hw:∀w:List Nat,(∀k∈w,k∈is)→E (fun c l=>sm c w*det is l) cs=0:=by
  intro w
  induction w with
  |nil=>intro _;exact a3M fun c l _ _ _=>by rw[sm,Int.zero_mul]
  |cons k w ih=>
   intro hk;have:E (fun c l=>sm c (k::w)*det is l) cs=E (fun c l=>c k*det is l+sm c w*det is l) cs:=H4 fun c l _ _ _=>by rw[sm,Int.add_mul]
   rw[this,b1L,ih fun k hk'=>hk k (by simp[hk'])];have:=b1o (cs:=cs) (hk k (by simp));rw[det]at this;omega
 have h1:E (fun c l=>sm c (i::is)*det is l) cs=0:=a3M fun c l hc _ _=>by rw[h c hc,Int.zero_mul]
 have h2:E (fun c l=>sm c (i::is)*det is l) cs=E (fun c l=>c i*det is l+sm c is*det is l) cs:=H4 fun c l _ _ _=>by rw[sm,Int.add_mul]
 rw[h2,b1L,hw is fun _ h=>h]at h1;rw[det];omega
def D (A:Nat→Nat→Int) (ns:List Nat):Int:=det ns (ns.map fun k i=>A i k)
def a0g (A:Nat→Nat→Int) (k0:Nat) (s:Int):Nat→Nat→Int:=fun i k=>if i=k0∧k=k0 then A i k-s else A i k
theorem b4T {k0:Nat} {u v:List Nat} {cu cv:List (Nat→Int)} (hl:cu.length=u.length) (hu:k0∉u) (hv:k0∉v):
  det (u++k0::v) (cu++(fun i=>if i=k0 then 1 else 0)::cv)=det (u++v) (cu++cv):=by
 have h1:=a1T (a:=fun i=>if i=k0 then(1:Int)else 0) (is:=u++k0::v) (pre:=[]) (mid:=cu) (post:=cv);simp only[List.nil_append,List.cons_append]at h1;rw[h1,M7,det,E,a3M fun c l _ _ _=>?_,hl]
 ·simp only[if_pos,Int.one_mul,Int.sub_zero];rw[←Int.mul_assoc,b2l,Int.one_mul]
 ·rw[a8X fun i hi=>?_,Int.mul_zero];rw[if_neg];rintro rfl
  rcases List.mem_append.1 hi with h|h
  ·exact hu h
  ·exact hv h
theorem b7j {A:Nat→Nat→Int} {u v:List Nat} {k0:Nat} (s:Int) (hu:k0∉u) (hv:k0∉v):D A (u++k0::v)=D (a0g A k0 s) (u++k0::v)+s*D A (u++v):=by
 have hc:∀w:List Nat,k0∉w→(w.map fun k i=>A i k)=w.map fun k i=>a0g A k0 s i k:=fun w hw=>List.map_congr_left fun k hk=>by
  funext i
  unfold a0g;rw[if_neg];rintro⟨_,rfl⟩;exact hw hk
 unfold D;simp only[List.map_append,List.map_cons];have he:(fun i=>A i k0)=fun i=>1*a0g A k0 s i k0+s*(if i=k0 then 1 else 0):=by
  funext i
  unfold a0g
  by_cases h:i=k0
  ·simp[h]
  ·simp[h]
 rw[he,b2W (by simp),Int.one_mul,b4T (by simp) hu hv,←hc u hu,←hc v hv]
def b0Q (A:Nat→Nat→Int) (ns:List Nat):Prop:=(∀i∈ns,∀k∈ns,i≠k→A i k≤0)∧∀k∈ns,0≤sm (fun i=>A i k) ns
theorem a3Z {A:Nat→Nat→Int} {k0 i k:Nat} {s:Int} (h:i≠k∨k≠k0):a0g A k0 s i k=A i k:=by
 unfold a0g;rw[if_neg];rintro⟨rfl,rfl⟩
 rcases h with h|h<;>exact h rfl
theorem b2U {A:Nat→Nat→Int} {k0:Nat} {s:Int} {u v:List Nat} (hu:k0∉u) (hv:k0∉v):sm (fun i=>a0g A k0 s i k0) (u++k0::v)=sm (fun i=>A i k0) (u++k0::v)-s:=by
 rw[X6,X6,n0 (g:=fun i=>A i k0)]
 ·simp only[a0g,and_self,if_true];omega
 ·intro i hi;refine a3Z (.inl ?_);rintro rfl
  rcases List.mem_append.1 hi with h|h
  ·exact hu h
  ·exact hv h
theorem b0Q.minor {A:Nat→Nat→Int} {k0:Nat} {u v:List Nat} (h:b0Q A (u++k0::v)) (hu:k0∉u) (hv:k0∉v):b0Q A (u++v):=by
 have hm:∀i∈u++v,i∈u++k0::v:=fun i hi=>by
  simp only[List.mem_append,List.mem_cons]at hi ⊢;rcases hi with h|h<;>simp[h]
 refine⟨fun i hi k hk hne=>h.1 i (hm i hi) k (hm k hk) hne,fun k hk=>?_⟩;have h1:=h.2 k (hm k hk);rw[X6]at h1;have h2:=h.1 k0 (by simp) k (hm k hk) (by
  rintro rfl
  rcases List.mem_append.1 hk with h|h
  ·exact hu h
  ·exact hv h)
 omega
theorem b0Q.less {A:Nat→Nat→Int} {k0:Nat} {u v:List Nat} (h:b0Q A (u++k0::v)) (hu:k0∉u) (hv:k0∉v) {s:Int} (hs:s=sm (fun i=>A i k0) (u++k0::v)):
  b0Q (a0g A k0 s) (u++k0::v)∧sm (fun i=>a0g A k0 s i k0) (u++k0::v)=0∧∀k,k≠k0→sm (fun i=>a0g A k0 s i k) (u++k0::v)=sm (fun i=>A i k) (u++k0::v):=by
 have h0:=b2U (A:=A) (s:=s) hu hv;have h1:∀k,k≠k0→sm (fun i=>a0g A k0 s i k) (u++k0::v)=sm (fun i=>A i k) (u++k0::v):=fun k hk=>n0 fun i _=>a3Z (.inr hk);refine⟨⟨fun i hi k hk hne=>?_,fun k hk=>?_⟩,by omega,h1⟩
 ·rw[a3Z (.inl hne)];exact h.1 i hi k hk hne
 ·by_cases e:k=k0
  ·subst e;omega
  ·rw[h1 k e];exact h.2 k hk
theorem x5 {u v:List Nat} {k:Nat} (h:(u++k::v).Nodup):k∉u∧k∉v∧(u++v).Nodup:=by
 simp only[List.nodup_append,List.nodup_cons,List.mem_cons]at h ⊢;obtain⟨h1,⟨h2,h3⟩,h4⟩:=h;refine⟨fun hk=>h4 k hk k (.inl rfl) rfl,h2,h1,h3,fun a ha b hb=>h4 a ha b (.inr hb)⟩
theorem c2h:∀(n:Nat) {ns:List Nat} {A:Nat→Nat→Int},ns.length=n→ns.Nodup→b0Q A ns→0≤D A ns
 |0,ns,A,hn,_,_=>by
  rw[List.length_eq_zero_iff]at hn;subst hn;simp[D,det]
 | n +1,ns,A,hn,hd,hc=>by
  have key:∀(w:List Nat) (A:Nat→Nat→Int),b0Q A ns→(∀k∈ns,k∉w→sm (fun i=>A i k) ns=0)→0≤D A ns:=by
   intro w
   induction w with
   | nil=>
    intro A _ h0
    cases ns with
    |nil=>simp at hn
    | cons i is=>
     have:D A (i::is)=0:=a8G fun c hc=>by
      obtain⟨k,hk,rfl⟩:=List.mem_map.1 hc;exact h0 k hk (by simp)
     omega
   | cons k0 w ih=>
    intro A hc h0
    by_cases hk0:k0∈ns
    ·obtain⟨u,v,rfl⟩:=List.append_of_mem hk0;obtain⟨hu,hv,hd'⟩:=x5 hd;obtain⟨c1,c2,c3⟩:=hc.less hu hv rfl;rw[b7j (sm (fun i=>A i k0) (u++k0::v)) hu hv];have i1:=ih _ c1 fun k hk hkw=>by
      by_cases e:k=k0
      ·subst e;exact c2
      ·rw[c3 k e];exact h0 k hk (by simp[e,hkw])
     have i2:=c2h n (by simp only[List.length_append,List.length_cons]at hn ⊢;omega) hd' (hc.minor hu hv);have:=Int.mul_nonneg (hc.2 k0 hk0) i2;omega
    ·exact ih A hc fun k hk hkw=>h0 k hk (by
      simp only[List.mem_cons,not_or];exact⟨fun e=>hk0 (e▸hk),hkw⟩)
  exact key ns A hc fun k hk hkn=>absurd hk hkn
def b7V (A:Nat→Nat→Int) (ns:List Nat):Prop:=∀U:List Nat,U.Nodup→U≠[]→(∀k∈U,k∈ns)→∃k∈U,0<sm (fun i=>A i k) U
theorem b9l:∀(n:Nat) {ns:List Nat} {A:Nat→Nat→Int},ns.length=n→ns.Nodup→b0Q A ns→b7V A ns→0<D A ns
 |0,ns,A,hn,_,_,_=>by
  rw[List.length_eq_zero_iff]at hn;subst hn;simp[D,det]
 | n+1,ns,A,hn,hd,hc,hl=>by
  obtain⟨k0,hk0,hs⟩:=hl ns hd (by intro e;rw[e]at hn;simp at hn) fun _ h=>h;obtain⟨u,v,rfl⟩:=List.append_of_mem hk0;obtain⟨hu,hv,hd'⟩:=x5 hd;rw[b7j (sm (fun i=>A i k0) (u++k0::v)) hu hv];have i1:=c2h (n+1) hn hd (hc.less hu hv rfl).1;have i2:=b9l n (ns:=u++v) (A:=A) (by simp only[List.length_append,List.length_cons]at hn ⊢;omega) hd' (hc.minor hu hv) fun U h1 h2 h3=>hl U h1 h2 fun k hk=>by
   have:=h3 k hk;simp only[List.mem_append,List.mem_cons]at this ⊢
   rcases this with h|h<;>simp[h]
  have:=Int.mul_pos hs i2;omega
end Go.Cur
end
section
namespace Go.Cur
theorem a3L {x:Nat→Int}:∀{ns:List Nat},ns≠[]→∃k∈ns,∀i∈ns,x k≤x i
 |[],h=>absurd rfl h
 |[a],_=>⟨a,by simp,by simp⟩
 | a::b::l,_=>by
  obtain⟨k,hk,hm⟩:=a3L (x:=x) (ns:=b::l) (by simp)
  by_cases h:x a≤x k
  ·exact⟨a,by simp,fun i hi=>by
    rcases List.mem_cons.1 hi with rfl|hi
    ·exact Int.le_refl _
    ·have:=hm i hi;omega⟩
  ·exact⟨k,List.mem_cons_of_mem _ hk,fun i hi=>by
    rcases List.mem_cons.1 hi with rfl|hi
    ·omega
    ·exact hm i hi⟩
theorem b2Q {f:Nat→Int}:∀{u:List Nat},(∀i∈u,0≤f i)→(∃i∈u,0<f i)→0<sm f u
 |[],_,⟨_,h,_⟩=>by simp at h
 |a::u,h,⟨i,hi,hp⟩=>by
  have h1:=h a (by simp);have h2:=a6j (f:=f) (u:=u) fun k hk=>h k (by simp[hk]);rw[sm]
  rcases List.mem_cons.1 hi with rfl|hi
  ·omega
  ·have:=b2Q (f:=f) (u:=u) (fun k hk=>h k (by simp[hk])) ⟨i,hi,hp⟩;omega
theorem a1J {f:Nat→Int} {p:Nat→Bool}:∀{u:List Nat},sm f u=sm f (u.filter p)+sm f (u.filter fun k=> !p k)
 |[]=>rfl
 |a::u=>by
  have:=a1J (f:=f) (p:=p) (u:=u)
  by_cases h:p a
  ·simp only[List.filter_cons,h,if_true,Bool.not_true,sm];simp only[Bool.false_eq_true,if_false];omega
  ·simp only[List.filter_cons,h,sm];simp only[Bool.false_eq_true,if_false,Bool.not_false,if_true,sm];omega
theorem b1b {f:Nat→Int} {ns U:List Nat} (hn:ns.Nodup) (hU:U.Nodup) (hs:∀k∈U,k∈ns) (h:∀k∈ns,k∉U→f k≤0):sm f ns≤sm f U:=by
 induction U generalizing ns with
 |nil=>
  rw[sm];have:=a6j (f:=fun k=>-f k) (u:=ns) fun k hk=>by have:=h k hk (by simp);omega
  have h2:=p7 (f:=f) (-1) (u:=ns);simp only[Int.neg_mul,Int.one_mul]at h2;omega
 | cons a U ih=>
  obtain⟨u,v,rfl⟩:=List.append_of_mem (hs a (by simp));obtain⟨hu,hv,hd⟩:=x5 hn;rw[List.nodup_cons]at hU;rw[X6,sm];have:=ih hd hU.2 (fun k hk=>by
   have:=hs k (by simp[hk]);simp only[List.mem_append,List.mem_cons]at this ⊢
   rcases this with h|rfl|h
   ·simp[h]
   ·exact absurd hk hU.1
   ·simp[h]) fun k hk hkU=>h k (by
    simp only[List.mem_append,List.mem_cons]at hk ⊢;rcases hk with h|h<;>simp[h]) (by
    simp only[List.mem_cons,not_or];refine⟨?_,hkU⟩;rintro rfl
    rcases List.mem_append.1 hk with h|h
    ·exact hu h
    ·exact hv h)
  omega
theorem W7 {A:Nat→Nat→Int} {ns:List Nat} {x:Nat→Int} (hd:ns.Nodup) (hoff:∀i∈ns,∀k∈ns,i≠k→A i k≤0) (hrow:∀i∈ns,0≤sm (fun k=>A i k) ns) (hcol:∀k∈ns,0≤sm (fun i=>A i k) ns) (hl:b7V A ns)
  (hx:∀i∈ns,0≤sm (fun k=>A i k*x k) ns):∀k∈ns,0≤x k:=by
 intro k0 hk0;obtain⟨km,hkm,hmin⟩:=a3L (x:=x) (ns:=ns) (by rintro rfl;simp at hk0)
 suffices h:0≤x km by have:=hmin k0 hk0;omega
 refine Int.not_lt.1 fun hneg=>?_
 let p:Nat→Bool:=fun k=>decide (x k=x km)
 let U:=ns.filter p
 let V:=ns.filter fun k=> !p k
 let sig:Nat→Int:=fun k=>sm (fun i=>A i k) U
 have hU:∀k∈U,k∈ns∧x k=x km:=fun k hk=>by simpa [U,p]using hk
 have hV:∀k∈V,k∈ns∧x km+1≤x k∧∀i∈U,i≠k:=fun k hk=>by
  have:k∈ns∧¬x k=x km:=by simpa [V,p]using hk
  have h2:=hmin k this.1;exact⟨this.1,by omega,fun i hi e=>this.2 (e▸(hU i hi).2)⟩
 have hUd:U.Nodup:=hd.filter _;have hUn:U≠[]:=List.ne_nil_of_mem (a:=km) (by simp[U,p,hkm]);have h1:0≤sm (fun i=>sm (fun k=>A i k*x k) ns) U:=a6j fun i hi=>hx i (hU i hi).1;rw[a0l]at h1;have h2:sm (fun k=>sm (fun i=>A i k*x k) U) ns=sm (fun k=>x k*sig k) ns:=n0 fun k _=>by
  rw[←p7];exact n0 fun i _=>Int.mul_comm _ _
 rw[h2,a1J (p:=p)]at h1;have h3:sm (fun k=>x k*sig k) U=x km*sm sig U:=by
  rw[←p7];exact n0 fun k hk=>by rw[(hU k hk).2]
 have hsV:∀k∈V,sig k≤0:=fun k hk=>by
  have:=a6j (f:=fun i=>-A i k) (u:=U) fun i hi=>by
   have:=hoff i (hU i hi).1 k (hV k hk).1 ((hV k hk).2.2 i hi);omega
  have h2:=p7 (f:=fun i=>A i k) (-1) (u:=U);simp only[Int.neg_mul,Int.one_mul]at h2;show sm (fun i=>A i k) U≤0;omega
 have h4:sm (fun k=>x k*sig k) V≤sm (fun k=>(x km+1)*sig k) V:=b1a fun k hk=>by
  have a:=hsV k hk;have b:=(hV k hk).2.1;exact Int.mul_le_mul_of_nonpos_right b a
 rw[p7]at h4;have h5:sm sig U+sm sig V=sm (fun i=>sm (fun k=>A i k) ns) U:=by
  have:=a1J (f:=sig) (p:=p) (u:=ns);have h6:=a0l (f:=A) (u:=U) (v:=ns);show sm sig (ns.filter p)+sm sig (ns.filter fun k=> !p k)=_;rw[←this,h6]
 have h6:0≤sm (fun i=>sm (fun k=>A i k) ns) U:=a6j fun i hi=>hrow i (hU i hi).1;have h7:0<sm sig U:=by
  refine b2Q (fun k hk=>?_) (hl U hUd hUn fun k hk=>(hU k hk).1);have:=hcol k (hU k hk).1;have h8:=b1b (f:=fun i=>A i k) hd hUd (fun k hk=>(hU k hk).1) fun i hi hiU=>hoff i hi k (hU k hk).1 (by rintro rfl;exact hiU hk);show 0≤sm (fun i=>A i k) U;omega
 have h8:sm sig V≤0:=by
  have:=b1a (f:=sig) (g:=fun _=>0) (u:=V) hsV;rw[M4 fun _ _=>rfl]at this;exact this
 change 0≤sm (fun k=>x k*sig k) U+sm (fun k=>x k*sig k) V at h1;rw[h3]at h1;have h9:x km*(sm sig U+sm sig V)≤0:=by
  rw[h5];exact Int.mul_nonpos_of_nonpos_of_nonneg (by omega) h6
 rw[Int.mul_add]at h9;rw[Int.add_mul,Int.one_mul]at h4;have h10:sm sig V=0:=by omega
 have h11:x km*(sm sig U+sm sig V)<0:=Int.mul_neg_of_neg_of_pos hneg (by omega);rw[Int.mul_add]at h11;omega
end Go.Cur
end
section
namespace Go.Cur
def num (A:Nat→Nat→Int) (b:Nat→Int) (ns:List Nat) (k:Nat):Int:=det ns (ns.map fun j i=>if j=k then b i else A i j)
theorem b3Y {A:Nat→Nat→Int} {b:Nat→Int} {i:Nat} {is:List Nat}:∀{post pre:List Nat},(pre++post).Nodup→
  rep i is b (pre.map fun k i=>A i k) (post.map fun k i=>A i k)=sm (fun k=>A i k*det is ((pre++post).map fun j i=>if j=k then b i else A i j)) post
 |[],_,_=>rfl
 | k::post,pre,h=>by
  have ih:=b3Y (A:=A) (b:=b) (i:=i) (is:=is) (post:=post) (pre:=pre++[k]) (by simpa using h);obtain⟨h1,h2,_⟩:=x5 h;have hc:∀w:List Nat,k∉w→(w.map fun j i=>if j=k then b i else A i j)=w.map fun k i=>A i k:=fun w hw=>List.map_congr_left fun j hj=>by
   funext i
   rw[if_neg];rintro rfl;exact hw hj
  simp only[List.map_append,List.map_cons,List.map_nil,List.append_assoc,List.cons_append,List.nil_append]at ih;rw[List.map_cons,rep,sm,ih];rw[List.map_append,List.map_cons];rw[hc pre h1,hc post h2];simp
theorem b0F {A:Nat→Nat→Int} {b:Nat→Int} {ns:List Nat} (hd:ns.Nodup) {i:Nat} (hi:i∈ns):sm (fun k=>A i k*num A b ns k) ns=D A ns*b i:=by
 have h1:=b9R (i:=i) (is:=ns) (b:=b) (cs:=ns.map fun k i=>A i k) hi;have h2:=b3Y (A:=A) (b:=b) (i:=i) (is:=ns) (post:=ns) (pre:=[]) hd;simp only[List.map_nil,List.nil_append]at h2;rw[h2]at h1;exact h1
structure n9 where
 ns:List Nat
 L:Nat→Nat→Int
 u:Nat→Int
 fs:List Nat
 p:Nat→Nat
 s:Nat→Int
 V:Nat→Int
def n9.at_ (P:n9) (S:Nat→Bool) (c:Nat→Int) (i:Nat):Int:=sm (fun b=>if S b=true∧P.p b=i then c b else 0) P.fs
def n9.A (P:n9) (S:Nat→Bool):Nat→Nat→Int:=fun i k=>P.L i k+if i=k then P.at_ S P.s i else 0
def n9.b (P:n9) (S:Nat→Bool):Nat→Int:=fun i=>-P.u i+P.at_ S (fun b=>P.s b*P.V b) i
def n9.num (P:n9) (S:Nat→Bool) (k:Nat):Int:=Cur.num (P.A S) (P.b S) P.ns k
def n9.den (P:n9) (S:Nat→Bool):Int:=D (P.A S) P.ns
structure n9.Ok (P:n9):Prop where
 nd:P.ns.Nodup
 off:∀i∈P.ns,∀k∈P.ns,i≠k→P.L i k≤0
 col:∀k∈P.ns,sm (fun i=>P.L i k) P.ns=0
 row:∀i∈P.ns,sm (fun k=>P.L i k) P.ns=0
 lead:∀U:List Nat,U.Nodup→U≠[]→(∀k∈U,k∈P.ns)→(∃k∈P.ns,k∉U)→∃k∈U,0<sm (fun i=>P.L i k) U
 pin:∀b∈P.fs,P.p b∈P.ns
 spos:∀b∈P.fs,0<P.s b
theorem c1R {P:n9} {S:Nat→Bool} {c:Nat→Int}:∀{U:List Nat},U.Nodup→sm (P.at_ S c) U=sm (fun b=>if S b=true∧P.p b∈U then c b else 0) P.fs:=by
 intro U hU;unfold n9.at_;rw[a0l];refine n0 fun b _=>?_
 induction U with
 |nil=>simp[sm]
 | cons a U ih=>
  rw[List.nodup_cons]at hU;rw[sm,ih hU.2]
  by_cases hS:S b=true
  ·by_cases ha:P.p b=a
   ·subst ha;simp[hS,hU.1]
   ·simp[hS,ha]
  ·simp[hS]
theorem b1r {f:Nat→Int} {g:Nat→Nat→Int} {k:Nat}:∀{U:List Nat},U.Nodup→k∈U→sm (fun i=>g i k+if i=k then f i else 0) U=sm (fun i=>g i k) U+f k
 |[],_,h=>by simp at h
 | a::U,hU,h=>by
  rw[List.nodup_cons]at hU;rw[sm,sm]
  rcases List.mem_cons.1 h with rfl|hm
  ·rw[n0 (u:=U) (g:=fun i=>g i k) fun i hi=>by
    rw[if_neg]; · omega
    ·rintro rfl;exact hU.1 hi]
   rw[if_pos rfl];omega
  ·rw[b1r hU.2 hm,if_neg]
   ·omega
   ·rintro rfl;exact hU.1 hm
theorem a3X {f:Nat→Int} {g:Nat→Int} {k:Nat}:∀{U:List Nat},U.Nodup→k∈U→sm (fun i=>g i+if k=i then f k else 0) U=sm g U+f k
 |[],_,h=>by simp at h
 | a::U,hU,h=>by
  rw[List.nodup_cons]at hU;rw[sm,sm]
  rcases List.mem_cons.1 h with rfl|hm
  ·rw[n0 (u:=U) (g:=g) fun i hi=>by
    rw[if_neg]; · omega
    ·rintro rfl;exact hU.1 hi]
   rw[if_pos rfl];omega
  ·rw[a3X hU.2 hm,if_neg]
   ·omega
   ·rintro rfl;exact hU.1 hm
theorem b6a {P:n9} (ho:P.Ok) {S:Nat→Bool} {i:Nat}:0≤P.at_ S P.s i:=a6j fun b hb=>by
 have:=ho.spos b hb
 split<;>omega
theorem b9j {P:n9} (ho:P.Ok) {S:Nat→Bool}:∀i∈P.ns,∀k∈P.ns,i≠k→P.A S i k≤0:=fun i hi k hk h=>by
 have:=ho.off i hi k hk h;unfold n9.A;rw[if_neg h];omega
theorem b3G {P:n9} (ho:P.Ok) {S:Nat→Bool} {k:Nat} {U:List Nat} (hU:U.Nodup) (hk:k∈U):sm (fun i=>P.A S i k) U=sm (fun i=>P.L i k) U+P.at_ S P.s k:=b1r hU hk
theorem b9L {P:n9} (ho:P.Ok) {S:Nat→Bool} {i:Nat} (hi:i∈P.ns):sm (fun k=>P.A S i k) P.ns=P.at_ S P.s i:=by
 have:=a3X (f:=fun i=>P.at_ S P.s i) (g:=fun k=>P.L i k) ho.nd hi;rw[ho.row i hi]at this;unfold n9.A;omega
theorem b3X {P:n9} (ho:P.Ok) {S:Nat→Bool}:b0Q (P.A S) P.ns:=⟨b9j ho,fun k hk=>by
 rw[b3G ho ho.nd hk,ho.col k hk];have:=b6a ho (S:=S) (i:=k);omega⟩
theorem a7H {P:n9} (ho:P.Ok) {S:Nat→Bool} (hS:∃b∈P.fs,S b=true):b7V (P.A S) P.ns:=fun U hU hn hs=>by
 by_cases hall:∃k∈P.ns,k∉U
 ·obtain⟨k,hk,h⟩:=ho.lead U hU hn hs hall;refine⟨k,hk,?_⟩;rw[b3G ho hU hk];have:=b6a ho (S:=S) (i:=k);omega
 ·obtain⟨b,hb,hSb⟩:=hS;have hpU:P.p b∈U:=by
   by_cases h:P.p b∈U
   ·exact h
   ·exact absurd ⟨_,ho.pin b hb,h⟩ hall
  refine⟨P.p b,hpU,?_⟩;rw[b3G ho hU hpU];have h1:sm (fun i=>P.L i (P.p b)) P.ns≤sm (fun i=>P.L i (P.p b)) U:=b1b ho.nd hU hs fun i hi hiU=>absurd ⟨i,hi,hiU⟩ hall;rw[ho.col _ (ho.pin b hb)]at h1;have h2:0<P.at_ S P.s (P.p b):=b2Q (fun c hc=>by
   have:=ho.spos c hc
   split<;>omega) ⟨b,hb,by rw[if_pos ⟨hSb,rfl⟩];exact ho.spos b hb⟩
  omega
theorem I3 {P:n9} (ho:P.Ok) {S:Nat→Bool} (hS:∃b∈P.fs,S b=true):0<P.den S:=b9l _ rfl ho.nd (b3X ho) (a7H ho hS)
theorem b5P {P:n9} (ho:P.Ok) (hn:P.ns≠[]) {S:Nat→Bool} (hS:∀b∈P.fs,S b=false):P.den S=0:=by
 unfold n9.den D
 cases h:P.ns with
 |nil=>exact absurd h hn
 |cons i is=>
  refine a8G fun c hc=>?_;obtain⟨k,hk,rfl⟩:=List.mem_map.1 hc;rw[←h]at hk ⊢;rw[b3G ho ho.nd hk,ho.col k hk];have:P.at_ S P.s k=0:=M4 fun b hb=>by rw[if_neg];simp[hS b hb]
  omega
theorem a6P {P:n9} (ho:P.Ok) {S:Nat→Bool} {i:Nat} (hi:i∈P.ns):sm (fun k=>P.A S i k*P.num S k) P.ns=P.den S*P.b S i:=b0F ho.nd hi
end Go.Cur
end
section
namespace Go.Cur
theorem a0E {f g:Nat→Int} {u:List Nat}:sm (fun i=>f i-g i) u=sm f u-sm g u:=by
 have h1:=a0F (f:=f) (g:=fun i=>-1*g i) (u:=u);rw[p7]at h1;rw[show(fun i=>f i-g i)=fun i=>f i+ -1*g i from funext fun i=>by omega,h1];omega
theorem a7L {f:Nat→Int} {k:Nat}:∀{U:List Nat},U.Nodup→k∈U→sm (fun i=>if k=i then f i else 0) U=f k
 |U,hU,hk=>by
  have:=a3X (f:=f) (g:=fun _=>0) hU hk;rw[M4 (f:=fun _=>0) fun _ _=>rfl]at this;rw[n0 (g:=fun i=>0+if k=i then f k else 0) fun i _=>by by_cases h:k=i<;>simp[h],this];omega
theorem b2f {P:n9} {S S':Nat→Bool} (hs:∀b,S' b=true→S b=true) (c:Nat→Int) (i:Nat):P.at_ S c i=P.at_ S' c i+P.at_ (fun b=>S b&& !S' b) c i:=by
 unfold n9.at_;rw[←a0F];refine n0 fun b _=>?_
 by_cases h:S' b=true
 ·simp[h,hs b h]
 ·simp[h]
theorem c2C {P:n9} (ho:P.Ok) {S S':Nat→Bool} (hs:∀b,S' b=true→S b=true) (hn:∃b∈P.fs,S' b=true) (hr:∀b∈P.fs,S b=true→S' b=false→P.V b*P.den S≤P.num S (P.p b)):
  ∀k∈P.ns,P.num S k*P.den S'≤P.num S' k*P.den S:=by
 have hn':∃b∈P.fs,S b=true:=by obtain⟨b,hb,h⟩:=hn;exact⟨b,hb,hs b h⟩
 have d1:=I3 ho hn;have d2:=I3 ho hn';have key:=W7 (A:=P.A S') (x:=fun k=>P.num S' k*P.den S-P.num S k*P.den S') ho.nd (b9j ho) (fun i hi=>by rw[b9L ho hi];exact b6a ho) (b3X ho).2 (a7H ho hn) fun i hi=>by
  have e1:sm (fun k=>P.A S' i k*(P.num S' k*P.den S-P.num S k*P.den S')) P.ns=P.den S*sm (fun k=>P.A S' i k*P.num S' k) P.ns-P.den S'*sm (fun k=>P.A S' i k*P.num S k) P.ns:=by
   rw[←p7,←p7,←a0E];refine n0 fun k _=>?_;rw[Int.mul_sub,Int.mul_comm (P.den S),Int.mul_comm (P.den S'),Int.mul_assoc,Int.mul_assoc]
  have e2:sm (fun k=>P.A S i k*P.num S k) P.ns=sm (fun k=>P.A S' i k*P.num S k) P.ns+P.at_ (fun b=>S b&& !S' b) P.s i*P.num S i:=by
   have e3:=a7L (f:=fun k=>P.at_ (fun b=>S b&& !S' b) P.s k*P.num S k) ho.nd hi;rw[←e3,←a0F];refine n0 fun k _=>?_;unfold n9.A
   by_cases h:i=k
   ·subst h;simp only[if_true];rw[b2f hs P.s i,←Int.add_assoc,Int.add_mul]
   ·simp[h]
  rw[a6P ho hi]at e2;have e4:P.b S i=P.b S' i+P.at_ (fun b=>S b&& !S' b) (fun b=>P.s b*P.V b) i:=by
   unfold n9.b;rw[b2f hs (fun b=>P.s b*P.V b) i];omega
  have e5:0≤P.at_ (fun b=>S b&& !S' b) P.s i*P.num S i-P.den S*P.at_ (fun b=>S b&& !S' b) (fun b=>P.s b*P.V b) i:=by
   unfold n9.at_;rw[Int.mul_comm (sm _ _) (P.num S i),←p7,←p7,←a0E];refine a6j fun b hb=>?_
   by_cases h:(S b&& !S' b)=true∧P.p b=i
   ·rw[if_pos h,if_pos h];simp only[Bool.and_eq_true,Bool.not_eq_true']at h;obtain⟨⟨h1,h2⟩,h3⟩:=h;have:=hr b hb h1 h2;rw[h3]at this;have h4:=Int.mul_le_mul_of_nonneg_left this (Int.le_of_lt (ho.spos b hb));rw[Int.mul_comm (P.num S i),Int.mul_left_comm (P.den S),Int.mul_comm (P.den S)];omega
   ·rw[if_neg h,if_neg h];simp
  rw[e1,a6P ho hi];have e6:P.den S*(P.den S'*P.b S' i)-P.den S'*sm (fun k=>P.A S' i k*P.num S k) P.ns=P.den S'*(P.at_ (fun b=>S b&& !S' b) P.s i*P.num S i-P.den S*P.at_ (fun b=>S b&& !S' b) (fun b=>P.s b*P.V b) i):=by
   rw[e4,Int.mul_add]at e2;have:sm (fun k=>P.A S' i k*P.num S k) P.ns=P.den S*P.b S' i+P.den S*P.at_ (fun b=>S b&& !S' b) (fun b=>P.s b*P.V b) i-P.at_ (fun b=>S b&& !S' b) P.s i*P.num S i:=by omega
   rw[this,Int.mul_left_comm (P.den S),←Int.mul_sub]
   congr 1
   omega
  rw[e6];exact Int.mul_nonneg (Int.le_of_lt d1) e5
 intro k hk;have:=key k hk;omega
theorem a8R {P:n9} (ho:P.Ok) (S:Nat→Bool):sm (fun b=>if S b=true then P.s b*(P.V b*P.den S-P.num S (P.p b))else 0) P.fs=P.den S*sm P.u P.ns:=by
 have h1:sm (fun i=>sm (fun k=>P.A S i k*P.num S k) P.ns) P.ns=sm (fun i=>P.den S*P.b S i) P.ns:=n0 fun i hi=>a6P ho hi;rw[a0l,p7]at h1;have h2:sm (fun k=>sm (fun i=>P.A S i k*P.num S k) P.ns) P.ns=sm (fun k=>P.at_ S P.s k*P.num S k) P.ns:=n0 fun k hk=>by
  have:sm (fun i=>P.A S i k*P.num S k) P.ns=sm (fun i=>P.num S k*P.A S i k) P.ns:=n0 fun i _=>Int.mul_comm _ _;rw[this,p7,b3G ho ho.nd hk,ho.col k hk,Int.zero_add,Int.mul_comm]
 have h3:sm (fun k=>P.at_ S P.s k*P.num S k) P.ns=sm (fun b=>if S b=true then P.s b*P.num S (P.p b)else 0) P.fs:=by
  have:sm (fun k=>P.at_ S P.s k*P.num S k) P.ns=sm (fun k=>sm (fun b=>if S b=true∧P.p b=k then P.s b*P.num S k else 0) P.fs) P.ns:=n0 fun k _=>by
   unfold n9.at_;rw[Int.mul_comm,←p7];refine n0 fun b _=>?_
   by_cases h:S b=true∧P.p b=k
   ·rw[if_pos h,if_pos h,Int.mul_comm]
   ·rw[if_neg h,if_neg h,Int.mul_zero]
  rw[this,a0l];refine n0 fun b hb=>?_
  by_cases h:S b=true
  ·have:=a7L (f:=fun k=>P.s b*P.num S k) ho.nd (ho.pin b hb);rw[if_pos h,←this];exact n0 fun k _=>by simp[h]
  ·rw[if_neg h];exact M4 fun k _=>by simp[h]
 have h4:sm (P.b S) P.ns=-sm P.u P.ns+sm (fun b=>if S b=true then P.s b*P.V b else 0) P.fs:=by
  unfold n9.b;rw[a0F,c1R ho.nd]
  congr 1
  ·have:=p7 (f:=P.u) (-1) (u:=P.ns);simpa using this
  ·refine n0 fun b hb=>?_
   by_cases h:S b=true<;>simp[h,ho.pin b hb]
 rw[h2,h3,h4]at h1;have h5:sm (fun b=>if S b=true then P.s b*(P.V b*P.den S-P.num S (P.p b))else 0) P.fs=P.den S*sm (fun b=>if S b=true then P.s b*P.V b else 0) P.fs-sm (fun b=>if S b=true then P.s b*P.num S (P.p b)else 0) P.fs:=by
  rw[←p7,←a0E];refine n0 fun b _=>?_
  by_cases h:S b=true
  ·simp only[h,if_true];rw[Int.mul_sub,Int.mul_comm (P.V b),Int.mul_left_comm]
  ·simp[h]
 rw[h5,h1,Int.mul_add,Int.mul_neg];omega
def a4q (P:n9) (S:Nat→Bool):Prop:=(∃b∈P.fs,S b=true)∧∀b∈P.fs,(S b=true→P.num S (P.p b)≤P.V b*P.den S)∧(S b=false→P.V b*P.den S≤P.num S (P.p b))
theorem a3G {P:n9} (ho:P.Ok) (hsum:0<sm P.u P.ns) (hf:P.fs≠[]):∃S,a4q P S:=by
 have go:∀(n:Nat) (S:Nat→Bool),(P.fs.filter S).length≤n→(∃b∈P.fs,S b=true)→(∀b∈P.fs,S b=false→P.V b*P.den S≤P.num S (P.p b))→∃S,a4q P S:=by
  intro n
  induction n with
  |zero=>
   intro S h ⟨b,hb,hS⟩ _;have:b∈P.fs.filter S:=List.mem_filter.2 ⟨hb,hS⟩;rw[List.length_eq_zero_iff.1 (Nat.le_zero.1 h)]at this;simp at this
  | succ n ih=>
   intro S h hn hout
   let S':Nat→Bool:=fun b=>S b&&decide (P.num S (P.p b)≤P.V b*P.den S)
   have hs:∀b,S' b=true→S b=true:=fun b hb=>by simp only[S',Bool.and_eq_true]at hb;exact hb.1
   have hd:=I3 ho hn
   by_cases hall:∀b∈P.fs,S b=true→P.num S (P.p b)≤P.V b*P.den S
   ·exact⟨S,hn,fun b hb=>⟨hall b hb,hout b hb⟩⟩
   ·have hn':∃b∈P.fs,S' b=true:=by
     refine Classical.byContradiction fun hno=>?_;have hneg:∀b∈P.fs,S b=true→P.V b*P.den S-P.num S (P.p b)≤0:=fun b hb hS=>by
      have:¬P.num S (P.p b)≤P.V b*P.den S:=fun hle=>hno ⟨b,hb,by simp[S',hS,hle]⟩;omega
     have h1:=a8R ho S;have h2:sm (fun b=>if S b=true then P.s b*(P.V b*P.den S-P.num S (P.p b))else 0) P.fs≤sm (fun _=>0) P.fs:=b1a fun b hb=>by
      split
      ·exact Int.mul_nonpos_of_nonneg_of_nonpos (Int.le_of_lt (ho.spos b hb)) (hneg b hb (by assumption))
      ·exact Int.le_refl _
     rw[M4 (f:=fun _=>0) fun _ _=>rfl,h1]at h2;have:=Int.mul_pos hd hsum;omega
    have hrise:=c2C ho hs hn' fun b hb h1 h2=>by
     simp only[S',h1,Bool.true_and,decide_eq_false_iff_not]at h2;omega
    have hd':=I3 ho hn';refine ih S' ?_ hn' fun b hb hb'=>?_
    ·simp only[Classical.not_forall]at hall;obtain⟨b,hb,hSb,hgt⟩:=hall;have h1:P.fs.filter S'=(P.fs.filter S).filter S':=by
      rw[List.filter_filter];refine List.filter_congr fun a _=>?_;simp only[S']
      cases S a<;>simp
     have h2:((P.fs.filter S).filter S').length<(P.fs.filter S).length:=by
      refine List.length_filter_lt_length_iff_exists.2 ⟨b,List.mem_filter.2 ⟨hb,hSb⟩,?_⟩;simp only[S',hSb,Bool.true_and,decide_eq_true_eq];exact hgt
     rw[h1];omega
    ·have h1:P.V b*P.den S≤P.num S (P.p b):=by
      by_cases hS:S b=true
      ·simp only[S',hS,Bool.true_and,decide_eq_false_iff_not]at hb';omega
      ·exact hout b hb (by simpa using hS)
     have h2:=hrise _ (ho.pin b hb);have h3:=Int.mul_le_mul_of_nonneg_right h1 (Int.le_of_lt hd');have h4:(P.V b*P.den S')*P.den S≤P.num S' (P.p b)*P.den S:=by
      rw[Int.mul_assoc,Int.mul_comm (P.den S'),←Int.mul_assoc];omega
     exact Int.le_of_mul_le_mul_right h4 hd
 refine go _ (fun _=>true) (Nat.le_refl _) ?_ fun b _ h=>by simp at h
 obtain⟨b,l,hl⟩:=List.exists_cons_of_ne_nil hf;exact⟨b,by simp[hl],rfl⟩
end Go.Cur
end
section
namespace Go.Cur
def nmE (f:Nat→Nat) (e:Nat×Nat):Nat→Nat:=fun k=>if k=e.1∨k=e.2 then min (f e.1) (f e.2)else f k
def nmR (E:List (Nat×Nat)) (f:Nat→Nat):Nat→Nat:=E.foldl nmE f
def nmT (E:List (Nat×Nat)):Nat→Nat→Nat
 |0=>id
 |t+1=>nmR E (nmT E t)
def a2l (E:List (Nat×Nat)) (U:Nat→Prop):Prop:=∀e∈E,(U e.1↔U e.2)
theorem b9z {f:Nat→Nat} {e:Nat×Nat} {k:Nat}:nmE f e k≤f k:=by
 unfold nmE
 split
 ·rename_i h;rcases h with rfl|rfl
  ·exact Nat.min_le_left _ _
  ·exact Nat.min_le_right _ _
 ·exact Nat.le_refl _
theorem a0G:∀{E:List (Nat×Nat)} {f:Nat→Nat} {k:Nat},nmR E f k≤f k
 |[],f,k=>Nat.le_refl _
 |e::E,f,k=>Nat.le_trans (a0G (E:=E) (f:=nmE f e)) b9z
theorem b6n {E:List (Nat×Nat)}:∀{t k:Nat},nmT E t k≤k
 |0,k=>Nat.le_refl _
 |t+1,k=>Nat.le_trans a0G (b6n (t:=t))
theorem b6J {E:List (Nat×Nat)} {U:Nat→Prop}:∀{E':List (Nat×Nat)} {f:Nat→Nat},(∀e∈E',(U e.1↔U e.2))→(∀k,U (f k)↔U k)→∀k,U (nmR E' f k)↔U k
 |[],f,_,h,k=>h k
 | e::E',f,hE,h,k=>b6J (E:=E) (E':=E') (f:=nmE f e) (fun e he=>hE e (by simp[he])) (fun k=>by
   have he:=hE e (by simp);unfold nmE
   split
   ·rename_i hk;have hm:min (f e.1) (f e.2)=f e.1∨min (f e.1) (f e.2)=f e.2:=by omega
    have h1:=h e.1;have h2:=h e.2
    rcases hm with hm|hm<;>rw[hm]<;>rcases hk with rfl|rfl
    ·exact h1
    ·exact h1.trans he
    ·exact h2.trans he.symm
    ·exact h2
   ·exact h k) k
theorem b2g {E:List (Nat×Nat)} {U:Nat→Prop} (hU:a2l E U):∀{t:Nat} (k:Nat),U (nmT E t k)↔U k
 |0,k=>Iff.rfl
 |t+1,k=>b6J (E:=E) hU (b2g hU (t:=t)) k
theorem a9p {m:Nat}:∀{E:List (Nat×Nat)} {f:Nat→Nat},(∀e∈E,(f e.1≤m↔f e.2≤m))→∀k,nmR E f k≤m↔f k≤m
 |[],f,_,k=>Iff.rfl
 | e::E,f,h,k=>by
  have h0:=h e (by simp);have h1:∀k,nmE f e k≤m↔f k≤m:=fun k=>by
   unfold nmE
   split
   ·rename_i hk
    rcases hk with rfl|rfl<;>omega
   ·exact Iff.rfl
  have:=a9p (m:=m) (E:=E) (f:=nmE f e) (fun e' he=>by rw[h1,h1];exact h e' (by simp[he])) k;exact this.trans (h1 k)
theorem b5y {m:Nat} {E:List (Nat×Nat)} {f:Nat→Nat} {e:Nat×Nat} (he:e∈E) (h:f e.1≤m∨f e.2≤m):nmR E f e.1≤m∧nmR E f e.2≤m:=by
 obtain⟨u,v,rfl⟩:=List.append_of_mem he;have hc:nmR (u++e::v) f=nmR v (nmE (nmR u f) e):=by simp[nmR,List.foldl_append]
 rw[hc];have h1:nmR u f e.1≤f e.1:=a0G;have h2:nmR u f e.2≤f e.2:=a0G;have h3:nmE (nmR u f) e e.1=min (nmR u f e.1) (nmR u f e.2):=by simp[nmE]
 have h4:nmE (nmR u f) e e.2=min (nmR u f e.1) (nmR u f e.2):=by simp[nmE]
 have h5:=a0G (E:=v) (f:=nmE (nmR u f) e) (k:=e.1);have h6:=a0G (E:=v) (f:=nmE (nmR u f) e) (k:=e.2);rw[h3]at h5;rw[h4]at h6;omega
def b6o (n m:Nat) (f:Nat→Nat):Nat:=((List.range n).filter fun k=>decide (f k≤m)).length
theorem a6S {n m:Nat} {f g:Nat→Nat} (h:∀k,g k≤f k) {j:Nat} (hj:j<n) (h1:¬f j≤m) (h2:g j≤m):b6o n m f<b6o n m g:=by
 unfold b6o;have:(List.range n).filter (fun k=>decide (f k≤m))=((List.range n).filter fun k=>decide (g k≤m)).filter fun k=>decide (f k≤m):=by
  rw[List.filter_filter];refine List.filter_congr fun k _=>?_;have:=h k
  by_cases hf:f k≤m
  ·have:g k≤m:=by omega
   simp[hf,this]
  ·simp[hf]
 rw[this];exact List.length_filter_lt_length_iff_exists.2 ⟨j,List.mem_filter.2 ⟨List.mem_range.2 hj,by simpa using h2⟩,by simpa using h1⟩
theorem b8N {n m:Nat} {f:Nat→Nat}:b6o n m f≤n:=by
 have:=List.length_filter_le (fun k=>decide (f k≤m)) (List.range n);simpa [b6o]using this
theorem a3k {E:List (Nat×Nat)} {n:Nat} (hE:∀e∈E,e.1<n∧e.2<n) (m:Nat):∀e∈E,(nmT E n e.1≤m↔nmT E n e.2≤m):=by
 have key:∀t,(∀e∈E,(nmT E t e.1≤m↔nmT E t e.2≤m))∨t+1≤b6o n m (nmT E t):=by
  intro t
  induction t with
  | zero=>
   by_cases hn:n=0
   ·left;intro e he;have:=hE e he;omega
   ·right
    have:0∈(List.range n).filter fun k=>decide (nmT E 0 k≤m):=List.mem_filter.2 ⟨List.mem_range.2 (by omega),by simp[nmT]⟩;exact List.length_pos_of_mem this
  | succ t ih=>
   by_cases hc:∀e∈E,(nmT E t e.1≤m↔nmT E t e.2≤m)
   ·left
    intro e he;have:=a9p (m:=m) (E:=E) (f:=nmT E t) hc;rw[nmT,this,this];exact hc e he
   ·right
    have ih:=ih.resolve_left hc;simp only[Classical.not_forall]at hc;obtain⟨e,he,hne⟩:=hc;have hor:nmT E t e.1≤m∨nmT E t e.2≤m:=by omega
    have hm:=b5y (f:=nmT E t) he hor;have hb:=hE e he;have:b6o n m (nmT E t)<b6o n m (nmT E (t+1)):=by
     rcases(by omega:¬nmT E t e.1≤m∨¬nmT E t e.2≤m)with h|h
     ·exact a6S (fun k=>a0G) hb.1 h hm.1
     ·exact a6S (fun k=>a0G) hb.2 h hm.2
    omega
 rcases key n with h|h
 ·exact h
 ·have:=b8N (n:=n) (m:=m) (f:=nmT E n);omega
def nm (E:List (Nat×Nat)) (n:Nat):Nat→Nat:=nmT E n
section
variable {E:List (Nat×Nat)} {n:Nat}
theorem b7s {k:Nat}:nm E n k≤k:=b6n
theorem b3u (hE:∀e∈E,e.1<n∧e.2<n) {e:Nat×Nat} (he:e∈E):nm E n e.1=nm E n e.2:=by
 have h1:=(a3k hE (nm E n e.1) e he).1 (Nat.le_refl _);have h2:=(a3k hE (nm E n e.2) e he).2 (Nat.le_refl _);unfold nm at*
 omega
theorem b1v (hE:∀e∈E,e.1<n∧e.2<n) (i:Nat):a2l E fun k=>nm E n k=i:=fun e he=>by
 show nm E n e.1=i↔nm E n e.2=i;rw[b3u hE he]
theorem c0o (hE:∀e∈E,e.1<n∧e.2<n) (k:Nat):nm E n (nm E n k)=nm E n k:=(b2g (t:=n) (b1v hE (nm E n k)) k).2 rfl
theorem b9w {U:Nat→Prop} (hU:a2l E U) (k:Nat):U (nm E n k)↔U k:=b2g hU k
def cp (E:List (Nat×Nat)) (n i:Nat):List Nat:=(List.range n).filter fun k=>decide (nm E n k=i)
theorem E4 {i k:Nat}:k∈cp E n i↔k<n∧nm E n k=i:=by simp[cp]
theorem F3 {i:Nat}:(cp E n i).Nodup:=List.nodup_range.filter _
theorem b2n {i:Nat}:(cp E n i).Pairwise (· < ·):=List.Pairwise.filter _ List.pairwise_lt_range
theorem a5I {U:Nat→Prop} (hU:a2l E U) {i k j:Nat} (hk:k∈cp E n i) (h:U k) (hj:j∈cp E n i):U j:=by
 rw[E4]at hk hj;have h1:=(b9w (n:=n) hU k).2 h;rw[hk.2]at h1;exact(b9w (n:=n) hU j).1 (by rw[hj.2];exact h1)
theorem c0j (hE:∀e∈E,e.1<n∧e.2<n) {U:List Nat} {i k j:Nat} (hs:∀x∈U,x∈cp E n i) (hk:k∈U) (hj:j∈cp E n i) (hn:j∉U):∃e∈E,(e.1∈U∧e.2∉U∧e.2∈cp E n i)∨(e.2∈U∧e.1∉U∧e.1∈cp E n i):=by
 by_cases hc:a2l E (fun x=>x∈U)
 ·exact absurd (a5I hc (hs k hk) hk hj) hn
 ·simp only[a2l,Classical.not_forall]at hc;obtain⟨e,he,h⟩:=hc;refine⟨e,he,?_⟩;have h1:=b3u hE he;have hb:=hE e he
  by_cases h3:e.1∈U
  ·left
   refine⟨h3,fun h4=>h ⟨fun _=>h4,fun _=>h3⟩,?_⟩;have:=E4.1 (hs _ h3);exact E4.2 ⟨hb.2,by rw[←h1];exact this.2⟩
  ·have h4:e.2∈U:=by
    refine Classical.byContradiction fun h4=>h ⟨fun h5=>absurd h5 h3,fun h5=>absurd h5 h4⟩
   right
   refine⟨h4,h3,?_⟩;have:=E4.1 (hs _ h4);exact E4.2 ⟨hb.1,by rw[h1];exact this.2⟩
def U4 (E:List (Nat×Nat)) (n:Nat):List Nat:=(List.range n).filter fun i=>decide (nm E n i=i)
def b6N (E:List (Nat×Nat)) (n:Nat):List (List Nat):=(U4 E n).map (cp E n)
theorem a1M {i:Nat}:i∈U4 E n↔i<n∧nm E n i=i:=by simp[U4]
theorem a5i {i:Nat} (h:i∈U4 E n):i∈cp E n i:=by
 rw[a1M]at h;exact E4.2 h
theorem b8h (hE:∀e∈E,e.1<n∧e.2<n) {k:Nat} (hk:k<n):nm E n k∈U4 E n:=a1M.2 ⟨Nat.lt_of_le_of_lt b7s hk,c0o hE k⟩
theorem b4X {i:Nat} {p:List Nat} (hi:i∈U4 E n) (h1:i∈p) (hc:a2l E fun x=>x∈p) {j:Nat} (hj:j∈cp E n i):j∈p:=a5I hc (a5i hi) h1 hj
end
end Go.Cur
end
section
namespace Go.Cur
structure Wn where
 a:Nat
 b:Nat
 s:Int
def Wn.e (w:Wn):Nat×Nat:=(w.a,w.b)
def ew (w:Wn) (i:Nat):Int:=(if i=w.a then 1 else 0)-(if i=w.b then 1 else 0)
def lw:List Wn→Nat→Nat→Int
 |[],_,_=>0
 |w::W,i,k=>w.s*(ew w i*ew w k)+lw W i k
def OkW (W:List Wn) (n:Nat):Prop:=∀w∈W,w.a<n∧w.b<n∧w.a≠w.b∧0<w.s
def R9 (W:List Wn):List (Nat×Nat):=W.map Wn.e
theorem P6 {i k:Nat}:∀{u v:List Wn},lw (u++v) i k=lw u i k+lw v i k
 |[],v=>by simp[lw]
 |w::u,v=>by rw[List.cons_append,lw,lw,P6];omega
theorem b2b {i k:Nat}:∀{W:List Wn},lw W i k=lw W k i
 |[]=>rfl
 |w::W=>by rw[lw,lw,b2b,Int.mul_comm (ew w i)]
theorem b6E {w:Wn}:∀{U:List Nat},U.Nodup→sm (ew w) U=(if w.a∈U then 1 else 0)-(if w.b∈U then 1 else 0)
 |[],_=>by simp[sm]
 | x::U,h=>by
  rw[List.nodup_cons]at h;rw[sm,b6E h.2];unfold ew
  by_cases ha:x=w.a
  ·by_cases hb:x=w.b
   ·have h1:w.a∉U:=ha▸h.1;have h2:w.b∉U:=hb▸h.1;have h3:w.b=w.a:=by omega
    subst ha;simp[h3]
   ·have h1:w.a∉U:=ha▸h.1;have h2:¬w.b=x:=fun e=>hb e.symm;subst ha;simp[h1,hb,h2];omega
  ·have h2:¬w.a=x:=fun e=>ha e.symm
   by_cases hb:x=w.b
   ·have h1:w.b∉U:=hb▸h.1;subst hb;simp[h1,ha,h2];omega
   ·have h3:¬w.b=x:=fun e=>hb e.symm;simp[ha,hb,h2,h3]
def lwU:List Wn→List Nat→Nat→Int
 |[],_,_=>0
 |w::W,U,k=>w.s*(ew w k*((if w.a∈U then 1 else 0)-(if w.b∈U then 1 else 0)))+lwU W U k
theorem a5T {k:Nat} {U:List Nat} (hU:U.Nodup):∀{W:List Wn},sm (fun i=>lw W i k) U=lwU W U k
 |[]=>by simp only[lw,lwU];exact M4 fun _ _=>rfl
 |w::W=>by
  simp only[lw,lwU];rw[a0F,a5T hU,←b6E hU]
  congr 1
  rw[p7]
  congr 1
  rw[←p7];exact n0 fun i _=>Int.mul_comm _ _
theorem c0y {w:Wn} {i k:Nat} (h:i≠k):ew w i*ew w k≤0:=by
 unfold ew
 by_cases h1:i=w.a
 ·have h3:¬k=w.a:=by omega
  by_cases h2:i=w.b
  ·have h4:¬k=w.b:=by omega
   simp[h1,h3,h4]
  ·rw[if_pos h1,if_neg h2,if_neg h3]
   split<;>omega
 ·by_cases h2:i=w.b
  ·have h4:¬k=w.b:=by omega
   rw[if_neg h1,if_pos h2,if_neg h4]
   split<;>omega
  ·rw[if_neg h1,if_neg h2];omega
theorem b6Q {n i k:Nat} (h:i≠k):∀{W:List Wn},OkW W n→lw W i k≤0
 |[],_=>Int.le_refl _
 |w::W,hW=>by
  have h1:=b6Q h (W:=W) fun w hw=>hW w (by simp[hw]);have h2:=c0y (w:=w) h;have h3:=(hW w (by simp)).2.2.2;have:=Int.mul_nonpos_of_nonneg_of_nonpos (Int.le_of_lt h3) h2;rw[lw];omega
theorem b1U {n k:Nat} {U:List Nat} (hk:k∈U):∀{W:List Wn},OkW W n→0≤lwU W U k
 |[],_=>Int.le_refl _
 | w ::W,hW=>by
  have h1:=b1U hk (W:=W) fun w hw=>hW w (by simp[hw]);have h3:=(hW w (by simp)).2.2.2;have h2:0≤ew w k*((if w.a∈U then 1 else 0)-(if w.b∈U then 1 else 0)):=by
   unfold ew
   by_cases e1:k=w.a
   ·have h5:=(hW w (by simp)).2.2.1;rw[if_pos e1,if_neg (by omega),←e1,if_pos hk]
    split<;>omega
   ·by_cases e2:k=w.b
    ·rw[if_neg e1,if_pos e2,←e2,if_pos hk]
     split<;>omega
    ·rw[if_neg e1,if_neg e2];omega
  have:=Int.mul_nonneg (Int.le_of_lt h3) h2;rw[lwU];omega
theorem a7m {n k:Nat} {U:List Nat} (hk:k∈U):∀{W:List Wn},OkW W n→(∃w∈W,(k=w.a∧w.b∉U)∨(k=w.b∧w.a∉U))→0<lwU W U k
 |[],_,⟨_,h,_⟩=>by simp at h
 | w::W,hW,⟨x,hx,h⟩=>by
  have hW':OkW W n:=fun w hw=>hW w (by simp[hw])
  rcases List.mem_cons.1 hx with rfl|hx
  ·have h1:=b1U hk hW';have h3:=(hW x (by simp)).2.2.2;have h2:ew x k*((if x.a∈U then 1 else 0)-(if x.b∈U then 1 else 0))=1:=by
    have h5:=(hW x (by simp)).2.2.1;unfold ew
    rcases h with⟨e,h⟩|⟨e,h⟩
    ·rw[if_pos e,if_neg (by omega),←e,if_pos hk,if_neg h];rfl
    ·rw[if_neg (by omega),if_pos e,←e,if_pos hk,if_neg h];rfl
   rw[lwU,h2];omega
  ·have h1:=a7m hk hW' ⟨x,hx,h⟩;have h2:=b1U hk (W:=[w]) fun y hy=>hW y (by simp only[List.mem_singleton]at hy;subst hy;simp);simp only[lwU]at h2 ⊢;omega
theorem b1J {n i k:Nat} {E:List (Nat×Nat)} (hE:∀e∈E,e.1<n∧e.2<n):∀{W:List Wn},(∀w∈W,w.e∈E)→lwU W (cp E n i) k=0
 |[],_=>rfl
 | w::W,hW=>by
  have h1:=b3u hE (hW w (by simp));have hb:=hE _ (hW w (by simp));have h2:w.a∈cp E n i↔w.b∈cp E n i:=by
   rw[E4,E4];simp only[Wn.e]at h1 hb;rw[h1];exact⟨fun h=>⟨hb.2,h.2⟩,fun h=>⟨hb.1,h.2⟩⟩
  rw[lwU,b1J hE fun w hw=>hW w (by simp[hw])]
  by_cases h:w.a∈cp E n i
  ·rw[if_pos h,if_pos (h2.1 h)];simp
  ·rw[if_neg h,if_neg fun e=>h (h2.2 e)];simp
theorem a1p {W:List Wn} {n:Nat} (hW:OkW W n):∀e∈R9 W,e.1<n∧e.2<n:=fun e he=>by
 obtain⟨w,hw,rfl⟩:=List.mem_map.1 he;have:=hW w hw;exact⟨this.1,this.2.1⟩
def prt (W:List Wn) (n i:Nat) (u:Nat→Int) (fs:List Nat) (p:Nat→Nat) (s V:Nat→Int):n9:=⟨cp (R9 W) n i,lw W,u,fs,p,s,V⟩
theorem c0q {W:List Wn} {n i:Nat} {u:Nat→Int} {fs:List Nat} {p:Nat→Nat} {s V:Nat→Int} (hW:OkW W n) (hp:∀b∈fs,p b∈cp (R9 W) n i) (hs:∀b∈fs,0<s b):(prt W n i u fs p s V).Ok where
 nd:=F3
 off:=fun i _ k _ h=>b6Q h hW
 col:=fun k _=>by
  show sm (fun i=>lw W i k) (cp (R9 W) n i)=0;rw[a5T F3,b1J (a1p hW) fun w hw=>List.mem_map.2 ⟨w,hw,rfl⟩]
 row:=fun k _=>by
  show sm (fun i=>lw W k i) (cp (R9 W) n i)=0;rw[n0 (g:=fun i=>lw W i k) fun i _=>b2b,a5T F3,b1J (a1p hW) fun w hw=>List.mem_map.2 ⟨w,hw,rfl⟩]
 lead:=fun U hU hn hs ⟨j,hj,hjU⟩=>by
  obtain⟨k0,hk0⟩:=List.exists_mem_of_ne_nil U hn;obtain⟨e,he,h⟩:=c0j (a1p hW) hs hk0 hj hjU;obtain⟨w,hw,rfl⟩:=List.mem_map.1 he
  rcases h with⟨h1,h2,_⟩|⟨h1,h2,_⟩
  ·refine⟨w.a,h1,?_⟩;show 0<sm (fun i=>lw W i w.a) U;rw[a5T hU];exact a7m h1 hW ⟨w,hw, .inl ⟨rfl,h2⟩⟩
  ·refine⟨w.b,h1,?_⟩;show 0<sm (fun i=>lw W i w.b) U;rw[a5T hU];exact a7m h1 hW ⟨w,hw, .inr ⟨rfl,h2⟩⟩
 pin:=hp
 spos:=hs
end Go.Cur
end
section
namespace Go.Cur
theorem b8S {P:n9} (ho:P.Ok) {S:Nat→Bool} {x:Nat→Int} {i:Nat} (hi:i∈P.ns):sm (fun k=>P.A S i k*x k) P.ns=sm (fun k=>P.L i k*x k) P.ns+P.at_ S P.s i*x i:=by
 have e3:=a7L (f:=fun k=>P.at_ S P.s k*x k) ho.nd hi;rw[←e3,←a0F];refine n0 fun k _=>?_;unfold n9.A
 by_cases h:i=k
 ·subst h;simp only[if_true];rw[Int.add_mul]
 ·simp[h]
theorem b3l {P:n9} (ho:P.Ok) {S:Nat→Bool} (hn:∃b∈P.fs,S b=true) {y z:Nat→Int} {e d:Int} (h:∀i∈P.ns,d*sm (fun k=>P.A S i k*y k) P.ns≤e*sm (fun k=>P.A S i k*z k) P.ns):∀k∈P.ns,d*y k≤e*z k:=by
 intro k hk;have:=W7 (A:=P.A S) (x:=fun k=>e*z k-d*y k) ho.nd (b9j ho) (fun i hi=>by rw[b9L ho hi];exact b6a ho) (b3X ho).2 (a7H ho hn) (fun i hi=>by
  have e1:sm (fun k=>P.A S i k*(e*z k-d*y k)) P.ns=e*sm (fun k=>P.A S i k*z k) P.ns-d*sm (fun k=>P.A S i k*y k) P.ns:=by
   rw[←p7,←p7,←a0E];refine n0 fun k _=>?_;rw[Int.mul_sub,Int.mul_left_comm,Int.mul_left_comm _ d]
  rw[e1];have:=h i hi;omega) k hk
 have h2:0≤e*z k-d*y k:=this;omega
def n9.give (P:n9) (x:Nat→Int) (d:Int) (i:Nat):Int:=sm (fun b=>if P.p b=i then P.s b*max 0 (P.V b*d-x i)else 0) P.fs
structure c1K (P:n9) (x:Nat→Int) (d:Int):Prop where
 pos:0<d
 eq:∀i∈P.ns,sm (fun k=>P.L i k*x k) P.ns=P.give x d i-d*P.u i
def n9.withU (P:n9) (u:Nat→Int):n9:={P with u:=u}
theorem a8E {P:n9} {u:Nat→Int} (ho:P.Ok):(P.withU u).Ok:=⟨ho.nd,ho.off,ho.col,ho.row,ho.lead,ho.pin,ho.spos⟩
structure Sol (P:n9) (S:Nat→Bool) (x:Nat→Int) (d:Int):Prop where
 pos:0<d
 eq:∀i∈P.ns,sm (fun k=>P.A S i k*x k) P.ns=d*P.b S i
theorem a5b {P:n9} (ho:P.Ok) {S:Nat→Bool} (hn:∃b∈P.fs,S b=true):Sol P S (P.num S) (P.den S):=⟨I3 ho hn,fun i hi=>a6P ho hi⟩
theorem b9c {P:n9} (ho:P.Ok) {S:Nat→Bool} (hn:∃b∈P.fs,S b=true) {x y:Nat→Int} {d e:Int} (hx:Sol P S x d) (hy:Sol P S y e):∀k∈P.ns,e*x k=d*y k:=by
 intro k hk;have h1:=b3l ho hn (y:=x) (z:=y) (d:=e) (e:=d) (fun i hi=>by rw[hx.eq i hi,hy.eq i hi,Int.mul_left_comm];exact Int.le_refl _) k hk;have h2:=b3l ho hn (y:=y) (z:=x) (d:=d) (e:=e) (fun i hi=>by rw[hx.eq i hi,hy.eq i hi,Int.mul_left_comm];exact Int.le_refl _) k hk;omega
theorem b2t {P:n9} (ho:P.Ok) {u':Nat→Int} (hu:∀i∈P.ns,P.u i≤u' i) {S:Nat→Bool} (hn:∃b∈P.fs,S b=true) {x y:Nat→Int} {d e:Int} (hx:c1K P x d) (hy:Sol (P.withU u') S y e):∀k∈P.ns,d*y k≤e*x k:=by
 refine b3l ho hn fun i hi=>?_;have h1:sm (fun k=>P.A S i k*y k) P.ns=e*(P.withU u').b S i:=hy.eq i hi;rw[h1,b8S ho hi,hx.eq i hi,Int.mul_left_comm];refine Int.mul_le_mul_of_nonneg_left ?_ (Int.le_of_lt hy.pos);have h2:(P.withU u').b S i=-u' i+P.at_ S (fun b=>P.s b*P.V b) i:=rfl;have h3:d*P.at_ S (fun b=>P.s b*P.V b) i-P.at_ S P.s i*x i≤P.give x d i:=by
  unfold n9.at_ n9.give;rw[Int.mul_comm (sm _ _) (x i),←p7,←p7,←a0E];refine b1a fun b hb=>?_;have hs:=ho.spos b hb
  by_cases hp:P.p b=i
  ·rw[if_pos hp];have hm:P.s b*(P.V b*d-x i)≤P.s b*max 0 (P.V b*d-x i):=Int.mul_le_mul_of_nonneg_left (Int.le_max_right _ _) (Int.le_of_lt hs);have h0:0≤P.s b*max 0 (P.V b*d-x i):=Int.mul_nonneg (Int.le_of_lt hs) (Int.le_max_left _ _)
   by_cases hS:S b=true
   ·rw[if_pos ⟨hS,hp⟩,if_pos ⟨hS,hp⟩];have e1:P.s b*(P.V b*d-x i)=d*(P.s b*P.V b)-x i*P.s b:=by
     rw[Int.mul_sub,Int.mul_comm (x i),←Int.mul_assoc,Int.mul_comm d]
    show d*(P.s b*P.V b)-x i*P.s b≤_;omega
   ·rw[if_neg (fun h=>hS h.1),if_neg (fun h=>hS h.1)];omega
  ·rw[if_neg (fun h=>hp h.2),if_neg (fun h=>hp h.2),if_neg hp];omega
 have h4:=Int.mul_le_mul_of_nonneg_left (hu i hi) (Int.le_of_lt hx.pos);rw[h2,Int.mul_add,Int.mul_neg];omega
theorem b2A {P:n9} (ho:P.Ok) {S:Nat→Bool} {x:Nat→Int} {d:Int} (hx:Sol P S x d) (hf:∀b∈P.fs,(S b=true→x (P.p b)≤P.V b*d)∧(S b=false→P.V b*d≤x (P.p b))):c1K P x d:=by
 refine⟨hx.pos,fun i hi=>?_⟩;have h1:=hx.eq i hi;rw[b8S ho hi]at h1;have h2:P.b S i=-P.u i+P.at_ S (fun b=>P.s b*P.V b) i:=rfl;have h3:d*P.at_ S (fun b=>P.s b*P.V b) i-P.at_ S P.s i*x i=P.give x d i:=by
  unfold n9.at_ n9.give;rw[Int.mul_comm (sm _ _) (x i),←p7,←p7,←a0E];refine n0 fun b hb=>?_;have hfb:=hf b hb
  by_cases hp:P.p b=i
  ·rw[if_pos hp];rw[hp]at hfb
   by_cases hS:S b=true
   ·rw[if_pos ⟨hS,hp⟩,if_pos ⟨hS,hp⟩,Int.max_eq_right (by have:=hfb.1 hS;omega),Int.mul_sub,Int.mul_comm (x i),←Int.mul_assoc (P.s b),Int.mul_comm d]
   ·rw[if_neg (fun h=>hS h.1),if_neg (fun h=>hS h.1),Int.max_eq_left (by have:=hfb.2 (by simpa using hS);omega)];simp
  ·rw[if_neg (fun h=>hp h.2),if_neg (fun h=>hp h.2),if_neg hp];simp
 rw[h2,Int.mul_add,Int.mul_neg]at h1;omega
theorem a3n {P:n9} (ho:P.Ok) {S:Nat→Bool} (hf:a4q P S):c1K P (P.num S) (P.den S):=b2A ho (a5b ho hf.1) hf.2
theorem b5X {P:n9} (ho:P.Ok) {S S':Nat→Bool} (h:a4q P S) (h':a4q P S'):∀k∈P.ns,P.num S k*P.den S'=P.num S' k*P.den S:=by
 intro k hk;have h1:=b2t ho (u':=P.u) (fun i _=>Int.le_refl _) h'.1 (a3n ho h) (a5b (a8E ho) (P:=P.withU P.u) h'.1) k hk;have h2:=b2t ho (u':=P.u) (fun i _=>Int.le_refl _) h.1 (a3n ho h') (a5b (a8E ho) (P:=P.withU P.u) h.1) k hk;have e1:(P.withU P.u).num S' k=P.num S' k:=rfl;have e2:(P.withU P.u).num S k=P.num S k:=rfl;have e3:(P.withU P.u).den S'=P.den S':=rfl;have e4:(P.withU P.u).den S=P.den S:=rfl;rw[e1,e3]at h1;rw[e2,e4]at h2;rw[Int.mul_comm (P.num S k),Int.mul_comm (P.num S' k)];omega
def D4 (P:n9) (S:Nat→Bool):Nat→Bool:=fun b=>decide (P.num S (P.p b)<P.V b*P.den S)
def a9W (P:n9) (S:Nat→Bool):Prop:=∀b∈P.fs,S b=decide (P.num S (P.p b)<P.V b*P.den S)
theorem a7h {P:n9} {S:Nat→Bool} (hn:∃b∈P.fs,S b=true) (h:a9W P S):a4q P S:=⟨hn,fun b hb=>by
 have:=h b hb;refine⟨fun e=>?_,fun e=>?_⟩
 ·rw[e]at this;have:=of_decide_eq_true this.symm;omega
 ·rw[e]at this;have:=of_decide_eq_false this.symm;omega⟩
theorem a6R {P:n9} {S S':Nat→Bool} (h:∀b∈P.fs,S b=S' b):P.num S=P.num S'∧P.den S=P.den S':=by
 have ha:∀c,P.at_ S c=P.at_ S' c:=fun c=>funext fun i=>n0 fun b hb=>by rw[h b hb]
 have hA:P.A S=P.A S':=by funext i k;unfold n9.A;rw[ha]
 have hb:P.b S=P.b S':=by funext i;unfold n9.b;rw[ha]
 refine⟨?_,?_⟩
 ·funext k;unfold n9.num;rw[hA,hb]
 ·unfold n9.den;rw[hA]
theorem a3c {P:n9} (ho:P.Ok) (hsum:0<sm P.u P.ns) {S:Nat→Bool} (hf:a4q P S):(∃b∈P.fs,D4 P S b=true)∧a9W P (D4 P S):=by
 have hd:=I3 ho hf.1;have hne:∃b∈P.fs,D4 P S b=true:=by
  refine Classical.byContradiction fun hno=>?_;have h1:=a8R ho S;have h2:sm (fun b=>if S b=true then P.s b*(P.V b*P.den S-P.num S (P.p b))else 0) P.fs=0:=M4 fun b hb=>by
   by_cases hS:S b=true
   ·have h3:=(hf.2 b hb).1 hS;have h4:¬P.num S (P.p b)<P.V b*P.den S:=fun hlt=>hno ⟨b,hb,by simpa [D4]using hlt⟩;rw[if_pos hS,show P.V b*P.den S-P.num S (P.p b)=0 by omega,Int.mul_zero]
   ·rw[if_neg hS]
  rw[h2]at h1;have:=Int.mul_pos hd hsum;omega
 refine⟨hne,?_⟩;have hsol:Sol P (D4 P S) (P.num S) (P.den S):=by
  refine⟨hd,fun i hi=>?_⟩;have h1:=a6P ho hi (S:=S);rw[b8S ho hi]at h1 ⊢;unfold n9.b at h1 ⊢;have h3:P.den S*P.at_ S (fun b=>P.s b*P.V b) i-P.at_ S P.s i*P.num S i=P.den S*P.at_ (D4 P S) (fun b=>P.s b*P.V b) i-P.at_ (D4 P S) P.s i*P.num S i:=by
   unfold n9.at_;rw[Int.mul_comm (sm _ _) (P.num S i),Int.mul_comm (sm _ _) (P.num S i),←p7,←p7,←p7,←p7,←a0E,←a0E];refine n0 fun b hb=>?_
   by_cases hp:P.p b=i
   ·have hfb:=hf.2 b hb;rw[hp]at hfb;have hst:D4 P S b=decide (P.num S i<P.V b*P.den S):=by unfold D4;rw[hp]
    by_cases hS:S b=true
    ·by_cases hlt:P.num S i<P.V b*P.den S
     ·simp[hS,hp,hst,hlt]
     ·have h4:=hfb.1 hS;have h5:P.V b*P.den S=P.num S i:=by omega
      simp[hS,hp,hst,hlt];rw[Int.mul_left_comm,Int.mul_comm (P.den S),h5,Int.mul_comm (P.num S i)];omega
    ·have h4:=hfb.2 (by simpa using hS);have hlt:¬P.num S i<P.V b*P.den S:=by omega
     simp[hS,hst,hlt]
   ·simp[hp]
  rw[Int.mul_add]at h1 ⊢;omega
 have hone:=b9c ho hne hsol (a5b ho hne);have hd':=I3 ho hne;intro b hb;have h1:=hone _ (ho.pin b hb);show decide (P.num S (P.p b)<P.V b*P.den S)=decide (P.num (D4 P S) (P.p b)<P.V b*P.den (D4 P S));refine decide_eq_decide.2 ?_;rw[←Int.mul_lt_mul_left hd',h1,Int.mul_left_comm,Int.mul_comm (P.den (D4 P S)) (P.den S),←Int.mul_left_comm,Int.mul_lt_mul_left hd]
end Go.Cur
end
section
namespace Go.Cur
def ps (t:Nat→Int):Nat→Int
 |0=>0
 |j+1=>ps t j+t j
theorem a1o {t u:Nat→Int}:∀{n:Nat},(∀j,j<n→t j=u j)→ps t n=ps u n
 |0,_=>rfl
 |n+1,h=>by rw[ps,ps,a1o fun j hj=>h j (by omega),h n (by omega)]
theorem a4F {t:Nat→Int}:∀{n:Nat},ps t (n+1)=t 0+ps (fun j=>t (j+1)) n
 |0=>by simp[ps]
 |n+1=>by rw[ps,a4F,ps];omega
theorem b6Z {t:Nat→Int}:∀{n:Nat},ps (fun j=>t (n-1-j)) n=ps t n
 |0=>rfl
 |n+1=>by
  rw[a4F,ps,show n+1-1-0=n by omega];rw[a1o (u:=fun j=>t (n-1-j)) fun j hj=>by rw[show n+1-1-(j+1)=n-1-j by omega],b6Z];omega
theorem a8o {t:Nat→Int} (a:Int):∀{n:Nat},ps (fun j=>a*t j) n=a*ps t n
 |0=>by simp[ps]
 |n+1=>by rw[ps,ps,a8o,Int.mul_add]
theorem b9Q {t:Nat→Int} {n:Nat}:ps (fun j=>-t j) n=-ps t n:=by
 have:=a8o (t:=t) (-1) (n:=n);simpa using this
theorem c2k {α:Type} [Inhabited α]:∀{cs:List α} {f:α→List α→Int},E f cs=ps (fun j=>sg j*f (cs[j]?.getD default) (cs.eraseIdx j)) cs.length
 |[],_=>rfl
 | c::cs,f=>by
  rw[E,c2k,List.length_cons,a4F];have:ps (fun j=>sg (j+1)*f ((c::cs)[j+1]?.getD default) ((c::cs).eraseIdx (j+1))) cs.length=-ps (fun j=>sg j*f (cs[j]?.getD default) (c::cs.eraseIdx j)) cs.length:=by
   rw[←b9Q];refine a1o fun j hj=>?_;simp only[sg,List.getElem?_cons_succ,List.eraseIdx_cons_succ,Int.neg_mul]
  rw[this];simp[sg];omega
def minor (a:Nat→Nat→Int) (rows cols:List Nat):Int:=det rows (cols.map fun k i=>a i k)
theorem a3v {a:Nat→Nat→Int} {r:Nat} {rows cols:List Nat}:minor a (r::rows) cols=ps (fun j=>sg j*(a r (cols[j]?.getD 0)*minor a rows (cols.eraseIdx j))) cols.length:=by
 unfold minor;rw[Z4,c2k]
 rfl
theorem a6i:∀{a b:Nat},sg (a+b)=sg a*sg b
 |a,0=>by simp[sg]
 |a,b+1=>by rw[←Nat.add_assoc,sg,sg,a6i,Int.mul_neg]
theorem c0v {a b:Nat} (h:b≤a):sg (a-b)=sg a*sg b:=by
 have h1:=a6i (a:=a-b) (b:=b);rw[Nat.sub_add_cancel h]at h1;rw[h1,Int.mul_assoc,b2l,Int.mul_one]
theorem b0z {a:Nat→Nat→Int} {r:Nat} {rows cols:List Nat} (hl:cols.length=rows.length+1):minor a (rows++[r]) cols=ps (fun j=>sg j*(a r (cols[cols.length-1-j]?.getD 0)*minor a rows (cols.eraseIdx (cols.length-1-j)))) cols.length:=by
 have h1:minor a (rows++[r]) cols=sg rows.length*minor a (r::rows) cols:=by
  have:=M7 (r:=r) (is:=rows) (v:=[]) (cs:=cols.map fun k i=>a i k);rw[List.append_nil]at this;exact this
 rw[h1,a3v,←a8o,←b6Z];refine a1o fun j hj=>?_;rw[←Int.mul_assoc]
 congr 1
 rw[←a6i];have h2:=c0v (a:=cols.length-1) (b:=j) (by omega);have h3:rows.length+(cols.length-1-j)=(rows.length-j)+(rows.length-j)+j:=by omega
 rw[h3,a6i,a6i,b2l,Int.one_mul]
theorem a6W {f:Nat→Nat}:∀{is:List Nat} {cs:List (Nat→Int)},det (is.map f) cs=det is (cs.map fun c i=>c (f i))
 |[],[]=>rfl
 |[],_::_=>rfl
 |i::is,cs=>by
  rw[List.map_cons,det,det,b8V];exact H4 fun c l _ _ _=>by rw[a6W]
theorem a1G {a:Nat→Nat→Int} {f g:Nat→Nat} {rows cols:List Nat}:minor a (rows.map f) (cols.map g)=minor (fun i k=>a (f i) (g k)) rows cols:=by
 unfold minor;rw[a6W,List.map_map,List.map_map]
 rfl
theorem U8 {a b:Nat→Nat→Int} {rows cols:List Nat} (h:∀i∈rows,∀k∈cols,a i k=b i k):minor a rows cols=minor b rows cols:=a2F h
theorem J6 {p:List Nat}:p=(List.range p.length).map fun j=>p.getD j 0:=by
 refine List.ext_getElem (by simp) fun j h1 h2=>?_;simp[h1]
theorem b3t {A:Nat→Nat→Int} {p:List Nat}:D A p=minor (fun i k=>A (p.getD i 0) (p.getD k 0)) (List.range p.length) (List.range p.length):=by
 have h:D A p=minor A p p:=rfl;rw[h]
 conv=>lhs;rw[J6 (p:=p)]
 exact a1G
theorem F5 {p:List Nat} (hp:p.Nodup) {i j:Nat} (hi:i<p.length) (hj:j<p.length) (h:p.getD i 0=p.getD j 0):i=j:=by
 simp only[List.getD_eq_getElem?_getD,List.getElem?_eq_getElem hi,List.getElem?_eq_getElem hj,Option.getD_some]at h;exact(List.getElem_inj hp).1 h
theorem a5B {A:Nat→Nat→Int} {b:Nat→Int} {p:List Nat} (hp:p.Nodup) {k:Nat} (hk:k<p.length):num A b p (p.getD k 0)=minor (fun i j=>if j=k then b (p.getD i 0)else A (p.getD i 0) (p.getD j 0)) (List.range p.length) (List.range p.length):=by
 have h:num A b p (p.getD k 0)=minor (fun i j=>if j=p.getD k 0 then b i else A i j) p p:=rfl;rw[h]
 conv=>lhs;rw[J6 (p:=p)]
 rw[a1G];refine U8 fun i hi j hj=>?_;rw[List.mem_range]at hi hj;have e:((List.range p.length).map fun j=>p.getD j 0)=p:=J6.symm;rw[e]
 by_cases h:j=k
 ·subst h;simp
 ·rw[if_neg h,if_neg fun e=>h (F5 hp hj hk e)]
def sa (f:Nat→Nat):List Nat→Nat
 |[]=>0
 |i::is=>f i+sa f is
theorem O1 {f:Nat→Nat}:∀{u v:List Nat},sa f (u++v)=sa f u+sa f v
 |[],v=>by simp[sa]
 |i::u,v=>by rw[List.cons_append,sa,sa,O1];omega
theorem a5a {f g:Nat→Nat}:∀{u:List Nat},(∀i∈u,f i≤g i)→sa f u≤sa g u
 |[],_=>Nat.le_refl _
 |i::u,h=>by
  have h1:=h i (by simp);have h2:=a5a (f:=f) (g:=g) (u:=u) fun k hk=>h k (by simp[hk]);rw[sa,sa];omega
theorem b1Q {f:Nat→Nat} (a:Nat):∀{u:List Nat},sa (fun i=>f i*a) u=sa f u*a
 |[]=>by simp[sa]
 |i::u=>by rw[sa,sa,b1Q,Nat.add_mul]
theorem b7z:∀{cs:List Nat} {f:Nat→List Nat→Int} {g:Nat→Nat},(∀u c v,cs=u++c::v→(f c (u++v)).natAbs≤g c)→(E f cs).natAbs≤sa g cs
 |[],f,g,_=>by simp[E,sa]
 |c::cs,f,g,h=>by
  have h1:=h [] c cs rfl;have h2:=b7z (cs:=cs) (f:=fun d l=>f d (c::l)) (g:=g) fun u d v e=>h (c::u) d v (by rw[e];rfl);rw[E,sa];simp only[List.nil_append]at h1;omega
theorem a1F {a:Nat→Nat→Int} {R:Nat}:∀{rows cols:List Nat},(∀i∈rows,sa (fun k=>(a i k).natAbs) cols≤R)→(minor a rows cols).natAbs≤R^rows.length
 |[],cols,_=>by
  unfold minor
  cases cols<;>simp[det]
 |i::rows,cols,h=>by
  have hm:minor a (i::rows) cols=E (fun k l=>a i k*minor a rows l) cols:=Z4;rw[hm];refine Nat.le_trans (b7z (g:=fun k=>(a i k).natAbs*R^rows.length) fun u c v e=>?_) ?_
  ·rw[Int.natAbs_mul];refine Nat.mul_le_mul_left _ (a1F fun j hj=>?_);have:=h j (by simp[hj]);rw[e,O1,sa]at this;rw[O1];omega
  ·rw[b1Q,List.length_cons,Nat.pow_succ,Nat.mul_comm];exact Nat.mul_le_mul_left _ (h i (by simp))
def bnd (R B:Nat):Nat→Nat
 |0=>0
 |n+1=>B*R^n+R*bnd R B n
theorem W6 {f:Nat→Nat} {u v:List Nat} {k:Nat}:sa f (u++k::v)=f k+sa f (u++v):=by
 rw[O1,O1,sa];omega
theorem a3I {a:Nat→Nat→Int} {R B k0:Nat}:∀{rows cols:List Nat},cols.Nodup→k0∈cols→(∀i∈rows,(a i k0).natAbs≤B)→(∀i∈rows,sa (fun k=>if k=k0 then 0 else(a i k).natAbs) cols≤R)→(minor a rows cols).natAbs≤bnd R B rows.length
 |[],cols,_,hk,_,_=>by
  unfold minor
  cases cols with
  |nil=>simp at hk
  |cons c cs=>simp[det]
 | i ::rows,cols,hn,hk,hB,hR=>by
  have hm:minor a (i::rows) cols=E (fun k l=>a i k*minor a rows l) cols:=Z4;rw[hm,List.length_cons,bnd];refine Nat.le_trans (b7z (g:=fun k=>if k=k0 then B*R^rows.length else(a i k).natAbs*bnd R B rows.length) fun u c v e=>?_) ?_
  ·rw[Int.natAbs_mul];subst e;obtain⟨hu,hv,hd⟩:=x5 hn
   by_cases hc:c=k0
   ·rw[if_pos hc];subst hc;refine Nat.mul_le_mul (hB i (by simp)) (a1F fun j hj=>?_);have:=hR j (by simp[hj]);rw[W6,if_pos rfl,Nat.zero_add]at this;refine Nat.le_trans (Nat.le_of_eq ?_) this;have hne:∀x∈u++v,x≠c:=fun x hx=>by
     rintro rfl
     rcases List.mem_append.1 hx with h|h
     ·exact hu h
     ·exact hv h
    refine Nat.le_antisymm (a5a fun x hx=>by rw[if_neg (hne x hx)];exact Nat.le_refl _) (a5a fun x hx=>by rw[if_neg (hne x hx)];exact Nat.le_refl _)
   ·rw[if_neg hc];refine Nat.mul_le_mul_left _ (a3I hd ?_ (fun j hj=>hB j (by simp[hj])) fun j hj=>?_)
    ·simp only[List.mem_append,List.mem_cons]at hk ⊢
     rcases hk with h|rfl|h
     ·exact .inl h
     ·exact absurd rfl hc
     ·exact .inr h
    ·have:=hR j (by simp[hj]);rw[W6]at this;omega
  ·obtain⟨u,v,rfl⟩:=List.append_of_mem hk;obtain⟨hu,hv,hd⟩:=x5 hn;have hne:∀x∈u++v,x≠k0:=fun x hx=>by
    rintro rfl
    rcases List.mem_append.1 hx with h|h
    ·exact hu h
    ·exact hv h
   rw[W6,if_pos rfl];refine Nat.add_le_add_left ?_ _;have h1:=hR i (by simp);rw[W6,if_pos rfl,Nat.zero_add]at h1;refine Nat.le_trans (Nat.le_of_eq (Nat.le_antisymm (a5a (g:=fun k=>(if k=k0 then 0 else(a i k).natAbs)*bnd R B rows.length) fun x hx=>by rw[if_neg (hne x hx),if_neg (hne x hx)];exact Nat.le_refl _) (a5a fun x hx=>by rw[if_neg (hne x hx),if_neg (hne x hx)];exact Nat.le_refl _))) ?_;rw[b1Q];exact Nat.mul_le_mul_right _ h1
end Go.Cur
end
section
namespace Go.Cur
def n9.A0 (P:n9) (i0:Nat):Nat→Nat→Int:=fun i k=>if i=i0 then(if k=i0 then 1 else 0)else P.L i k
def n9.b0 (P:n9) (i0:Nat):Nat→Int:=fun i=>if i=i0 then 0 else-P.u i
def n9.num0 (P:n9) (i0:Nat) (k:Nat):Int:=Cur.num (P.A0 i0) (P.b0 i0) P.ns k
def n9.den0 (P:n9) (i0:Nat):Int:=D (P.A0 i0) P.ns
theorem b5K {P:n9} (ho:P.Ok) {i0:Nat} {tl:List Nat} (hn:P.ns=i0::tl):0<P.den0 i0:=by
 have hnd:=ho.nd;rw[hn,List.nodup_cons]at hnd;have h1:P.den0 i0=D P.L tl:=by
  unfold n9.den0 D;rw[hn,Z4,E,a3M]
  ·have e:(P.A0 i0) i0 i0=1:=by simp[n9.A0]
   rw[e,Int.one_mul,Int.sub_zero];exact a2F fun i hi k hk=>by
    have:¬i=i0:=by rintro rfl;exact hnd.1 hi
    simp[n9.A0,this]
  ·intro c l hc _ _;have:¬c=i0:=by rintro rfl;exact hnd.1 hc
   simp[n9.A0,this]
 rw[h1];have hmem:∀k∈tl,k∈P.ns:=fun k hk=>by rw[hn];simp[hk]
 refine b9l _ rfl hnd.2 ?_ ?_
 ·have hc:b0Q P.L P.ns:=⟨ho.off,fun k hk=>by rw[ho.col k hk];exact Int.le_refl _⟩;rw[hn]at hc;exact b0Q.minor (u:=[]) hc (by simp) hnd.1
 ·intro U hU hne hs;exact ho.lead U hU hne (fun k hk=>hmem k (hs k hk)) ⟨i0,by rw[hn];simp,fun h=>hnd.1 (hs _ h)⟩
def dg (W:List Wn) (i:Nat):Nat:=(W.filter fun w=>decide (w.a=i)||decide (w.b=i)).length
theorem b1y {i n:Nat}:∀{W:List Wn},OkW W n→(∀w∈W,w.s≤4)→0≤lw W i i∧lw W i i≤4*dg W i
 |[],_,_=>by simp[lw,dg]
 | w ::W,hW,h4=>by
  have ih:=b1y (i:=i) (W:=W) (fun w hw=>hW w (by simp[hw])) fun w hw=>h4 w (by simp[hw]);obtain⟨_,_,hne,hs⟩:=hW w (by simp);have hs4:=h4 w (by simp);rw[lw];unfold dg at ih ⊢;rw[List.filter_cons]
  by_cases ha:w.a=i
  ·have hb:¬w.b=i:=by omega
   have e:ew w i*ew w i=1:=by
    unfold ew;rw[if_pos ha.symm,if_neg fun e=>hb e.symm];rfl
   rw[e,if_pos (by simp[ha]),List.length_cons];omega
  ·by_cases hb:w.b=i
   ·have e:ew w i*ew w i=1:=by
     unfold ew;rw[if_neg fun e=>ha e.symm,if_pos hb.symm];rfl
    rw[e,if_pos (by simp[hb]),List.length_cons];omega
   ·have e:ew w i*ew w i=0:=by
     unfold ew;rw[if_neg fun e=>ha e.symm,if_neg fun e=>hb e.symm];rfl
    rw[e,if_neg (by simp[ha,hb])];omega
theorem c0V {f:Nat→Int}:∀{U:List Nat},(∀k∈U,f k≤0)→(sa (fun k=>(f k).natAbs) U:Int)=-sm f U
 |[],_=>rfl
 |k::U,h=>by
  have h1:=h k (by simp);have h2:=c0V (f:=f) (U:=U) fun k hk=>h k (by simp[hk]);rw[sa,sm];omega
theorem b7r {P:n9} (ho:P.Ok) {i:Nat} (hi:i∈P.ns) (h0:0≤P.L i i):(sa (fun k=>(P.L i k).natAbs) P.ns:Int)=2*P.L i i:=by
 obtain⟨u,v,e⟩:=List.append_of_mem hi;have hnd:=ho.nd;have hr:=ho.row i hi;rw[e]at hnd hr ⊢;obtain⟨hu,hv,_⟩:=x5 hnd;rw[W6];rw[X6]at hr;have h1:=c0V (f:=fun k=>P.L i k) (U:=u++v) fun k hk=>ho.off i hi k (by
  rw[e];simp only[List.mem_append,List.mem_cons]at hk ⊢;rcases hk with h|h<;>simp[h]) (by
  rintro rfl
  rcases List.mem_append.1 hk with h|h
  ·exact hu h
  ·exact hv h)
 omega
end Go.Cur
end
section
namespace Go.Cur
open Go.AM Go.Proofs
abbrev wr (n:Int):Int:=IntKind.i64.wrap n
theorem b1T (n:Int):wr n=if n % 18446744073709551616≥9223372036854775808 then n % 18446744073709551616-18446744073709551616 else n % 18446744073709551616:=by
 simp[IntKind.wrap,IntKind.bits,IntKind.signed]
theorem b3V (n:Int):wr n % 18446744073709551616=n % 18446744073709551616:=by
 rw[b1T];split<;>omega
theorem b9y {a b:Int} (h:a % 18446744073709551616=b % 18446744073709551616):wr a=wr b:=by rw[b1T,b1T,h]
theorem b1p (a b:Int):wr (wr a+b)=wr (a+b):=b9y (by rw[Int.add_emod,b3V,←Int.add_emod])
theorem b0W (a b:Int):wr (a+wr b)=wr (a+b):=by rw[Int.add_comm,b1p,Int.add_comm]
theorem b2w (a b:Int):wr (wr a*b)=wr (a*b):=b9y (by rw[Int.mul_emod,b3V,←Int.mul_emod])
theorem b2H (a b:Int):wr (a*wr b)=wr (a*b):=by rw[Int.mul_comm,b2w,Int.mul_comm]
theorem a6h {n:Int} (h1:-9223372036854775808≤n) (h2:n≤9223372036854775807):wr n=n:=f6 h1 h2
theorem b7v (x y:Nat) (hx:x<4294967296) (hy:y<4294967296):bits .or .i64 x y=((x|||y:Nat):Int):=by
 have hb:x|||y<4294967296:=Nat.or_lt_two_pow (n:=32) (by omega) (by omega);show IntKind.i64.wrap ((BitVec.ofInt 64 x|||BitVec.ofInt 64 y).toNat:Int)=_;have h:(BitVec.ofInt 64 x|||BitVec.ofInt 64 y).toNat=x|||y:=by
  simp only[BitVec.toNat_or,BitVec.ofInt_natCast,BitVec.toNat_ofNat];rw[Nat.mod_eq_of_lt (by omega),Nat.mod_eq_of_lt (by omega)]
 rw[h];exact f6 (by omega) (by omega)
theorem b2I (x:Nat) (hx:x<4294967296):bits .and .i64 x 1=((x % 2:Nat):Int):=by
 show IntKind.i64.wrap ((BitVec.ofInt 64 x&&&BitVec.ofInt 64 (1:Nat)).toNat:Int)=_;have h:(BitVec.ofInt 64 x&&&BitVec.ofInt 64 (1:Nat)).toNat=x % 2:=by
  simp only[BitVec.toNat_and,BitVec.ofInt_natCast,BitVec.toNat_ofNat];rw[Nat.mod_eq_of_lt (by omega),Nat.mod_eq_of_lt (by omega),Nat.and_one_is_mod]
 rw[h];exact f6 (by omega) (by omega)
theorem T2 (x k:Nat) (hx:x<4294967296):bits .and .i64 ((x:Int)/2^((k:Int).toNat)) 1=if x.testBit k then 1 else 0:=by
 have e:(x:Int)/2^((k:Int).toNat)=((x/2^k:Nat):Int):=by
  rw[Int.toNat_natCast,Int.natCast_ediv];simp
 rw[e,b2I _ (Nat.lt_of_le_of_lt (Nat.div_le_self _ _) hx)];rw[Nat.testBit_eq_decide_div_mod_eq];have:x/2^k % 2=0∨x/2^k % 2=1:=by omega
 rcases this with h|h<;>simp[h]
theorem b9s (k:Nat) (hk:k≤20):IntKind.i64.wrap (1*2^((k:Int).toNat))=((2^k:Nat):Int):=by
 have h1:2^k≤2^20:=Nat.pow_le_pow_right (by omega) hk;have e:(1:Int)*2^((k:Int).toNat)=((2^k:Nat):Int):=by rw[Int.toNat_natCast,Int.one_mul];simp
 rw[e];generalize 2^k=m at h1;exact f6 (by omega) (by omega)
def unu (n used:Nat):List Nat:=(List.range n).filter fun k=> !used.testBit k
theorem a4S (k used:Nat):unu (k+1) used=unu k used++if used.testBit k then []else [k]:=by
 unfold unu;rw[List.range_succ,List.filter_append]
 cases h:used.testBit k<;>simp[h]
theorem b7D {n used k:Nat}:k∈unu n used↔k<n∧used.testBit k=false:=by simp[unu]
theorem b1k {n used:Nat}:(unu n used).Nodup:=List.nodup_range.filter _
theorem a6J {n used k:Nat} (hk:k<n) (h:used.testBit k=false):∃v,unu n used=unu k used++k::v:=by
 have:∀d,∃v,unu (k+1+d) used=unu k used++k::v:=by
  intro d
  induction d with
  |zero=>exact⟨[],by rw[Nat.add_zero,a4S,h];simp⟩
  |succ d ih=>
   obtain⟨v,hv⟩:=ih;refine⟨v++if used.testBit (k+1+d)then []else [k+1+d],?_⟩;rw[←Nat.add_assoc,a4S,hv,List.append_assoc]
   rfl
 have:=this (n-(k+1))
 rwa [show k+1+(n-(k+1))=n by omega]at this
theorem b1G {n used k:Nat} (hk:k<n) (h:used.testBit k=false):unu n (used|||2^k)=(unu n used).eraseIdx (unu k used).length:=by
 obtain⟨v,hv⟩:=a6J hk h;have hnd:=b1k (n:=n) (used:=used);have h1:unu n (used|||2^k)=(unu n used).filter fun x=>decide (x≠k):=by
  unfold unu;rw[List.filter_filter];refine List.filter_congr fun x _=>?_;rw[Nat.testBit_or,Nat.testBit_two_pow]
  by_cases e:x=k
  ·subst e;simp
  ·have e':¬k=x:=fun h=>e h.symm;simp[e,e']
 rw[hv]at hnd;obtain⟨hu,hv',_⟩:=x5 hnd;rw[h1,hv,List.eraseIdx_append_of_length_le (Nat.le_refl _),Nat.sub_self,List.eraseIdx_cons_zero,List.filter_append,List.filter_cons,if_neg (by simp)]
 congr 1
 ·refine List.filter_eq_self.2 fun x hx=>?_;have:x≠k:=by rintro rfl;exact hu hx
  simp[this]
 ·refine List.filter_eq_self.2 fun x hx=>?_;have:x≠k:=by rintro rfl;exact hv' hx
  simp[this]
theorem b6F {n used k:Nat} (hk:k<n) (h:used.testBit k=false):(unu n used)[(unu k used).length]?=some k:=by
 obtain⟨v,hv⟩:=a6J hk h;rw[hv,List.getElem?_append_right (Nat.le_refl _),Nat.sub_self];rfl
theorem a5k {n used k:Nat} (hk:k<n) (h:used.testBit k=false):(unu n (used|||2^k)).length+1=(unu n used).length:=by
 have h1:=(List.getElem?_eq_some_iff.1 (b6F hk h)).1;rw[b1G hk h,List.length_eraseIdx_of_lt h1];omega
theorem b3p {n used k:Nat} (hu:used<2^n) (hk:k<n):used|||2^k<2^n:=Nat.or_lt_two_pow hu (Nat.pow_lt_pow_right (by omega) hk)
abbrev Kvs:=List (List KC×Value)
def I9 (call:Nat→Kvs→Int×Kvs) (a:Nat→Nat→Int) (row used:Nat) (st:Int×Int×Kvs) (k:Nat):Int×Int×Kvs:=
 if used.testBit k then st
 else if a row k=0 then(st.1,wr (-st.2.1),st.2.2)
 else(wr (st.1+wr (wr (st.2.1*a row k)*(call (used|||2^k) st.2.2).1)),wr (-st.2.1),(call (used|||2^k) st.2.2).2)
def A8 (a:Nat→Nat→Int) (n:Nat):Nat→Nat→Nat→Kvs→Int×Kvs
 |0,_,used,s=>(igt s used,s)
 | d+1,row,used,s=>
  if (r9 s (ik used)).isSome then(igt s used,s)
  else(((List.range n).foldl (I9 (A8 a n d (row+1)) a row used) (0,1,s)).1,
   x9 ((List.range n).foldl (I9 (A8 a n d (row+1)) a row used) (0,1,s)).2.2 (ik used) (.int .i64 ((List.range n).foldl (I9 (A8 a n d (row+1)) a row used) (0,1,s)).1))
def b0T (a:Nat→Nat→Int) (n used:Nat):Int:=wr (minor a ((List.range n).drop (n-(unu n used).length)) (unu n used))
structure Kn (a:Nat→Nat→Int) (n:Nat) (s:Kvs):Prop where
 ok:∀(u:Nat) v,r9 s (ik u)=some v→v= .int .i64 (b0T a n u)
 int:a0R s
 full:(r9 s (ik ((2^n-1:Nat):Int))).isSome
theorem Kn.igt {a:Nat→Nat→Int} {n:Nat} {s:Kvs} (h:Kn a n s) {u:Nat} (hu:(r9 s (ik u)).isSome):igt s u=b0T a n u:=by
 obtain⟨v,hv⟩:=Option.isSome_iff_exists.1 hu;have:=h.ok u v hv;unfold Cur.igt;rw[hv,this]
theorem Kn.set {a:Nat→Nat→Int} {n:Nat} {s:Kvs} (h:Kn a n s) (u:Nat):Kn a n (x9 s (ik u) (.int .i64 (b0T a n u))):=by
 refine⟨fun x v hx=>?_,h.int.set _ _,?_⟩
 ·rw[a6n]at hx
  split at hx
  ·rename_i e;have:=O3.1 e;have e2:x=u:=by omega
   simp only[Option.some.injEq]at hx;rw[←hx,e2]
  ·exact h.ok x v hx
 ·rw[a6n]
  split
  ·rfl
  ·exact h.full
theorem b1C {n used:Nat} (hu:used<2^n) (h:unu n used=[]):used=2^n-1:=by
 refine Nat.eq_of_testBit_eq fun k=>?_;rw[Nat.testBit_two_pow_sub_one]
 by_cases hk:k<n
 ·have:¬k∈unu n used:=by rw[h];simp
  rw[b7D]at this;have:used.testBit k=true:=by
   cases hb:used.testBit k with
   |true=>rfl
   |false=>exact absurd ⟨hk,hb⟩ this
  simp[this,hk]
 ·have:used.testBit k=false:=Nat.testBit_lt_two_pow (Nat.lt_of_lt_of_le hu (Nat.pow_le_pow_right (by omega) (by omega)));simp[this,hk]
theorem b8v (j:Nat):wr (-sg j)=sg (j+1):=by
 have:sg j=1∨sg j=-1:=by
  induction j with
  |zero=>exact Or.inl rfl
  |succ j ih=>rcases ih with h|h<;>simp[sg,h]
 rw[sg]
 rcases this with h|h<;>rw[h]<;>rfl
theorem a5o {a:Nat→Nat→Int} {n:Nat}:∀(d row used:Nat) (s:Kvs),row+d=n→used<2^n→(unu n used).length=d→Kn a n s→(A8 a n d row used s).1=b0T a n used∧Kn a n (A8 a n d row used s).2
 |0,row,used,s,hr,hu,hl,hk=>by
  have:=b1C hu (List.length_eq_zero_iff.1 hl);subst this;exact⟨hk.igt hk.full,hk⟩
 | d + 1,row,used,s,hr,hu,hl,hk=>by
  rw[A8]
  by_cases hs:(r9 s (ik used)).isSome
  ·rw[if_pos hs];exact⟨hk.igt hs,hk⟩
  ·rw [if_neg hs]
   let t:Nat→Int:=fun j=>sg j*(a row ((unu n used)[j]?.getD 0)*minor a ((List.range n).drop (row+1)) ((unu n used).eraseIdx j))
   have key:∀k,k≤n→((List.range k).foldl (I9 (A8 a n d (row+1)) a row used) (0,1,s)).1=wr (ps t (unu k used).length)∧((List.range k).foldl (I9 (A8 a n d (row+1)) a row used) (0,1,s)).2.1=sg (unu k used).length∧Kn a n ((List.range k).foldl (I9 (A8 a n d (row+1)) a row used) (0,1,s)).2.2:=by
    intro k
    induction k with
    |zero=>intro _;exact⟨rfl,rfl,hk⟩
    | succ k ih=>
     intro hkn;obtain⟨i1,i2,i3⟩:=ih (by omega);rw[List.range_succ,List.foldl_append];simp only[List.foldl_cons,List.foldl_nil];generalize (List.range k).foldl (I9 (A8 a n d (row+1)) a row used) (0,1,s)=st at i1 i2 i3 ⊢;obtain⟨sum,sign,s1⟩:=st;simp only at i1 i2 i3 ⊢;unfold I9;rw[a4S]
     by_cases hb:used.testBit k=true
     ·rw[if_pos hb,if_pos hb,List.append_nil];exact⟨i1,i2,i3⟩
     ·have hb':used.testBit k=false:=by simpa using hb
      rw[if_neg hb,if_neg hb,List.length_append,List.length_singleton];have hat:=b6F (n:=n) (by omega) hb';have ht:t (unu k used).length=sg (unu k used).length*(a row k*minor a ((List.range n).drop (row+1)) (unu n (used|||2^k))):=by
       show sg _*(a row ((unu n used)[(unu k used).length]?.getD 0)*minor a ((List.range n).drop (row+1)) ((unu n used).eraseIdx (unu k used).length))=_;rw[hat,b1G (by omega) hb'];rfl
      by_cases h0:a row k=0
      ·rw[if_pos h0,ps,ht,h0,Int.zero_mul,Int.mul_zero,Int.add_zero,i2];exact⟨i1,b8v _,i3⟩
      ·rw[if_neg h0];obtain⟨c1,c2⟩:=a5o d (row+1) (used|||2^k) s1 (by omega) (b3p hu (by omega)) (by have:=a5k (n:=n) (by omega) hb';omega) i3;refine⟨?_,?_,c2⟩
       ·simp only;rw[c1,i1,i2,ps,ht];have hlen:=a5k (n:=n) (by omega) hb';have hm:b0T a n (used|||2^k)=wr (minor a ((List.range n).drop (row+1)) (unu n (used|||2^k))):=by
         unfold b0T;rw[show n-(unu n (used|||2^k)).length=row+1 by omega]
        rw[hm,b1p,b2w,b2H,b0W,Int.mul_assoc]
       ·simp only;rw[i2];exact b8v _
   obtain⟨k1,k2,k3⟩:=key n (Nat.le_refl _);have hv:wr (ps t (unu n used).length)=b0T a n used:=by
    unfold b0T;have hrow:(List.range n).drop (n-(unu n used).length)=row::(List.range n).drop (row+1):=by
     rw[hl,show n-(d+1)=row by omega,List.drop_eq_getElem_cons (by simp;omega)];simp
    rw[hrow,a3v]
   rw[hv]at k1;rw[k1];exact⟨rfl,k3.set used⟩
end Go.Cur
end
section
namespace Go.Cur
open Go.AM Go.Proofs
def mAt (m:List (List Int)) (i k:Nat):Int:=at0 (H6 m i) k
abbrev mL (m:List (List Int)):AV:= .lst 1 (m.map a2Z)
structure Sq (m:List (List Int)) (n:Nat):Prop where
 len:m.length=n
 rows:∀r∈m,r.length=n
theorem Sq.row {m:List (List Int)} {n i:Nat} (h:Sq m n) (hi:i<n):m[i]?=some (H6 m i)∧(H6 m i).length=n:=by
 have h1:=b4b (m:=m) (k:=i) (by rw[h.len];exact hi);exact⟨h1,h.rows _ (List.mem_of_getElem? h1)⟩
theorem Sq.get {m:List (List Int)} {n i k:Nat} (h:Sq m n) (hi:i<n) (hk:k<n):(H6 m i)[k]?=some (mAt m i k):=A5 (by rw[(h.row hi).2];exact hk)
def dB (m:List (List Int)):Nat→AV
 |0=> .vptr [.any]
 |d+1=> .vptr [.clo 115 [.ptr 0 0 0, .vptr [mL m],dB m d]]
theorem b4g (m:List (List Int)) (G:List (Option Nat)) (h0:j6 G 0=some 0):∀d k,2*d+1≤k→m5 G k (dB m d)=dB m d
 |0,k,h=>by
  obtain⟨k,rfl⟩:∃m,k=m+1:=⟨k-1,by omega⟩;show AV.vptr [m5 G k .any]=_
  cases k<;>rfl
 | d+1,k,h=>by
  obtain⟨k,rfl⟩:∃m,k=m+2:=⟨k-2,by omega⟩;have ih:=b4g m G h0 d k (by omega);have p0:m5 G k (.ptr 0 0 0)= .ptr 0 0 0:=by
   have e:m5 G k (.ptr 0 0 0)=match j6 G 0 with|some q=> .ptr q 0 0|none=> .any:=by cases k<;>rfl
   rw[e,h0]
  have p1:m5 G k (.vptr [mL m])= .vptr [mL m]:=by
   obtain⟨k,rfl⟩:∃m,k=m+1:=⟨k-1,by omega⟩;show AV.vptr [m5 G k (mL m)]=_
   cases k<;>rfl
  show AV.vptr [.clo 115 [m5 G k (.ptr 0 0 0),m5 G k (.vptr [mL m]),m5 G k (dB m d)]]=_;rw[ih,p0,p1];rfl
abbrev b5o (m:List (List Int)) (row used:Nat) (B:AV):List AV:=[I row,I used, .ptr 0 0 0, .vptr [mL m],B]
abbrev a4r (s:Kvs):Option k8:=some (.map false [.i .i64] s)
theorem b3W (m:List (List Int)) (row used:Nat) (s:Kvs) (B:AV) (hI:a0R s) (hs:(r9 s (ik used)).isSome=true):
  e9 Try.prog 115 (b5o m row used B) [some (.els 1 [[.mp 1]])] [a4r s] (I (igt s used)) [some (.els 1 [[.mp 1]])] [a4r s]:=by
 refine e9.of_bodyG [2] Try.func115 rfl (by decide) (by simp[Try.ntmps115]) rfl rfl ?_;intro J hJ;simp only[Try.ntmps115,Try.results115];refine gS fun K hK=>?_;simp -dsimp;apply hK;clear hK K;refine b6 fun K1 hK1=>?_;refine gS fun K hK=>?_;simp -dsimp [p6 hI,hs];refine o3 (_) (fun hm=>rfl) ?_;simp -dsimp [p6 hI,hs];apply hK;clear hK K;refine gS fun K hK=>?_;simp -dsimp;apply hK;clear hK K;refine d6 rfl (fun hc0=>?_) (fun hc0=>?_)
 ·refine gS fun K hK=>?_;simp -dsimp;apply hK;clear hK K;exact i5 ⟨[some 0,some 1],rfl,by simp,by simp,by simp,by simp[y3,m6]⟩
 ·simp at hc0
theorem b9v (m:List (List Int)) (n d row used:Nat) (s:Kvs) (hq:Sq m n) (hn:n≤10) (hr:row+(d+1)=n) (hu:used<2^n) (hl:(unu n used).length=d+1) (hk:Kn (mAt m) n s) (hs:(r9 s (ik used)).isSome=false)
  (hb:∀row used s,row+d=n→used<2^n→(unu n used).length=d→Kn (mAt m) n s→e9 Try.prog 115 (b5o m row used (dB m d)) [some (.els 1 [[.mp 1]])] [a4r s] (I (A8 (mAt m) n d row used s).1) [some (.els 1 [[.mp 1]])] [a4r (A8 (mAt m) n d row used s).2]):
  e9 Try.prog 115 (b5o m row used (dB m (d+1))) [some (.els 1 [[.mp 1]])] [a4r s] (I (A8 (mAt m) n (d+1) row used s).1) [some (.els 1 [[.mp 1]])] [a4r (A8 (mAt m) n (d+1) row used s).2]:=by
 have hI:=hk.int;have hdn:d≤10:=by omega
 have hB1:∀k,36≤k→m5 [some 0,some 1] k (dB m d)=dB m d:=fun k hk=>b4g m _ rfl d k (by omega);have hB2:∀k,36≤k→m5 [some 0,some 2] k (dB m d)=dB m d:=fun k hk=>b4g m _ rfl d k (by omega);have hpow:(2:Nat)^n≤2^10:=Nat.pow_le_pow_right (by omega) hn;have hu2:used<4294967296:=by omega
 have hok:=fun s=>a5o (a:=mAt m) (n:=n) d (row+1) s;have e0:A8 (mAt m) n (d+1) row used s=(((List.range n).foldl (I9 (A8 (mAt m) n d (row+1)) (mAt m) row used) (0,1,s)).1,
   x9 ((List.range n).foldl (I9 (A8 (mAt m) n d (row+1)) (mAt m) row used) (0,1,s)).2.2 (ik used) (.int .i64 ((List.range n).foldl (I9 (A8 (mAt m) n d (row+1)) (mAt m) row used) (0,1,s)).1)):=by
  rw[A8,if_neg (by simp[hs])]
 rw[e0];have hml:=hq.len;have gr:=(hq.row (i:=row) (by omega)).1;have wrow:IntKind.i64.wrap ((row:Int)+1)=((row+1:Nat):Int):=by rw[f6 (by omega) (by omega)];omega
 show e9 Try.prog 115 [I row,I used, .ptr 0 0 0, .vptr [mL m], .vptr [.clo 115 [.ptr 0 0 0, .vptr [mL m],dB m d]]] _ _ _ _ _;generalize dB m d=B at hb hB1 hB2 ⊢;refine e9.of_bodyG [2] Try.func115 rfl (by decide) (by simp[Try.ntmps115]) rfl rfl ?_;intro J hJ;simp only[Try.ntmps115,Try.results115];refine gS fun K hK=>?_;simp -dsimp;apply hK;clear hK K;refine b6 fun K1 hK1=>?_;refine gS fun K hK=>?_;simp -dsimp [p6 hI,hs];refine o3 (_) (fun hm=>rfl) ?_;simp -dsimp [p6 hI,hs];apply hK;clear hK K;refine gS fun K hK=>?_;simp -dsimp;apply hK;clear hK K;refine d6 rfl (fun hc0=>?_) (fun hc0=>?_)
 ·simp at hc0
 ·refine d7 ?_;simp only[zT,reduceIte,Nat.reduceEqDiff];refine hK1 _ _ ?_;refine b5 [0,1,2,3,4] (Or.inr (by simp)) ?_;simp only[zP,Nat.reduceEqDiff,reduceIte];refine gS fun K hK=>?_;simp -dsimp;apply hK;clear hK K;refine b6 fun K2 hK2=>?_;refine gS fun K hK=>?_;simp -dsimp;apply hK;clear hK K;refine d5 ?_;refine b5 [0,1,2,3,4,10,11,23,24] (Or.inr (by simp)) ?_;simp only[zP,Nat.reduceEqDiff,reduceIte];refine f5 [0,1,2,3,4,23] (α:=Nat×(Int×Int×Kvs)) (fun x=>[(10,I x.2.1),(11,I x.2.2.1),(24,I x.1)]) (fun x=>[some (.els 1 [[.mp 1]]),a4r x.2.2.2]) (fun x=>x.1≤n∧x.2=(List.range x.1).foldl (I9 (A8 (mAt m) n d (row+1)) (mAt m) row used) (0,1,s)∧Kn (mAt m) n x.2.2.2) (fun x=>n-x.1) (0,0,1,s) ?_ ?_ ?_
  ·exact⟨Nat.zero_le _,rfl,hk⟩
  ·exact l9 (d8 [some 0,some 1] rfl (by simp[hB1]) (by simp)) (by simp)
  rintro⟨k,sum,sign,s1⟩ ⟨k1,k2,k3⟩;simp only at k1 k2 k3 ⊢;simp only[zP,Nat.reduceEqDiff,reduceIte];refine gS fun K hK=>?_;simp -dsimp;apply hK;clear hK K;refine b6 fun K3 hK3=>?_;refine d6 rfl (fun hc1=>?_) (fun hc1=>?_)
  ·have hkn:k<n:=by rw[←hml];simpa using hc1
   have wk:=zW k (by omega);have hbit:bits .and .i64 ((used:Int)/2^k) 1=if used.testBit k then 1 else 0:=by have:=T2 used k hu2;rwa [Int.toNat_natCast]at this
   have hb64:k≤IntKind.i64.bits:=Nat.le_trans (show k≤10 by omega) (by decide);have gk:=hq.get (i:=row) (by omega) hkn;have hst:(List.range (k+1)).foldl (I9 (A8 (mAt m) n d (row+1)) (mAt m) row used) (0,1,s)=I9 (A8 (mAt m) n d (row+1)) (mAt m) row used (sum,sign,s1) k:=by rw[List.range_succ,List.foldl_append,←k2];rfl
   refine d7 ?_;simp only[zT,reduceIte,Nat.reduceEqDiff];refine hK3 _ _ ?_;refine b5 [0,1,2,3,4,10,11,23,24] (Or.inr (by simp)) ?_;simp only[zP,Nat.reduceEqDiff,reduceIte];refine b6 fun K4 hK4=>?_;refine d5 ?_;refine gS fun K hK=>?_;simp -dsimp;apply hK;clear hK K;refine b6 fun K5 hK5=>?_;refine gS fun K hK=>?_;simp -dsimp [hbit,hb64];apply hK;clear hK K;refine d6 rfl (fun hc2=>?_) (fun hc2=>?_)
   ·have hbt:used.testBit k=true:=by
     cases h:used.testBit k with
     |true=>rfl
     |false=>rw[h]at hc2;simp at hc2
    refine f8 ?_;simp only[zT,reduceIte,Nat.reduceEqDiff];refine hK4 _ _ ?_;refine b5 [0,1,2,3,4,10,11,23,24] (Or.inr (by simp)) ?_;simp only[zP,Nat.reduceEqDiff,reduceIte];refine gR fun K hK=>?_;simp -dsimp [wk];apply hK;clear hK K;simp only[zT,reduceIte,Nat.reduceEqDiff];have hf:I9 (A8 (mAt m) n d (row+1)) (mAt m) row used (sum,sign,s1) k=(sum,sign,s1):=by unfold I9;rw[if_pos hbt]
    rw[hf]at hst;exact⟨(k+1,sum,sign,s1),⟨by simp only;omega,hst.symm,k3⟩,by simp only;omega,l9 (d8 [some 0,some 1] rfl (by simp[hB1]) (by simp)) (by simp)⟩
   ·have hbt:used.testBit k=false:=by
     cases h:used.testBit k with
     |false=>rfl
     |true=>rw[h]at hc2;simp at hc2
    refine d7 ?_;simp only[zT,reduceIte,Nat.reduceEqDiff];refine hK5 _ _ ?_;refine b5 [0,1,2,3,4,10,11,12,23,24] (Or.inr (by simp)) ?_;simp only[zP,Nat.reduceEqDiff,reduceIte];refine b6 fun K6 hK6=>?_;refine gS fun K hK=>?_;simp -dsimp [gr,gk];apply hK;clear hK K;refine gS fun K hK=>?_;simp -dsimp;apply hK;clear hK K;refine d6 rfl (fun hc3=>?_) (fun hc3=>?_)
    ·skip
     try simp at hc3
     have hor:bits .or .i64 (used:Int) (2^k)=((used|||2^k:Nat):Int):=by have:=b7v used (2^k) hu2 (Nat.lt_of_le_of_lt (Nat.pow_le_pow_right (by omega) (show k≤10 by omega)) (by decide));rwa [Int.natCast_pow]at this
     have hsh:IntKind.i64.wrap (2^k)=2^k:=by have:=b9s k (by omega);rw[Int.toNat_natCast,Int.one_mul,Int.natCast_pow]at this;exact this
     have hk3:=hok (used|||2^k) s1 (by omega) (b3p hu hkn) (by have:=a5k hkn hbt;omega) k3;have hcall:=hb (row+1) (used|||2^k) s1 (by omega) (b3p hu hkn) (by have:=a5k hkn hbt;omega) k3;refine o4 k7 rfl (by decide) rfl rfl fun K hK=>?_;simp -dsimp [wrow,hor,hsh,hb64];refine i8 [0] [1] [some 0,none,some 1] (hcall) (by decide) rfl (by simp[hB1]) (by simp[hB1]) rfl (by simp) ?_;simp -dsimp [wrow,hor,hsh,hb64];refine hK _ _ _ (by decide+kernel) ?_;clear hK K;simp only[zT,reduceIte,Nat.reduceEqDiff];refine hK6 _ _ ?_;refine b5 [0,1,2,3,4,10,11,23,24] (Or.inr (by simp)) ?_;simp only[zP,Nat.reduceEqDiff,reduceIte];refine gR fun K hK=>?_;simp -dsimp;apply hK;clear hK K;simp only[zT,reduceIte,Nat.reduceEqDiff];refine hK4 _ _ ?_;refine b5 [0,1,2,3,4,10,11,23,24] (Or.inr (by simp)) ?_;simp only[zP,Nat.reduceEqDiff,reduceIte];refine gR fun K hK=>?_;simp -dsimp [wk];apply hK;clear hK K;simp only[zT,reduceIte,Nat.reduceEqDiff];have hf:I9 (A8 (mAt m) n d (row+1)) (mAt m) row used (sum,sign,s1) k=(wr (sum+wr (wr (sign*mAt m row k)*(A8 (mAt m) n d (row+1) (used|||2^k) s1).1)),wr (-sign),(A8 (mAt m) n d (row+1) (used|||2^k) s1).2):=by unfold I9;rw[if_neg (by simp[hbt]),if_neg hc3]
     rw[hf]at hst;exact⟨(k+1,_),⟨by simp only;omega,hst.symm,hk3.2⟩,by simp only;omega,l9 (d8 [some 0,some 2] rfl (by simp[hB2]) (by simp)) (by simp)⟩
    ·skip
     try simp at hc3
     refine d7 ?_;simp only[zT,reduceIte,Nat.reduceEqDiff];refine hK6 _ _ ?_;refine b5 [0,1,2,3,4,10,11,23,24] (Or.inr (by simp)) ?_;simp only[zP,Nat.reduceEqDiff,reduceIte];refine gR fun K hK=>?_;simp -dsimp;apply hK;clear hK K;simp only[zT,reduceIte,Nat.reduceEqDiff];refine hK4 _ _ ?_;refine b5 [0,1,2,3,4,10,11,23,24] (Or.inr (by simp)) ?_;simp only[zP,Nat.reduceEqDiff,reduceIte];refine gR fun K hK=>?_;simp -dsimp [wk];apply hK;clear hK K;simp only[zT,reduceIte,Nat.reduceEqDiff];have hf:I9 (A8 (mAt m) n d (row+1)) (mAt m) row used (sum,sign,s1) k=(sum,wr (-sign),s1):=by unfold I9;rw[if_neg (by simp[hbt]),if_pos hc3]
     rw[hf]at hst;exact⟨(k+1,_),⟨by simp only;omega,hst.symm,k3⟩,by simp only;omega,l9 (d8 [some 0,some 1] rfl (by simp[hB1]) (by simp)) (by simp)⟩
  ·have hkl:¬k<m.length:=by simpa using hc1
   have hkn:k=n:=by omega
   rw[hkn]at k2;refine f8 ?_;simp only[zT,reduceIte,Nat.reduceEqDiff];refine hK2 _ _ ?_;refine b5 [1,2,10] (Or.inr (by simp)) ?_;simp only[zP,Nat.reduceEqDiff,reduceIte];refine gS fun K hK=>?_;simp -dsimp;apply hK;clear hK K;refine gS fun K hK=>?_;simp -dsimp;apply hK;clear hK K;have k4:=k2.symm;exact i5 ⟨[some 0,some 1],rfl,by simp,by simp[k4],by simp,by simp[y3,m6,k4]⟩
theorem b7i (m:List (List Int)) (n:Nat) (hq:Sq m n) (hn:n≤10):∀(d row used:Nat) (s:Kvs),row+d=n→used<2^n→(unu n used).length=d→Kn (mAt m) n s→
  e9 Try.prog 115 (b5o m row used (dB m d)) [some (.els 1 [[.mp 1]])] [a4r s] (I (A8 (mAt m) n d row used s).1) [some (.els 1 [[.mp 1]])] [a4r (A8 (mAt m) n d row used s).2]
 |0,row,used,s,hr,hu,hl,hk=>by
  have:=b1C hu (List.length_eq_zero_iff.1 hl);subst this;exact b3W m row _ s _ hk.int hk.full
 | d+1,row,used,s,hr,hu,hl,hk=>by
  cases hs:(r9 s (ik used)).isSome with
  |true=>
   rw[A8,if_pos hs];exact b3W m row used s _ hk.int hs
  |false=>exact b9v m n d row used s hq hn hr hu hl hk hs (b7i m n hq hn d)
abbrev b5e:Option k8:=some (.els 1 [[.clo 115 [.ptr 0 0 0, .ptr 3 0 0, .ptr 2 0 0]]])
abbrev b1K (m:List (List Int)):Option k8:=some (.els 1 [[mL m]])
theorem b1w (m:List (List Int)) (H:Nat→Option k8) (h3:H 3=b1K m) (k:Nat):S7 H [0,1] (k+1) (.ptr 3 0 0)= .vptr [mL m]:=by
 have e:j6 ([0,1].map some) 3=none:=by decide
 have e2:∀k,S7 H [0,1] k (mL m)=mL m:=fun k=>by cases k<;>rfl
 simp only[S7,e,h3];simp[e2]
theorem b7d (m:List (List Int)) (H:Nat→Option k8) (h2:H 2=b5e) (h3:H 3=b1K m):∀d,S7 H [0,1] (2*d+1) (.ptr 2 0 0)=dB m d
 |0=>by
  have e:j6 ([0,1].map some) 2=none:=by decide
  simp only[S7,e,h2];rfl
 | d+1=>by
  have e:j6 ([0,1].map some) 2=none:=by decide
  have ih:=b7d m H h2 h3 d;have e3:=b1w m H h3 (2*d);have e0:S7 H [0,1] (2*d+1) (.ptr 0 0 0)= .ptr 0 0 0:=rfl;rw[show 2*(d+1)+1=(2*d+1)+1+1 by omega];have:S7 H [0,1] (2*d+1+1+1) (.ptr 2 0 0)= .vptr [.clo 115 [S7 H [0,1] (2*d+1) (.ptr 0 0 0),S7 H [0,1] (2*d+1) (.ptr 3 0 0),S7 H [0,1] (2*d+1) (.ptr 2 0 0)]]:=by
   conv=>lhs;simp only[S7,e,h2]
   rfl
  rw[this,ih,e0,e3];rfl
def a6X (m:List (List Int)):Int:=minor (mAt m) (List.range m.length) (List.range m.length)
theorem a8A (n:Nat):unu n 0=List.range n:=by
 unfold unu;rw[List.filter_eq_self];intro x _;simp
theorem b5A (a:Nat→Nat→Int) (n:Nat):Kn a n (x9 [] (ik ((2^n-1:Nat):Int)) (.int .i64 1)):=by
 have hu:unu n (2^n-1)=[]:=by
  unfold unu;rw[List.filter_eq_nil_iff];intro x hx;rw[List.mem_range]at hx;rw[Nat.testBit_two_pow_sub_one];simp[hx]
 have hv:b0T a n (2^n-1)=1:=by
  unfold b0T;rw[hu];simp only[List.length_nil,Nat.sub_zero];rw[List.drop_of_length_le (by simp)]
  rfl
 refine⟨fun u v h=>?_,a0R.nil.set _ _,by rw[a6n];simp⟩;rw[a6n]at h
 split at h
 ·rename_i e;have:=O3.1 e;have e2:u=2^n-1:=by omega
  simp only[Option.some.injEq]at h;rw[←h,e2,hv]
 ·cases h
theorem b7m (m:List (List Int)) (n:Nat) (hq:Sq m n) (hn:n≤10) (s:Kvs) (hk:Kn (mAt m) n s):
  e9 Try.prog 115 [I 0,I 0, .ptr 0 0 0, .ptr 3 0 0, .ptr 2 0 0] [some (.els 1 [[.mp 1]])] ([a4r s]++[b5e,b1K m]) (I (wr (a6X m))) [some (.els 1 [[.mp 1]])] [a4r (A8 (mAt m) n n 0 0 s).2]:=by
 have hl:(unu n 0).length=n:=by rw[a8A];simp
 have h:=b7i m n hq hn n 0 0 s (by omega) (Nat.two_pow_pos n) hl hk;have hv:=(a5o (a:=mAt m) (n:=n) n 0 0 s (by omega) (Nat.two_pow_pos n) hl hk).1;have hd:b0T (mAt m) n 0=wr (a6X m):=by
  unfold b0T a6X;rw[hl,a8A,hq.len,Nat.sub_self,List.drop_zero]
 rw[hv,hd]at h;refine e9.eat2 (2*n+1) 2 rfl ?_ ?_ h
 ·simp[List.range,List.range.loop]
 ·have e2:=b7d m (l7 ([some (.els 1 [[.mp 1]])]++([a4r s]++[b5e,b1K m]))) rfl rfl n;have e3:=b1w m (l7 ([some (.els 1 [[.mp 1]])]++([a4r s]++[b5e,b1K m]))) rfl (2*n);show [S7 _ [0,1] (2*n+1) (I 0),S7 _ [0,1] (2*n+1) (I 0),S7 _ [0,1] (2*n+1) (.ptr 0 0 0),S7 _ [0,1] (2*n+1) (.ptr 3 0 0),S7 _ [0,1] (2*n+1) (.ptr 2 0 0)]=_;rw[e2,e3]
  rfl
theorem V4 (m:List (List Int)) (n:Nat) (hq:Sq m n) (hn:n≤10):d4 Try.prog 102 [mL m] (I (wr (a6X m))):=by
 have h:=b7m m n hq hn _ (b5A (mAt m) n);have hml:=hq.len;have hb64:n≤IntKind.i64.bits:=Nat.le_trans (show n≤10 by omega) (by decide);have hpow:(1:Nat)≤2^n∧(2:Nat)^n≤2^10:=⟨Nat.one_le_two_pow,Nat.pow_le_pow_right (by omega) hn⟩;have hsh:IntKind.i64.wrap (2^n)=2^n:=by have:=b9s n (by omega);rw[Int.toNat_natCast,Int.one_mul,Int.natCast_pow]at this;exact this
 have hw1:IntKind.i64.wrap (2^n-1)=((2^n-1:Nat):Int):=by
  have e:((2:Int)^n)=((2^n:Nat):Int):=by simp
  rw[e];generalize 2^n=q at hpow;rw[f6 (by omega) (by omega)];omega
 refine d4.of_bodyG Try.func102 rfl (by decide) (by simp[Try.ntmps102]) ?_;intro J hJ;simp only[Try.ntmps102,Try.results102];refine gS fun K hK=>?_;simp -dsimp;apply hK;clear hK K;refine gS fun K hK=>?_;simp -dsimp [hml,hb64,hsh,hw1];apply hK;clear hK K;refine gS fun K hK=>?_;simp -dsimp;apply hK;clear hK K;refine gS fun K hK=>?_;simp -dsimp;apply hK;clear hK K;refine gS fun K hK=>?_;simp -dsimp;refine i8 [2] [1,3,0] [none,none,some 0,none,some 1] (h) (by decide) rfl (by simp) (by simp) rfl (by simp) ?_;simp -dsimp;apply hK;clear hK K;exact i5 (by simp[y3,m6])
end Go.Cur
end
section
namespace Go.Cur
open Go.AM Go.Proofs
theorem c2d (t:List Int) (hne:t≠[]) (hn:t.length≤1000):M8 Try.prog 61 [iL t] 0 t.length 1 (t.map i4):=by
 have f1:D8 t.length 9:=j7 (by omega) (by omega);refine M8.of_body Try.func61 rfl (by decide) (by simp[Try.ntmps61]) (by simp) (by simpa using hne) ?_;simp only[Try.ntmps61,Try.results61];refine aS fun K hK=>?_;simp -dsimp;apply hK;clear hK K;refine b9 fun K1 hK1=>?_;refine aS fun K hK=>?_;simp -dsimp [hne];apply hK;clear hK K;refine d9 rfl (fun hc0=>?_) (fun hc0=>?_)
 ·simp at hc0
 ·refine e8 ?_;simp only[zT,reduceIte,Nat.reduceEqDiff];refine hK1 _ _ ?_;refine b7 [0] ?_;simp only[zP,Nat.reduceEqDiff,reduceIte];refine aS fun K hK=>?_;simp -dsimp [hne,f1];apply hK;clear hK K;exact f7 ⟨2,0,rfl,by simp,by simp⟩
def a7a (m:List (List Int)) (b:List Int) (k:Nat):List (List Int):=(List.range m.length).map fun(i:Nat)=>(H6 m i).set k (at0 b i)
theorem Y8 {m:List (List Int)} {b:List Int} {k:Nat}:(a7a m b k).length=m.length:=by simp[a7a]
theorem a1l {m:List (List Int)} {b:List Int} {k i:Nat} (hi:i<m.length):(a7a m b k)[i]?=some ((H6 m i).set k (at0 b i)):=by
 unfold a7a;rw[List.getElem?_map,List.getElem?_range hi];rfl
theorem b1S {m:List (List Int)} {b:List Int} {n k:Nat} (h:Sq m n):Sq (a7a m b k) n:=by
 refine⟨by rw[Y8];exact h.len,fun r hr=>?_⟩;obtain⟨i,hi⟩:=List.getElem?_of_mem hr;have hl:=(List.getElem?_eq_some_iff.1 hi).1;rw[Y8]at hl;rw[a1l hl]at hi;simp only[Option.some.injEq]at hi;rw[←hi,List.length_set];exact(h.row (by rw[←h.len];exact hl)).2
theorem b7p {m:List (List Int)} {b:List Int} {n k i j:Nat} (h:Sq m n) (hi:i<n) (hj:j<n):mAt (a7a m b k) i j=if j=k then at0 b i else mAt m i j:=by
 have h1:H6 (a7a m b k) i=(H6 m i).set k (at0 b i):=a9S (a1l (by rw[h.len];exact hi));have hl:=(h.row hi).2;unfold mAt;rw[h1]
 by_cases e:j=k
 ·subst e;rw[if_pos rfl];exact W5 (by rw[List.getElem?_set_self (by omega)])
 ·rw[if_neg e];have:((H6 m i).set k (at0 b i))[j]?=some (at0 (H6 m i) j):=by
   rw[List.getElem?_set_ne (fun h=>e h.symm)];exact A5 (by omega)
  exact W5 this
def a1A (m:List (List Int)) (b:List Int):List Int:=(List.range m.length).map fun k=>wr (a6X (a7a m b k))
theorem a9h (m:List (List Int)) (b:List Int) (n:Nat) (hq:Sq m n) (h1:1≤n) (hn:n≤10) (hb:b.length=n):e9 Try.prog 88 [mL m,iL b] [] [] (.tup [.row 0 0 n,I (wr (a6X m))]) [] [some (.els 1 ((a1A m b).map i4))]:=by
 have hml:=hq.len;have hdet:=V4 m n hq hn;refine e9.of_bodyG [] Try.func88 rfl (by decide) (by simp[Try.ntmps88]) rfl rfl ?_;intro J hJ;simp only[Try.ntmps88,Try.results88];refine gS fun K hK=>?_;simp -dsimp;apply hK;clear hK K;refine gS fun K hK=>?_;simp -dsimp;apply hK;clear hK K;refine b6 fun K1 hK1=>?_;refine gS fun K hK=>?_;simp -dsimp;apply hK;clear hK K;refine d5 ?_;refine b5 [0,1,6,12,13] (Or.inr (by simp)) ?_;simp only[zP,Nat.reduceEqDiff,reduceIte];refine f5 [0,1,12] (α:=Nat) (fun k=>[(6, .row 0 0 k),(13,I k)]) (fun k=>[some (.els 1 (((a1A m b).take k).map i4))]) (fun k=>k≤n) (fun k=>n-k) 0 ?_ ?_ ?_
 ·exact Nat.zero_le _
 ·exact l9 ((z7 6 1 (by simp)).trans (i7 (by simp))) (by simp)
 rintro k k1;simp only[zP,Nat.reduceEqDiff,reduceIte];refine gS fun K hK=>?_;simp -dsimp;apply hK;clear hK K;refine b6 fun K2 hK2=>?_;refine d6 rfl (fun hc0=>?_) (fun hc0=>?_)
 ·have hkn:k<n:=by rw[←hml];simpa using hc0
  have wk:=zW k (by omega);have gsk:(a1A m b)[k]?=some (wr (a6X (a7a m b k))):=by
   unfold a1A;rw[List.getElem?_map,List.getElem?_range (by omega)];rfl
  have hsl:min k (a1A m b).length=k:=by simp only[a1A,List.length_map,List.length_range];omega
  have hdk:=V4 (a7a m b k) n (b1S hq) hn;have hrl:=Y8 (m:=m) (b:=b) (k:=k);have hrg:=fun i (hi:i<n)=>a1l (m:=m) (b:=b) (k:=k) (i:=i) (by omega);generalize a7a m b k=M at gsk hdk hrl hrg;refine d7 ?_;simp only[zT,reduceIte,Nat.reduceEqDiff];refine hK2 _ _ ?_;refine b5 [0,1,6,12,13] (Or.inr (by simp)) ?_;simp only[zP,Nat.reduceEqDiff,reduceIte];refine b6 fun K3 hK3=>?_;refine d5 ?_;refine gS fun K hK=>?_;simp -dsimp;apply hK;clear hK K;refine gS fun K hK=>?_;simp -dsimp;apply hK;clear hK K;refine b6 fun K4 hK4=>?_;refine gS fun K hK=>?_;simp -dsimp;apply hK;clear hK K;refine d5 ?_;refine b5 [0,1,6,7,8,12,13,16,17,18] (Or.inr (by simp)) ?_;simp only[zP,Nat.reduceEqDiff,reduceIte];refine f5 [0,1,6,7,12,13,16,17] (α:=Nat) (fun i=>[(8, .row 1 0 i),(18,I i)]) (fun i=>[some (.els 1 (((a1A m b).take k).map i4)),some (.els 1 ((M.take i).map a2Z))]) (fun i=>i≤n) (fun i=>n-i) 0 ?_ ?_ ?_
  ·exact Nat.zero_le _
  ·exact l9 ((z7 8 1 (by simp)).trans (d8 [some 0,some 1] rfl (by simp) (by simp))) (by simp)
  rintro i i1;simp only[zP,Nat.reduceEqDiff,reduceIte];refine gS fun K hK=>?_;simp -dsimp;apply hK;clear hK K;refine b6 fun K5 hK5=>?_;refine d6 rfl (fun hc1=>?_) (fun hc1=>?_)
  ·have hin:i<n:=by rw[←hml];simpa using hc1
   have wi:=zW i (by omega);obtain⟨gr,hrn⟩:=hq.row hin;have gb:=A5 (l:=b) (k:=i) (by omega);have hgi:=hrg i hin;have hMt:M.take (i+1)=M.take i++[(H6 m i).set k (at0 b i)]:=by rw[List.take_add_one,hgi];rfl
   have hMl:(M.take i).length=i:=by rw[List.length_take];omega
   have hmin:min i M.length=i:=by omega
   have hne:H6 m i≠[]:=by intro e;rw[e]at hrn;simp at hrn;omega
   have hcl:=c2d (H6 m i) hne (by omega);generalize H6 m i=r at gr hrn hMt hcl hgi;have f1:D8 (i+1) 25:=j7 (by omega) (by omega);have htr:List.take n ((r.map i4).set k [I (at0 b (i:Int))])=(r.map i4).set k [I (at0 b (i:Int))]:=List.take_of_length_le (by simp;omega);refine d7 ?_;simp only[zT,reduceIte,Nat.reduceEqDiff];refine hK5 _ _ ?_;refine b5 [0,1,6,7,8,12,13,16,17,18] (Or.inr (by simp)) ?_;simp only[zP,Nat.reduceEqDiff,reduceIte];refine b6 fun K6 hK6=>?_;refine d5 ?_;refine gS fun K hK=>?_;simp -dsimp [gr];apply hK;clear hK K;refine gS fun K hK=>?_;simp -dsimp;refine J7 (hcl) ?_;simp -dsimp;apply hK;clear hK K;refine gS fun K hK=>?_;simp -dsimp [gb,hrn,hkn];apply hK;clear hK K;refine gR fun K hK=>?_;simp -dsimp [f1,hmin];apply hK;clear hK K;simp only[zT,reduceIte,Nat.reduceEqDiff];refine hK6 _ _ ?_;refine b5 [0,1,6,7,8,12,13,16,17,18] (Or.inr (by simp)) ?_;simp only[zP,Nat.reduceEqDiff,reduceIte];refine gR fun K hK=>?_;simp -dsimp [wi];apply hK;clear hK K;simp only[zT,reduceIte,Nat.reduceEqDiff];exact⟨i+1,by omega,by omega,l9 (B9 [some 0,some 4] rfl (by simp[hmin,hrn]) (by simp[hmin,hrn,List.take_add_one,hgi,List.map_set,htr])) (by simp)⟩
  ·have hil:¬i<m.length:=by simpa using hc1
   have hin:i=n:=by omega
   have htk:List.take i (M.map a2Z)=M.map a2Z:=List.take_of_length_le (by simp;omega);have hmin:min i M.length=i:=by omega
   have hle:i≤M.length:=by omega
   have f2:D8 (k+1) 9:=j7 (by omega) (by omega);refine f8 ?_;simp only[zT,reduceIte,Nat.reduceEqDiff];refine hK4 _ _ ?_;refine b5 [0,1,6,8,12,13] (Or.inr (by simp)) ?_;simp only[zP,Nat.reduceEqDiff,reduceIte];refine gR fun K hK=>?_;simp -dsimp [hmin,hle,htk,hsl,f2];refine b8 _ (hdk) (by simp) ?_;simp -dsimp [hmin,hle,htk,hsl,f2];apply hK;clear hK K;simp only[zT,reduceIte,Nat.reduceEqDiff];refine hK3 _ _ ?_;refine b5 [0,1,6,12,13] (Or.inr (by simp)) ?_;simp only[zP,Nat.reduceEqDiff,reduceIte];refine gR fun K hK=>?_;simp -dsimp [wk];apply hK;clear hK K;simp only[zT,reduceIte,Nat.reduceEqDiff];exact⟨k+1,by omega,by omega,l9 (d8 [some 2] rfl (by simp[hsl]) (by simp[hsl,List.take_add_one,gsk])) (by simp)⟩
 ·have hkl:¬k<m.length:=by simpa using hc0
  have hkn:k=n:=by omega
  refine f8 ?_;simp only[zT,reduceIte,Nat.reduceEqDiff];refine hK1 _ _ ?_;refine b5 [0,6] (Or.inr (by simp)) ?_;simp only[zP,Nat.reduceEqDiff,reduceIte];refine gS fun K hK=>?_;simp -dsimp;refine b8 _ (hdet) (by simp) ?_;simp -dsimp;apply hK;clear hK K;have hsn:k=(a1A m b).length:=by simp[a1A];omega
  have htk:List.take k ((a1A m b).map i4)=(a1A m b).map i4:=List.take_of_length_le (by simp;omega);exact i5 ⟨[some 0],rfl,by simp,by simp[htk],by simp,by simp[y3,m6,hkn]⟩
end Go.Cur
end
section
namespace Go.Cur
open Go.AM Go.Proofs
theorem a7g (x c:Nat) (hx:x<4294967296) (hc:c≤20) (hb:x.testBit c=true):bits .andNot .i64 (x:Int) ((2^c:Nat):Int)=((x^^^2^c:Nat):Int):=by
 have h2:2^c≤2^20:=Nat.pow_le_pow_right (by omega) hc;have hlt:x^^^2^c<2^32:=Nat.xor_lt_two_pow (by omega) (by omega);show IntKind.i64.wrap ((BitVec.ofInt 64 x&&& ~~~ BitVec.ofInt 64 ((2^c:Nat):Int)).toNat:Int)=_;have h:(BitVec.ofInt 64 x&&& ~~~ BitVec.ofInt 64 ((2^c:Nat):Int)).toNat=x^^^2^c:=by
  simp only[BitVec.toNat_and,BitVec.toNat_not,BitVec.ofInt_natCast,BitVec.toNat_ofNat];rw[Nat.mod_eq_of_lt (show x<2^64 by omega),Nat.mod_eq_of_lt (show 2^c<2^64 by omega)];refine Nat.eq_of_testBit_eq fun j=>?_;rw[Nat.testBit_and,show 2^64-1-2^c=2^64-(2^c+1)by omega,Nat.testBit_two_pow_sub_succ (by omega),Nat.testBit_xor,Nat.testBit_two_pow]
  by_cases hj:c=j
  ·subst hj;simp[hb]
  ·by_cases hj64:j<64
   ·simp[hj,hj64]
   ·have:x.testBit j=false:=Nat.testBit_lt_two_pow (Nat.lt_of_lt_of_le hx (Nat.le_trans (show 4294967296≤2^32 by decide) (Nat.pow_le_pow_right (by omega) (by omega))));simp[this,hj]
 rw[h];exact f6 (by omega) (by omega)
theorem b6b {x c:Nat} (hb:x.testBit c=true):x^^^2^c<x:=by
 have e:x^^^2^c=x&&& (x^^^2^c):=by
  refine Nat.eq_of_testBit_eq fun j=>?_;rw[Nat.testBit_and,Nat.testBit_xor,Nat.testBit_two_pow]
  by_cases h:c=j
  ·subst h;simp[hb]
  ·simp[h]
 have h1:x^^^2^c≤x:=by rw[e];exact Nat.and_le_left
 have h2:x^^^2^c≠x:=fun h=>by
  have:=congrArg (fun y=>Nat.testBit y c) h;simp only[Nat.testBit_xor,Nat.testBit_two_pow,hb]at this;simp at this
 omega
def usd (n u:Nat):List Nat:=(List.range n).filter fun k=>u.testBit k
theorem Q9 (k u:Nat):usd (k+1) u=usd k u++if u.testBit k then [k]else []:=by
 unfold usd;rw[List.range_succ,List.filter_append]
 cases h:u.testBit k<;>simp[h]
theorem b9f {n u k:Nat}:k∈usd n u↔k<n∧u.testBit k=true:=by simp[usd]
theorem b2R {n u:Nat}:(usd n u).Nodup:=List.nodup_range.filter _
theorem b7e {n u:Nat}:(usd n u).length≤n:=by
 have:=List.length_filter_le (fun k=>u.testBit k) (List.range n);simpa [usd]using this
theorem b5V {k n u:Nat} (h:k≤n):(usd k u).length≤(usd n u).length:=by
 obtain⟨d,rfl⟩:∃d,n=k+d:=⟨n-k,by omega⟩;clear h
 induction d with
 |zero=>exact Nat.le_refl _
 |succ d ih=>
  rw[←Nat.add_assoc,Q9,List.length_append];omega
theorem a5P {n u k:Nat} (hk:k<n) (h:u.testBit k=true):∃v,usd n u=usd k u++k::v:=by
 have:∀d,∃v,usd (k+1+d) u=usd k u++k::v:=by
  intro d
  induction d with
  |zero=>exact⟨[],by rw[Nat.add_zero,Q9,h];simp⟩
  |succ d ih=>
   obtain⟨v,hv⟩:=ih;refine⟨v++if u.testBit (k+1+d)then [k+1+d]else [],?_⟩;rw[←Nat.add_assoc,Q9,hv,List.append_assoc]
   rfl
 have:=this (n-(k+1))
 rwa [show k+1+(n-(k+1))=n by omega]at this
theorem b6z {n u k:Nat} (hk:k<n) (h:u.testBit k=true):(usd n u)[(usd k u).length]?=some k:=by
 obtain⟨v,hv⟩:=a5P hk h;rw[hv,List.getElem?_append_right (Nat.le_refl _),Nat.sub_self];rfl
theorem a9A {n u k:Nat} (hk:k<n) (h:u.testBit k=true):usd n (u^^^2^k)=(usd n u).eraseIdx (usd k u).length:=by
 obtain⟨v,hv⟩:=a5P hk h;have hnd:=b2R (n:=n) (u:=u);have h1:usd n (u^^^2^k)=(usd n u).filter fun x=>decide (x≠k):=by
  unfold usd;rw[List.filter_filter];refine List.filter_congr fun x _=>?_;rw[Nat.testBit_xor,Nat.testBit_two_pow]
  by_cases e:x=k
  ·subst e;simp[h]
  ·have e':¬k=x:=fun h=>e h.symm;simp[e,e']
 rw[hv]at hnd;obtain⟨hu,hv',_⟩:=x5 hnd;rw[h1,hv,List.eraseIdx_append_of_length_le (Nat.le_refl _),Nat.sub_self,List.eraseIdx_cons_zero,List.filter_append,List.filter_cons,if_neg (by simp)]
 congr 1
 ·refine List.filter_eq_self.2 fun x hx=>?_;have:x≠k:=by rintro rfl;exact hu hx
  simp[this]
 ·refine List.filter_eq_self.2 fun x hx=>?_;have:x≠k:=by rintro rfl;exact hv' hx
  simp[this]
theorem b7T {n u:Nat} (hu:u<2^n) (h0:1≤u):1≤(usd n u).length:=by
 obtain⟨b,hb⟩:=Nat.exists_testBit_of_ne_zero (x:=u) (by omega);have hbn:b<n:=by
  rcases Nat.lt_or_ge b n with h|h
  ·exact h
  ·rw[Nat.testBit_lt_two_pow (Nat.lt_of_lt_of_le hu (Nat.pow_le_pow_right (by omega) h))]at hb
   cases hb
 exact List.length_pos_iff.2 (List.ne_nil_of_mem (b9f.2 ⟨hbn,hb⟩))
theorem b5u (n:Nat):usd n (2^n-1)=List.range n:=by
 unfold usd;rw[List.filter_eq_self];intro x hx;rw[List.mem_range]at hx;rw[Nat.testBit_two_pow_sub_one];simp[hx]
def dvl (a:Nat→Nat→Int) (n u:Nat):Int:=wr (minor a (List.range (usd n u).length) (usd n u))
theorem b5p (a:Nat→Nat→Int) (n:Nat):dvl a n 0=1:=by
 have:usd n 0=[]:=by unfold usd;simp
 unfold dvl;rw[this];rfl
def trm (a:Nat→Nat→Int) (n u j:Nat):Int:=sg j*(a ((usd n u).length-1) ((usd n u)[(usd n u).length-1-j]?.getD 0)*minor a (List.range ((usd n u).length-1)) ((usd n u).eraseIdx ((usd n u).length-1-j)))
theorem b9k {a:Nat→Nat→Int} {n u:Nat} (h:1≤(usd n u).length):dvl a n u=wr (ps (trm a n u) (usd n u).length):=by
 unfold dvl;have e:List.range (usd n u).length=List.range ((usd n u).length-1)++[(usd n u).length-1]:=by
  conv=>lhs;rw[show(usd n u).length=((usd n u).length-1)+1 by omega]
  rw[List.range_succ]
 rw[e,b0z (by rw[List.length_range];omega)]
 rfl
def jn (n u k:Nat):Nat:=(usd n u).length-(usd (n-k) u).length
theorem b8U {a:Nat→Nat→Int} {n u k:Nat} (hk:k<n) (hb:u.testBit (n-1-k)=true):jn n u (k+1)=jn n u k+1∧
  wr (wr (ps (trm a n u) (jn n u k))+wr (wr (sg (jn n u k)*a ((usd n u).length-1) (n-1-k))*dvl a n (u^^^2^(n-1-k))))=wr (ps (trm a n u) (jn n u (k+1))):=by
 have h1:usd (n-k) u=usd (n-1-k) u++[n-1-k]:=by
  rw[show n-k=(n-1-k)+1 by omega,Q9,hb];rfl
 have hl:(usd (n-k) u).length=(usd (n-1-k) u).length+1:=by rw[h1];simp
 have hle:(usd (n-k) u).length≤(usd n u).length:=b5V (by omega);have e1:jn n u (k+1)=jn n u k+1:=by
  unfold jn;rw[show n-(k+1)=n-1-k by omega];omega
 refine⟨e1,?_⟩;have hj:(usd n u).length-1-jn n u k=(usd (n-1-k) u).length:=by unfold jn;omega
 have ht:trm a n u (jn n u k)=sg (jn n u k)*(a ((usd n u).length-1) (n-1-k)*minor a (List.range ((usd n u).length-1)) (usd n (u^^^2^(n-1-k)))):=by
  unfold trm;rw[hj,b6z (by omega) hb,a9A (by omega) hb];rfl
 have hm:dvl a n (u^^^2^(n-1-k))=wr (minor a (List.range ((usd n u).length-1)) (usd n (u^^^2^(n-1-k)))):=by
  unfold dvl;have:(usd n (u^^^2^(n-1-k))).length=(usd n u).length-1:=by
   have h2:=(List.getElem?_eq_some_iff.1 (b6z (n:=n) (by omega) hb)).1;rw[a9A (by omega) hb,List.length_eraseIdx_of_lt h2]
  rw[this]
 rw[e1,ps,ht,hm,b1p,b2w,b2H,b0W,Int.mul_assoc]
theorem b7K {n u k:Nat} (hk:k<n) (hb:u.testBit (n-1-k)=false):jn n u (k+1)=jn n u k:=by
 have h1:usd (n-k) u=usd (n-1-k) u:=by
  rw[show n-k=(n-1-k)+1 by omega,Q9,hb];simp
 unfold jn;rw[h1,show n-(k+1)=n-1-k by omega]
theorem b2N (n u:Nat):jn n u 0=0:=by unfold jn;simp
theorem c0e (n u:Nat):jn n u n=(usd n u).length:=by unfold jn;simp[usd]
def knL (a:Nat→Nat→Int) (n set:Nat):List Int:=(List.range (2^n)).map fun u=>if u<set then dvl a n u else 0
theorem a0r (a:Nat→Nat→Int) (n set:Nat):(knL a n set).length=2^n:=by simp[knL]
theorem a2P {a:Nat→Nat→Int} {n set u:Nat} (h:u<2^n):(knL a n set)[u]?=some (if u<set then dvl a n u else 0):=by
 unfold knL;rw[List.getElem?_map,List.getElem?_range h];rfl
theorem b7P {a:Nat→Nat→Int} {n set:Nat}:(knL a n set).set set (dvl a n set)=knL a n (set+1):=by
 refine List.ext_getElem? fun i=>?_
 by_cases hi:i<2^n
 ·rw[a2P hi]
  by_cases h:set=i
  ·subst h;rw[List.getElem?_set_self (by rw[a0r];exact hi),if_pos (by omega)]
  ·rw[List.getElem?_set_ne h,a2P hi]
   by_cases h2:i<set
   ·rw[if_pos h2,if_pos (by omega)]
   ·rw[if_neg h2,if_neg (by omega)]
 ·rw[List.getElem?_eq_none (by rw[List.length_set,a0r];omega),List.getElem?_eq_none (by rw[a0r];omega)]
theorem b9b (a:Nat→Nat→Int) (n:Nat):(List.replicate (2^n) (0:Int)).set 0 1=knL a n 1:=by
 refine List.ext_getElem? fun i=>?_
 by_cases hi:i<2^n
 ·rw[a2P hi]
  by_cases h:0=i
  ·subst h;rw[List.getElem?_set_self (by simpa using hi),if_pos (by omega),b5p]
  ·rw[List.getElem?_set_ne h,List.getElem?_replicate,if_pos hi,if_neg (by omega)]
 ·rw[List.getElem?_eq_none (by simp;omega),List.getElem?_eq_none (by rw[a0r];omega)]
theorem b5R {a:Nat→Nat→Int} {n set:Nat} (h:set<2^n):(knL a n set).set set (wr (ps (trm a n set) 0))=knL a n set:=by
 refine List.ext_getElem? fun i=>?_
 by_cases h2:set=i
 ·subst h2;rw[List.getElem?_set_self (by rw[a0r];exact h),a2P h,if_neg (by omega)];rfl
 ·rw[List.getElem?_set_ne h2]
theorem b6K (m:List (List Int)) (n:Nat) (hq:Sq m n) (h1:1≤n) (hn:n≤10):d4 Try.prog 93 [mL m] (I (wr (a6X m))):=by
 have hml:=hq.len;have hb64:n≤IntKind.i64.bits:=Nat.le_trans (show n≤10 by omega) (by decide);have hpow:(1:Nat)≤2^n∧(2:Nat)^n≤2^10:=⟨Nat.one_le_two_pow,Nat.pow_le_pow_right (by omega) hn⟩;have hsh:IntKind.i64.wrap (2^n)=((2^n:Nat):Int):=by have:=b9s n (by omega);rwa [Int.toNat_natCast,Int.one_mul]at this
 have hd:wr (a6X m)=dvl (mAt m) n (2^n-1):=by unfold dvl a6X;rw[b5u,List.length_range,hml]
 rw[hd];have ff:D8 (2^n) 9:=j7 (by omega) (by omega);obtain⟨N,hN⟩:∃N,N=2^n:=⟨_,rfl⟩;have hrep:(List.replicate N [AV.v (Value.int IntKind.i64 0)]).set 0 [AV.v (Value.int IntKind.i64 1)]=(knL (mAt m) n 1).map i4:=by rw[←b9b,←hN];simp[List.map_set]
 have hN1:1≤N:=by omega
 have hN0:0<N:=hN1;have hg0:(List.replicate N [AV.v (Value.int IntKind.i64 0)])[0]?=some [AV.v (Value.int IntKind.i64 0)]:=by rw[List.getElem?_replicate,if_pos hN0]
 have hkl:=fun set=>a0r (mAt m) n set;have hkg:=fun set u (h:u<2^n)=>a2P (a:=mAt m) (n:=n) (set:=set) h;have hks:=fun set=>b7P (a:=mAt m) (n:=n) (set:=set);have hk0:=fun set (h:set<2^n)=>b5R (a:=mAt m) (n:=n) (set:=set) h;rw[←hN]at hsh hpow ff hkl hkg hk0 ⊢;generalize hKn:knL (mAt m) n=kn at hrep hkl hkg hks hk0;refine d4.of_body Try.func93 rfl (by decide) (by simp[Try.ntmps93]) ?_;simp only[Try.ntmps93,Try.results93];refine aS fun K hK=>?_;simp -dsimp;apply hK;clear hK K;refine aS fun K hK=>?_;simp -dsimp [hml];apply hK;clear hK K;refine aS fun K hK=>?_;simp -dsimp [hsh,hb64,ff,←hN];apply hK;clear hK K;refine aS fun K hK=>?_;simp -dsimp [hN0,hg0,hrep];apply hK;clear hK K;refine b9 fun K1 hK1=>?_;refine aS fun K hK=>?_;simp -dsimp;apply hK;clear hK K;refine e7 ?_;refine b7 [0,3,4,5] ?_;simp only[zP,Nat.reduceEqDiff,reduceIte];refine g7 [0,3,4] (α:=Nat) (fun k=>[(5,I k)]) (fun k=>[some (.els 1 ((kn k).map i4))]) (fun k=>1≤k∧k≤N) (fun k=>N-k) 1 ?_ ?_ ?_
 ·exact⟨Nat.le_refl _,hN1⟩
 ·exact d8 [some 0] rfl (by simp) (by simp[hrep])
 rintro k ⟨k1,k2⟩;simp only[zP,Nat.reduceEqDiff,reduceIte];refine b9 fun K2 hK2=>?_;refine aS fun K hK=>?_;simp -dsimp [hsh,hb64,←hN];apply hK;clear hK K;refine d9 rfl (fun hc0=>?_) (fun hc0=>?_)
 ·have hkN:k<N:=by simpa using hc0
  have wk:=zW k (by omega);have hu:=b7T (n:=n) (u:=k) (by omega) k1;have hk32:k<4294967296:=by omega
  refine e8 ?_;simp only[zT,reduceIte,Nat.reduceEqDiff];refine hK2 _ _ ?_;refine b7 [0,3,4,5] ?_;simp only[zP,Nat.reduceEqDiff,reduceIte];refine b9 fun K3 hK3=>?_;refine e7 ?_;refine aS fun K hK=>?_;simp -dsimp;apply hK;clear hK K;refine b9 fun K4 hK4=>?_;refine aS fun K hK=>?_;simp -dsimp;apply hK;clear hK K;refine e7 ?_;refine b7 [0,3,4,5,6,7] ?_;simp only[zP,Nat.reduceEqDiff,reduceIte];refine g7 [0,3,4,5] (α:=Nat) (fun c=>[(6,I (((usd c k).length:Int)-1)),(7,I c)]) (fun c=>[some (.els 1 ((kn k).map i4))]) (fun c=>c≤n) (fun c=>n-c) 0 ?_ ?_ ?_
  ·exact Nat.zero_le _
  ·exact d8 [some 0] rfl (by simp[usd]) (by simp)
  rintro c c1;simp only[zP,Nat.reduceEqDiff,reduceIte];refine b9 fun K5 hK5=>?_;refine aS fun K hK=>?_;simp -dsimp;apply hK;clear hK K;refine d9 rfl (fun hc1=>?_) (fun hc1=>?_)
  ·have hcn:c<n:=by simpa using hc1
   have wc:=zW c (by omega);have hbit:bits .and .i64 ((k:Int)/2^c) 1=if k.testBit c then 1 else 0:=by have:=T2 k c hk32;rwa [Int.toNat_natCast]at this
   have hc64:c≤IntKind.i64.bits:=Nat.le_trans (show c≤10 by omega) (by decide);have hul:=b7e (n:=c) (u:=k);have hus:((usd (c+1) k).length:Int)-1=(usd c k).length-1+if k.testBit c then 1 else 0:=by rw[Q9];split<;>simp<;>omega
   obtain⟨q,hqq⟩:∃q:Int,q=if k.testBit c then 1 else 0:=⟨_,rfl⟩;have hq01:q=0∨q=1:=by rw[hqq];split<;>simp
   rw[←hqq]at hbit hus;have wq:IntKind.i64.wrap (((usd c k).length:Int)-1+q)=((usd c k).length:Int)-1+q:=f6 (by omega) (by omega);refine e8 ?_;simp only[zT,reduceIte,Nat.reduceEqDiff];refine hK5 _ _ ?_;refine b7 [0,3,4,5,6,7] ?_;simp only[zP,Nat.reduceEqDiff,reduceIte];refine b9 fun K6 hK6=>?_;refine e7 ?_;refine aR fun K hK=>?_;simp -dsimp [hbit,hc64,wq];apply hK;clear hK K;simp only[zT,reduceIte,Nat.reduceEqDiff];refine hK6 _ _ ?_;refine b7 [0,3,4,5,6,7] ?_;simp only[zP,Nat.reduceEqDiff,reduceIte];refine aR fun K hK=>?_;simp -dsimp [wc];apply hK;clear hK K;simp only[zT,reduceIte,Nat.reduceEqDiff];exact⟨c+1,by omega,by omega,d8 [some 0] rfl (by simp[hus]) (by simp)⟩
  ·have hce:c=n:=by have hx:¬c<n:=(by simpa using hc1);omega
   obtain⟨r,hr⟩:∃r,(usd n k).length=r+1:=⟨(usd n k).length-1,by omega⟩;have hr1:((usd c k).length:Int)-1=(r:Int):=by rw[hce];omega
   have hrn:=b7e (n:=n) (u:=k);rw[hr1];refine j0 ?_;simp only[zT,reduceIte,Nat.reduceEqDiff];refine hK4 _ _ ?_;refine b7 [0,3,4,5,6] ?_;simp only[zP,Nat.reduceEqDiff,reduceIte];refine aS fun K hK=>?_;simp -dsimp;apply hK;clear hK K;refine aS fun K hK=>?_;simp -dsimp;apply hK;clear hK K;refine e7 ?_;refine b7 [0,3,4,5,6,8,9] ?_;simp only[zP,Nat.reduceEqDiff,reduceIte];refine g7 [0,3,4,5,6] (α:=Nat) (fun y=>[(8,I (sg (jn n k y))),(9,I ((n:Int)-1-y))]) (fun y=>[some (.els 1 (((kn k).set k (wr (ps (trm (mAt m) n k) (jn n k y)))).map i4))]) (fun y=>y≤n) (fun y=>n-y) 0 ?_ ?_ ?_
   ·exact Nat.zero_le _
   ·exact d8 [some 0] rfl (by simp[b2N,sg,f6 (n:=(n:Int)-1) (by omega) (by omega)]) (by simp[b2N,hk0 k hkN])
   rintro y y1;obtain⟨L,hL⟩:∃L,L=(kn k).set k (wr (ps (trm (mAt m) n k) (jn n k y))):=⟨_,rfl⟩;rw[←hL];simp only[zP,Nat.reduceEqDiff,reduceIte];refine b9 fun K7 hK7=>?_;refine aS fun K hK=>?_;simp -dsimp;apply hK;clear hK K;refine d9 rfl (fun hc2=>?_) (fun hc2=>?_)
   ·have hyn:y<n:=by have:=(by simpa using hc2:(0:Int)≤(n:Int)-1-y);omega
    obtain⟨d,hd⟩:∃d,d=n-1-y:=⟨_,rfl⟩;have hdi:(n:Int)-1-y=(d:Int):=by omega
    have wd:IntKind.i64.wrap ((d:Int)-1)=(n:Int)-1-((y+1:Nat):Int):=by rw[f6 (by omega) (by omega)];omega
    rw[hdi];have hbit:bits .and .i64 ((k:Int)/2^d) 1=if k.testBit d then 1 else 0:=by have:=T2 k d hk32;rwa [Int.toNat_natCast]at this
    have hd64:d≤IntKind.i64.bits:=Nat.le_trans (show d≤10 by omega) (by decide);refine e8 ?_;simp only[zT,reduceIte,Nat.reduceEqDiff];refine hK7 _ _ ?_;refine b7 [0,3,4,5,6,8,9] ?_;simp only[zP,Nat.reduceEqDiff,reduceIte];refine b9 fun K8 hK8=>?_;refine e7 ?_;refine aS fun K hK=>?_;simp -dsimp [hbit,hd64];apply hK;clear hK K;refine d9 rfl (fun hc3=>?_) (fun hc3=>?_)
    ·have hbt:k.testBit d=true:=by
      cases h:k.testBit d with
      |true=>rfl
      |false=>rw[h]at hc3;simp at hc3
     obtain⟨s1,s2⟩:=b8U (a:=mAt m) (n:=n) (u:=k) (k:=y) hyn (by rw[←hd];exact hbt);rw[hr,Nat.add_sub_cancel,←hd]at s2;have hul:=b6b hbt;have hand:bits .andNot .i64 (k:Int) (2^d)=((k^^^2^d:Nat):Int):=by have:=a7g k d hk32 (by omega) hbt;rwa [Int.natCast_pow]at this
     have hsd:IntKind.i64.wrap (2^d)=2^d:=by have:=b9s d (by omega);rw[Int.toNat_natCast,Int.one_mul,Int.natCast_pow]at this;exact this
     obtain⟨u,hu'⟩:∃u,u=k^^^2^d:=⟨_,rfl⟩;rw[←hu']at s2 hul hand;have hLl:L.length=N:=by rw[hL,List.length_set];exact hkl k
     have gk:L[k]?=some (wr (ps (trm (mAt m) n k) (jn n k y))):=by rw[hL,List.getElem?_set_self (by rw[hkl];exact hkN)]
     have gu:L[u]?=some (dvl (mAt m) n u):=by rw[hL,List.getElem?_set_ne (by omega),hkg k u (by omega),if_pos hul]
     have hLs:∀v,L.set k v=(kn k).set k v:=fun v=>by rw[hL,List.set_set]
     have gr:=(hq.row (i:=r) (by omega)).1;have ga:=hq.get (i:=r) (k:=d) (by omega) (by omega);have hrm:r<m.length:=by omega
     have huN:u<N:=by omega
     have sgn:=b8v (jn n k y);refine v6 k7 rfl fun K hK=>?_;simp -dsimp [gr,ga,gk,gu,hand,hsd,hd64,hkN,huN];refine hK _ _ _ (by decide+kernel) ?_;clear hK K;refine aR fun K hK=>?_;simp -dsimp [sgn];apply hK;clear hK K;simp only[zT,reduceIte,Nat.reduceEqDiff];refine hK8 _ _ ?_;refine b7 [0,3,4,5,6,8,9] ?_;simp only[zP,Nat.reduceEqDiff,reduceIte];refine aR fun K hK=>?_;simp -dsimp [wd];apply hK;clear hK K;simp only[zT,reduceIte,Nat.reduceEqDiff];rw[s1]at s2;exact⟨y+1,by omega,by omega,d8 [some 0] rfl (by simp[s1]) (by simp[←hLs,s1,s2,List.map_set])⟩
    ·refine e8 ?_;simp only[zT,reduceIte,Nat.reduceEqDiff];refine hK8 _ _ ?_;refine b7 [0,3,4,5,6,8,9] ?_;simp only[zP,Nat.reduceEqDiff,reduceIte];refine aR fun K hK=>?_;simp -dsimp [wd];apply hK;clear hK K;simp only[zT,reduceIte,Nat.reduceEqDiff];have hbf:k.testBit d=false:=by
      cases h:k.testBit d with
      |false=>rfl
      |true=>rw[h]at hc3;simp at hc3
     have s1:=b7K (n:=n) (u:=k) (k:=y) hyn (by rw[←hd];exact hbf);exact⟨y+1,by omega,by omega,d8 [some 0] rfl (by simp[s1]) (by simp[s1,hL])⟩
   ·have hye:y=n:=by have:=(by simpa using hc2:¬(0:Int)≤(n:Int)-1-y);omega
    have hkk:(kn k).set k (wr (ps (trm (mAt m) n k) (jn n k y)))=kn (k+1):=by rw[hye,c0e,←b9k hu];exact hks k
    rw[hL,hkk];refine j0 ?_;simp only[zT,reduceIte,Nat.reduceEqDiff];refine hK3 _ _ ?_;refine b7 [0,3,4,5] ?_;simp only[zP,Nat.reduceEqDiff,reduceIte];refine aR fun K hK=>?_;simp -dsimp [wk];apply hK;clear hK K;simp only[zT,reduceIte,Nat.reduceEqDiff];exact⟨k+1,by omega,by omega,d8 [some 0] rfl (by simp) (by simp)⟩
 ·have hke:k=N:=by have hx:¬k<N:=(by simpa using hc0);omega
  have hlast:(kn k)[N-1]?=some (dvl (mAt m) n (N-1)):=by rw[hkg k (N-1) (by omega),if_pos (by omega)]
  have wN:IntKind.i64.wrap ((N:Int)-1)=((N-1:Nat):Int):=by rw[f6 (by omega) (by omega)];omega
  have hNN:N-1<N:=by omega
  refine j0 ?_;simp only[zT,reduceIte,Nat.reduceEqDiff];refine hK1 _ _ ?_;refine b7 [3,4] ?_;simp only[zP,Nat.reduceEqDiff,reduceIte];refine aS fun K hK=>?_;simp -dsimp [hsh,hb64,wN,hlast,hNN];apply hK;clear hK K;exact f7 (by simp)
end Go.Cur
end
section
namespace Go.AM
def b6Y (l:List Oper):List (Nat×Nat):=(List.range l.length).flatMap fun k=>((List.range k).filter fun j=> !((b0o l []).getD k 0).testBit j).map fun j=>(j,k)
theorem p9 {l:List Oper} {tr:List Tr} (ps:List (Nat×Nat)) (hb:b3k l 0=true) (hu:b6Y l=ps) (hp:∀p∈ps,I7 (tr.getD p.1 ([],[])) (tr.getD p.2 ([],[]))=false):a3b l tr=true:=by
 subst hu;unfold a3b;rw[hb,Bool.true_and,List.all_eq_true];intro k hk;rw[List.all_eq_true];intro j hj
 cases hq:((b0o l []).getD k 0).testBit j with
 |true=>simp
 | false=>
  have:=hp (j,k) (by
   unfold b6Y;rw[List.mem_flatMap];exact⟨k,hk,List.mem_map.2 ⟨j,List.mem_filter.2 ⟨hj,by rw[hq];rfl⟩,rfl⟩⟩)
  simp only at this;rw[this];rfl
def Y2 (f:Nat→Nat→Int) (n i:Nat):Option k8:=some (.els 1 ((List.range n).map fun j=>[I (f i j)]))
def m7 (f:Nat→Nat→Int) (m n:Nat):Hp:=(List.range m).map (Y2 f n)
def B7 (c m n:Nat):List (List AV):=(List.range m).map fun i=>[.row (i+c) 0 n]
def J9 (f:Nat→Nat→Int) (i j:Nat) (v:Int):Nat→Nat→Int:=fun i' j'=>if i'=i∧j'=j then v else f i' j'
@[simp] theorem a0N (f:Nat→Nat→Int) (m n:Nat):(m7 f m n).length=m:=by simp[m7]
@[simp] theorem b9m (c m n:Nat):(B7 c m n).length=m:=by simp[B7]
@[simp] theorem b9C (c m n:Nat):List.take m (B7 c m n)=B7 c m n:=List.take_of_length_le (by simp)
theorem a2K (c m n:Nat):B7 c (m+1) n=B7 c m n++[[.row (m+c) 0 n]]:=by simp[B7,List.range_succ]
theorem u6 {c m n i:Nat} (h:i<m):(B7 c m n)[i]?=some [.row (i+c) 0 n]:=by
 unfold B7;rw[List.getElem?_map,List.getElem?_range h];rfl
@[simp] theorem b9D {c m n i:Nat} (h:i<(B7 c m n).length):(B7 c m n)[i]=[.row (i+c) 0 n]:=by simp[B7]
theorem A7 {f:Nat→Nat→Int} {n i j:Nat} (h:j<n):((List.range n).map fun j=>[I (f i j)])[j]?=some [I (f i j)]:=by
 rw[List.getElem?_map,List.getElem?_range h];rfl
theorem y6 {f g:Nat→Nat→Int} {m n:Nat} (h:∀i,i<m→∀j,j<n→f i j=g i j):m7 f m n=m7 g m n:=by
 unfold m7 Y2;refine List.map_congr_left fun i hi=>?_;rw[List.mem_range]at hi
 congr 2
 refine List.map_congr_left fun j hj=>?_;rw[List.mem_range]at hj;rw[h i hi j hj]
theorem a3s:∀{M X:Hp} {i:Nat},i<M.length→l7 (M++X) i=l7 M i
 |[],X,i,h=>by simp at h
 |x::M,X,0,h=>rfl
 |x::M,X,i+1,h=>a3s (M:=M) (by simpa using h)
theorem a3h:∀{M X:Hp} {q:Nat},l7 (M++X) (M.length+q)=l7 X q
 |[],X,q=>by simp
 |x::M,X,q=>by
  rw[List.cons_append,List.length_cons,show M.length+1+q=(M.length+q)+1 by omega];exact a3h (M:=M)
theorem a3i:∀{M X:Hp} {i:Nat} {o:Option k8},i<M.length→C2 (M++X) i o=C2 M i o++X
 |[],X,i,o,h=>by simp at h
 |x::M,X,0,o,h=>rfl
 |x::M,X,i+1,o,h=>by
  show x::C2 (M++X) i o=x::(C2 M i o++X);rw[a3i (M:=M) (by simpa using h)]
theorem a3Q:∀{M X:Hp} {q:Nat} {o:Option k8},C2 (M++X) (M.length+q) o=M++C2 X q o
 |[],X,q,o=>by simp
 |x::M,X,q,o=>by
  rw[List.cons_append,List.length_cons,show M.length+1+q=(M.length+q)+1 by omega];show x::C2 (M++X) (M.length+q) o=_;rw[a3Q (M:=M)];rfl
theorem a8Z:∀{M:Hp} {i:Nat} {o:Option k8},i<M.length→C2 M i o=M.set i o
 |[],i,o,h=>by simp at h
 |x::M,0,o,h=>rfl
 |x::M,i+1,o,h=>by
  show x::C2 M i o=x::M.set i o;rw[a8Z (M:=M) (by simpa using h)]
theorem n7 {f:Nat→Nat→Int} {m n i:Nat} (h:i<m):l7 (m7 f m n) i=Y2 f n i:=by
 unfold m7;rw[y4,List.getElem?_range h]
theorem k9 {f:Nat→Nat→Int} {m n i:Nat} {X:Hp} (h:i<m):l7 (m7 f m n++X) i=Y2 f n i:=by
 rw[a3s (by simpa using h),n7 h]
@[simp] theorem b0n {f:Nat→Nat→Int} {m n q:Nat} {X:Hp}:l7 (m7 f m n++X) (m+q)=l7 X q:=by
 have:=a3h (M:=m7 f m n) (X:=X) (q:=q)
 rwa [a0N]at this
@[simp] theorem U9 {f:Nat→Nat→Int} {m n:Nat} {X:Hp}:l7 (m7 f m n++X) m=l7 X 0:=b0n (q:=0)
@[simp] theorem b0j {f:Nat→Nat→Int} {m n q:Nat} {X:Hp} {o:Option k8}:C2 (m7 f m n++X) (m+q) o=m7 f m n++C2 X q o:=by
 have:=a3Q (M:=m7 f m n) (X:=X) (q:=q) (o:=o)
 rwa [a0N]at this
@[simp] theorem a7Y {f:Nat→Nat→Int} {m n:Nat} {X:Hp} {o:Option k8}:C2 (m7 f m n++X) m o=m7 f m n++C2 X 0 o:=b0j (q:=0)
@[simp] theorem b9Z {f:Nat→Nat→Int} {m n:Nat} {o:Option k8}:C2 (m7 f m n) m o=m7 f m n++[o]:=by
 have:=a7Y (f:=f) (m:=m) (n:=n) (X:=[]) (o:=o);rw[List.append_nil]at this;exact this
theorem b8i {f:Nat→Int} {n j:Nat} {v:Int}:((List.range n).map fun j=>[I (f j)]).set j [I v]=(List.range n).map fun j'=>[I (if j'=j then v else f j')]:=by
 refine List.ext_getElem? fun j'=>?_
 by_cases hn:j'<n
 ·rw[List.getElem?_map,List.getElem?_range hn]
  by_cases hj:j'=j
  ·subst hj;rw[List.getElem?_set_self (by simpa using hn)];simp
  ·rw[List.getElem?_set_ne (fun e=>hj e.symm),List.getElem?_map,List.getElem?_range hn];simp[hj]
 ·rw[List.getElem?_eq_none (by simp;omega),List.getElem?_eq_none (by simp;omega)]
theorem b2O {f:Nat→Nat→Int} {m n i j:Nat} {v:Int} (hi:i<m):(m7 f m n).set i (some (.els 1 (((List.range n).map fun j=>[I (f i j)]).set j [I v])))=m7 (J9 f i j v) m n:=by
 rw[b8i (f:=f i)];refine List.ext_getElem? fun i'=>?_
 by_cases hm:i'<m
 ·unfold m7;rw[List.getElem?_map,List.getElem?_range hm]
  by_cases h:i'=i
  ·subst h;rw[List.getElem?_set_self (by simpa using hm)];simp[Y2,J9]
  ·rw[List.getElem?_set_ne (fun e=>h e.symm),List.getElem?_map,List.getElem?_range hm];simp[Y2,J9,h]
 ·rw[List.getElem?_eq_none (by simp;omega),List.getElem?_eq_none (by simp;omega)]
theorem a2d {f:Nat→Nat→Int} {m n i j:Nat} {v:Int} (hi:i<m):C2 (m7 f m n) i (some (.els 1 (((List.range n).map fun j=>[I (f i j)]).set j [I v])))=m7 (J9 f i j v) m n:=by
 rw[a8Z (by simpa using hi),b2O hi]
theorem v5 {f:Nat→Nat→Int} {m n i j:Nat} {v:Int} {X:Hp} (hi:i<m):C2 (m7 f m n++X) i (some (.els 1 (((List.range n).map fun j=>[I (f i j)]).set j [I v])))=m7 (J9 f i j v) m n++X:=by
 rw[a3i (by simpa using hi),a2d hi]
theorem o7 {gf:List (Option Nat)} {m c i:Nat} (hi:i<m) (hout:some (i+c)∉gf):j6 (gf++(List.range m).map fun i=>some (i+c)) (i+c)=some (i+gf.length):=by
 unfold j6;rw[List.findIdx?_append];have h1:gf.findIdx? (fun x=>x==some (i+c))=none:=by
  rw[List.findIdx?_eq_none_iff];intro x hx;simp only[beq_eq_false_iff_ne,ne_eq];rintro rfl;exact hout hx
 have h2:((List.range m).map fun i=>some (i+c)).findIdx? (fun x=>x==some (i+c))=some i:=by
  rw[List.findIdx?_eq_some_iff_getElem];refine⟨by simpa using hi,by simp,fun j hj=>?_⟩;simp;omega
 rw[h1,h2];rfl
theorem w9 {g:List (Option Nat)} {c c' m n:Nat} (hg:∀i,i<m→j6 g (i+c)=some (i+c')):((B7 c m n).map fun e=>e.map (m5 g 3))=B7 c' m n:=by
 unfold B7;rw[List.map_map];refine List.map_congr_left fun i hi=>?_;rw[List.mem_range]at hi;show [m5 g 3 (.row (i+c) 0 n)]=_;have e:m5 g 3 (.row (i+c) 0 n)=match j6 g (i+c)with|some q=> .row q 0 n|none=> .any:=rfl
 rw[e,hg i hi]
theorem a5r {g:List (Option Nat)} {f:Nat→Nat→Int} {n i:Nat}:(Y2 f n i).map (t7 g)=Y2 f n i:=by
 unfold Y2;simp only[Option.map_some,t7,List.map_map]
 congr 2
theorem a3w {gf:List (Option Nat)} {m c:Nat} (h:s9 gf=true) (hout:∀i,i<m→some (i+c)∉gf):∀(i j q:Nat),(gf++(List.range m).map fun i=>some (i+c))[i]?=some (some q)→(gf++(List.range m).map fun i=>some (i+c))[j]?=some (some q)→i=j:=by
 intro i j q h1 h2;have hr:∀k,gf.length≤k→(gf++(List.range m).map fun i=>some (i+c))[k]?=some (some q)→k-gf.length<m∧q=k-gf.length+c:=by
  intro k hk hq;rw[List.getElem?_append_right hk,List.getElem?_map]at hq
  by_cases hkm:k-gf.length<m
  ·rw[List.getElem?_range hkm]at hq;simp only[Option.map_some,Option.some.injEq]at hq;exact⟨hkm,hq.symm⟩
  ·rw[List.getElem?_eq_none (by simp;omega)]at hq;cases hq
 by_cases hi:i<gf.length
 ·rw[List.getElem?_append_left hi]at h1
  by_cases hj:j<gf.length
  ·rw[List.getElem?_append_left hj]at h2;exact N1 gf h i j q h1 h2
  ·obtain⟨a,b⟩:=hr j (by omega) h2;subst b;exact absurd (List.mem_of_getElem? h1) (hout _ a)
 ·obtain⟨a,b⟩:=hr i (by omega) h1
  by_cases hj:j<gf.length
  ·rw[List.getElem?_append_left hj]at h2;subst b;exact absurd (List.mem_of_getElem? h2) (hout _ a)
  ·obtain⟨a',b'⟩:=hr j (by omega) h2;omega
def c1o (H:Hp) (g:List (Option Nat)):Option Nat→Option k8
 |some r=>(l7 H r).map (t7 g)
 |none=>none
theorem b5Q (H:Hp) (g:List (Option Nat)):b4j H g=g.map (c1o H g):=rfl
attribute [simp] c1o
theorem a2c:∀(g:List (Option Nat)),(∀(i j q:Nat),g[i]?=some (some q)→g[j]?=some (some q)→i=j)→s9 g=true
 |[],_=>rfl
 | x::g,h=>by
  have hg:=a2c g fun i j q h1 h2=>by
   have:=h (i+1) (j+1) q (by simpa using h1) (by simpa using h2);omega
  cases x with
  |none=>exact hg
  |some q=>
   simp only[s9,Bool.and_eq_true,Bool.not_eq_true',List.contains_eq_mem,decide_eq_false_iff_not];refine⟨fun hm=>?_,hg⟩;obtain⟨j,hj⟩:=List.getElem?_of_mem hm;have:=h 0 (j+1) q (by simp) (by simpa using hj);omega
theorem a2H {gf:List (Option Nat)} {m c:Nat} (h:s9 gf=true) (hout:∀i,i<m→some (i+c)∉gf):s9 (gf++(List.range m).map fun i=>some (i+c))=true:=a2c _ (a3w h hout)
theorem a4e {H F':Hp} (gf:List (Option Nat)) (f:Nat→Nat→Int) (m n c:Nat) (hM:∀i,i<m→l7 H (i+c)=Y2 f n i) (hF:gf.map (c1o H (gf++(List.range m).map fun i=>some (i+c)))=F'):
  b4j H (gf++(List.range m).map fun i=>some (i+c))=F'++m7 f m n:=by
 rw[b5Q,List.map_append,hF]
 congr 1
 unfold m7;rw[List.map_map];refine List.map_congr_left fun i hi=>?_;rw[List.mem_range]at hi;show(l7 H (i+c)).map (t7 _)=_;rw[hM i hi,a5r]
theorem D5 {nt:Nat} {T T':Tm} {H F':Hp} (gf:List (Option Nat)) (f:Nat→Nat→Int) (m n c:Nat) (hn:s9 gf=true) (hout:∀i,i<m→some (i+c)∉gf) (hM:∀i,i<m→l7 H (i+c)=Y2 f n i)
  (hT:b8o (gf++(List.range m).map fun i=>some (i+c)) T T') (hF:gf.map (c1o H (gf++(List.range m).map fun i=>some (i+c)))=F'):Sub nt T H T' (F'++m7 f m n):=
 b2h _ (a3w hn hout) hT (a4e gf f m n c hM hF)
def r8:Nat→Hp→List (Nat×Option k8)
 |_,[]=>[]
 |N,x::L=>(N,x)::r8 (N+1) L
theorem T4 (bg:List (Option Nat)):∀(N:Nat) (L:Hp),x7 bg N L=r8 N (L.map (Option.map (t7 bg)))
 |N,[]=>rfl
 |N,x::L=>by simp only[x7,r8,List.map_cons,T4 bg (N+1) L]
theorem a9j:∀(H:Hp) (x:Option k8),C2 H H.length x=H++[x]
 |[],x=>rfl
 |y::H,x=>by show y::C2 H H.length x=_;rw[a9j H x];rfl
theorem a5j:∀(L H:Hp),T7 H (r8 H.length L)∧a2S H (r8 H.length L)=H++L
 |[],H=>⟨trivial,by simp[r8,a2S]⟩
 |x::L,H=>by
  have ih:=a5j L (H++[x]);simp only[List.length_append,List.length_cons,List.length_nil,Nat.zero_add]at ih;simp only[r8,T7,a2S];rw[a9j];exact⟨⟨Nat.le_refl _,ih.1⟩,by rw[ih.2];simp⟩
theorem a6r:∀(L:Hp) (N:Nat),C0 (r8 N L)=true∧∀q∈r8 N L,N≤q.1
 |[],N=>⟨rfl,by simp[r8]⟩
 | x::L,N=>by
  obtain⟨h1,h2⟩:=a6r L (N+1);refine⟨?_,fun q hq=>?_⟩
  ·simp only[r8,C0,Bool.and_eq_true,List.all_eq_true,bne_iff_ne,ne_eq];exact⟨fun q hq e=>by have:=h2 q hq;omega,h1⟩
  ·simp only[r8,List.mem_cons]at hq
   rcases hq with rfl|hq
   ·exact Nat.le_refl _
   ·have:=h2 q hq;omega
@[simp] theorem b9q {H L:Hp} {N:Nat} (h:H.length=N):T7 H (r8 N L):=h▸(a5j L H).1
@[simp] theorem b9K {H L:Hp} {N:Nat} (h:H.length=N):a2S H (r8 N L)=H++L:=h▸(a5j L H).2
@[simp] theorem b7c {L:Hp} {N:Nat}:C0 (r8 N L)=true:=(a6r L N).1
theorem E2 {N n q:Nat} (hq:q<n):j6 (s5 [] N n) q=some (N+q):=by
 unfold j6 s5;rw[List.findIdx?_append];have h1:((List.range N).map fun r=>List.findIdx? (fun x=>x==r) ([]:List Nat)).findIdx? (fun x=>x==some q)=none:=by
  rw[List.findIdx?_eq_none_iff];intro x hx;obtain⟨r,_,rfl⟩:=List.mem_map.1 hx
  rfl
 have h2:((List.range n).map fun j=>some (([]:List Nat).length+j)).findIdx? (fun x=>x==some q)=some q:=by
  rw[List.findIdx?_eq_some_iff_getElem];refine⟨by simpa using hq,by simp,fun j hj=>?_⟩;simp;omega
 rw[h1,h2];simp[Nat.add_comm]
theorem a5Q {P:Program} {m:List Bool} {f:FuncId} {args:List AV} {fl:Bool} {rd rd0:List Nat} {raw:List AV} {H:Nat→Option k8} {N:Nat} {K:Eff→Prop} {args':List AV} {n:Nat} {R:List (List AV)} {F:Nat→Nat→Int}
  (h:e9 P f args' [] [] (.tup [.row 0 0 n, .row 1 0 n]) [] ([some (.els 1 (B7 2 n n)),some (.els 1 R)]++m7 F n n)) (ha:raw.map (m5 [] 40)=args') (hR:∀g,R.map (fun e=>e.map (m5 g 3))=R)
  (hk:K ⟨.tup [.row N 0 n, .row (N+1) 0 n],r8 N ([some (.els 1 (B7 (N+2) n n)),some (.els 1 R)]++m7 F n n),rd0⟩):a0z P m f args fl rd rd0 raw H N K:=by
 refine i8 [] [] (s5 [] N (n+2)) h (by simp[b6L]) (congrArg (s5 [] N) (by simp<;>omega)) ha rfl rfl rfl ?_;have hM:(m7 F n n).map (Option.map (t7 (s5 [] N (n+2))))=m7 F n n:=by
  unfold m7;rw[List.map_map];exact List.map_congr_left fun i _=>a5r
 have ho:((B7 2 n n).map fun e=>e.map (m5 (s5 [] N (n+2)) 3))=B7 (N+2) n n:=by
  unfold B7;rw[List.map_map];refine List.map_congr_left fun i hi=>?_;rw[List.mem_range]at hi;show [m5 (s5 [] N (n+2)) 3 (.row (i+2) 0 n)]=_;have e:m5 (s5 [] N (n+2)) 3 (.row (i+2) 0 n)=match j6 (s5 [] N (n+2)) (i+2)with|some q=> .row q 0 n|none=> .any:=rfl
  rw[e,E2 (by omega),show N+(i+2)=i+(N+2)by omega]
 have hr:m5 (s5 [] N (n+2)) 3 (.tup [.row 0 0 n, .row 1 0 n])= .tup [.row N 0 n, .row (N+1) 0 n]:=by
  have e0:m5 (s5 [] N (n+2)) 2 (.row 0 0 n)=match j6 (s5 [] N (n+2)) 0 with|some q=> .row q 0 n|none=> .any:=rfl
  have e1:m5 (s5 [] N (n+2)) 2 (.row 1 0 n)=match j6 (s5 [] N (n+2)) 1 with|some q=> .row q 0 n|none=> .any:=rfl
  show AV.tup [m5 (s5 [] N (n+2)) 2 (.row 0 0 n),m5 (s5 [] N (n+2)) 2 (.row 1 0 n)]=_;rw[e0,e1,E2 (by omega),E2 (by omega)];rfl
 have hu:x7 (s5 [] N (n+2)) N ([some (.els 1 (B7 2 n n)),some (.els 1 R)]++m7 F n n)=r8 N ([some (.els 1 (B7 (N+2) n n)),some (.els 1 R)]++m7 F n n):=by
  rw[T4,List.map_append,hM];simp only[List.map_cons,List.map_nil,Option.map_some,t7,ho,hR]
 rw[hr,hu];simpa [r7,u7]using hk
def b4r (f:Nat→Nat→Int) (m n:Nat):List (List Int):=(List.range m).map fun i=>(List.range n).map fun j=>f i j
theorem a1u {f:Nat→Nat→Int} {m n i:Nat} (h:i<m):(b4r f m n)[i]?=some ((List.range n).map fun j=>f i j):=by
 unfold b4r;rw[List.getElem?_map,List.getElem?_range h];rfl
theorem a8O {H:Nat→Option k8} {r n:Nat} {es:List (List AV)} {M:List (List Int)} (h1:1≤n) (hr:H r=some (.els 1 es)) (he:es.length=n) (hm:M.length=n)
  (hM:∀i,i<n→∃nm l,es[i]?=some [.row nm 0 n]∧M[i]?=some l∧H nm=some (.els 1 (l.map fun x=>[I x]))∧l.length=n):frz H 3 (.row r 0 n)= .lst 1 (M.map fun l=>[.lst 1 (l.map fun x=>[I x])]):=by
 have hp:x4 es=false:=by
  obtain⟨nm,l,g1,_⟩:=hM 0 (by omega);unfold x4;rw[List.all_eq_false];exact⟨_,List.mem_of_getElem? g1,by simp[AV.noRef]⟩
 have hf:(es.map fun e=>e.map (frz H 2))=M.map fun l=>[.lst 1 (l.map fun x=>[I x])]:=by
  refine List.ext_getElem? fun i=>?_
  by_cases hi:i<n
  ·obtain⟨nm,l,g1,g2,g3,g4⟩:=hM i hi;rw[List.getElem?_map,List.getElem?_map,g1,g2];simp only[Option.map_some,List.map_cons,List.map_nil,Option.some.injEq,List.cons.injEq,and_true];have hpl:x4 (l.map fun x=>[I x])=true:=by simp[x4,AV.noRef]
   have ht:List.take n (l.map fun x=>[I x])=l.map fun x=>[I x]:=List.take_of_length_le (by simp;omega);simp only[frz,g3];rw[if_pos (by simp;omega),if_pos hpl,List.drop_zero,ht]
  ·rw[List.getElem?_eq_none (by simp;omega),List.getElem?_eq_none (by simp;omega)]
 have ht:List.take n (es.map fun e=>e.map (frz H 2))=es.map fun e=>e.map (frz H 2):=List.take_of_length_le (by simp;omega);simp only[frz,hr];rw[if_pos (by simp;omega),hp];simp only[Bool.false_eq_true,if_false,List.drop_zero];rw[List.take_of_length_le (by omega),hf]
end Go.AM
end
section
namespace Go.Cur
open Go.AM Go.Proofs
def upN (p:List Nat):List Int:=p.map fun(k:Nat)=>(k:Int)
theorem o9 (p:List Nat):(upN p).length=p.length:=by simp[upN]
theorem B8 {p:List Nat} {k x:Nat} (h:p[k]?=some x):(upN p)[k]?=some (x:Int):=by simp[upN,h]
theorem a2i {p:List Nat} {x:Int}:x∈upN p↔0≤x∧x.toNat∈p:=by
 simp only[upN,List.mem_map];constructor
 ·rintro⟨k,hk,rfl⟩;exact⟨by omega,by simpa using hk⟩
 ·rintro⟨h0,h1⟩;exact⟨x.toNat,h1,by omega⟩
def a5A:List Nat→Nat→Kvs
 |[],_=>[]
 |x::p,n=>(ik x, .int .i64 n)::a5A p (n+1)
theorem a1E {x:Nat}:∀{p:List Nat} {n:Nat},x∉p→r9 (a5A p n) (ik x)=none
 |[],_,_=>rfl
 |y::p,n,h=>by
  simp only[List.mem_cons,not_or]at h;simp only[a5A,r9];rw[if_neg (fun e=>h.1 (by have:=O3.1 e;omega)),a1E h.2]
theorem V5 {x:Nat}:∀{p:List Nat} {n:Nat},x∈p→r9 (a5A p n) (ik x)=some (.int .i64 ((p.idxOf x+n:Nat):Int))
 |[],_,h=>by simp at h
 | y::p,n,h=>by
  simp only[a5A,r9]
  by_cases e:x=y
  ·subst e;rw[if_pos rfl];simp
  ·rw[if_neg (fun h=>e (by have:=O3.1 h;omega)),V5 ((List.mem_cons.1 h).resolve_left e)];rw[List.idxOf_cons];have:(y==x)=false:=by simp;exact fun h=>e h.symm
   rw[this];simp only[cond_false]
   congr 3;omega
theorem a5D {x:Nat}:∀{p:List Nat} {n:Nat},x∉p→x9 (a5A p n) (ik x) (.int .i64 ((n+p.length:Nat):Int))=a5A (p++[x]) n
 |[],n,_=>by simp[a5A,x9]
 |y::p,n,h=>by
  simp only[List.mem_cons,not_or]at h;have ih:=a5D (n:=n+1) h.2;simp only[List.cons_append,a5A,x9,List.length_cons];rw[if_neg (fun e=>h.1 (by have:=O3.1 e;omega)),show n+(p.length+1)=n+1+p.length by omega,ih]
theorem s6 {x:Nat}:∀{p:List Nat},x∈p→p[p.idxOf x]?=some x
 |[],h=>by simp at h
 | y::p,h=>by
  rw[List.idxOf_cons]
  by_cases e:y=x
  ·subst e;simp
  ·have:(y==x)=false:=by simpa using e
   rw[this];simp only[cond_false,List.getElem?_cons_succ];exact s6 ((List.mem_cons.1 h).resolve_left (fun h=>e h.symm))
def onW (l:List Wr) (b:List Bool):List Wn:=(l.zip b).filterMap fun q=>if q.2 then some ⟨q.1.A.toNat,q.1.B.toNat,q.1.Siem⟩else none
theorem a4V {l:List Wr} {b:List Bool} {k:Nat} {w:Wr} {x:Bool} (hl:l[k]?=some w) (hb:b[k]?=some x):onW (l.take (k+1)) (b.take (k+1))=onW (l.take k) (b.take k)++if x then [⟨w.A.toNat,w.B.toNat,w.Siem⟩]else []:=by
 have hk:=(List.getElem?_eq_some_iff.1 hl).1;have hk2:=(List.getElem?_eq_some_iff.1 hb).1;unfold onW;rw[List.take_add_one,List.take_add_one,hl,hb,List.zip_append (by simp;omega),List.filterMap_append]
 cases x<;>simp
def rgt (us:Kvs) (p:List Nat):List Int:=p.map fun(k:Nat)=>-igt us k
def Lf (W:List Wn) (p:List Nat):Nat→Nat→Int:=fun i j=>lw W (p.getD i 0) (p.getD j 0)
theorem c1a (n i:Nat):some (k8.els 1 (List.replicate n [I 0]))=Y2 (fun _ _=>0) n i:=by
 unfold Y2;rw[List.map_const'];simp
theorem b6P (w:Wn) (i:Nat):(ew w i).natAbs≤1:=by
 unfold ew
 split<;>split<;>omega
theorem a6k {i k:Nat}:∀{W:List Wn},(∀w∈W,w.s.natAbs≤4)→(lw W i k).natAbs≤4*W.length
 |[],_=>by simp[lw]
 | w::W,h=>by
  have ih:=a6k (i:=i) (k:=k) (W:=W) fun w hw=>h w (by simp[hw]);have h1:(w.s*(ew w i*ew w k)).natAbs≤4*(1*1):=by
   rw[Int.natAbs_mul,Int.natAbs_mul];exact Nat.mul_le_mul (h w (by simp)) (Nat.mul_le_mul (b6P w i) (b6P w k))
  rw[lw,List.length_cons];omega
theorem a4f (l:List Wr) (b:List Bool):(onW l b).length≤l.length:=by
 refine Nat.le_trans (List.length_filterMap_le _ _) ?_;rw[List.length_zip];exact Nat.min_le_left _ _
theorem Y9 {l:List Wr} {b:List Bool} {x:Wn} (h:x∈onW l b):∃w∈l,x=⟨w.A.toNat,w.B.toNat,w.Siem⟩:=by
 unfold onW at h;rw[List.mem_filterMap]at h;obtain⟨q,hq,h⟩:=h
 split at h
 ·simp only[Option.some.injEq]at h;exact⟨q.1,(List.of_mem_zip hq).1,h.symm⟩
 ·cases h
theorem M1 {l:List Wr} {b:List Bool} {x:Wn} {k:Nat} (h:x∈onW (l.take k) (b.take k)):x∈onW l b:=by
 unfold onW at h ⊢;rw[List.mem_filterMap]at h ⊢;obtain⟨q,hq,h⟩:=h;refine⟨q,?_,h⟩;rw[List.zip_eq_zipWith,←List.take_zipWith]at hq;exact List.mem_of_mem_take hq
theorem a8l (g:Gr) (s:Sta) (p:List Nat) (us:Kvs) (n:Nat) (hpn:p.length=n) (h1:1≤n) (h10:n≤10) (hnd:p.Nodup) (hI:a0R us) (hus:∀x,-40≤igt us x∧igt us x≤40)
  (hsw:s.Wires.length=g.Wires.length) (hwl:g.Wires.length≤80) (hw:∀w∈g.Wires,wrB g w=true) (hcl:∀w∈onW g.Wires s.Wires,w.a∈p↔w.b∈p):
  e9 Try.prog 87 [net g s,iL (upN p), .mpc false [.i .i64] us] [] [] (.tup [.row 0 0 n, .row 1 0 n]) [] ([some (.els 1 (B7 2 n n)),some (.els 1 ((rgt us p).map i4))]++m7 (Lf (onW g.Wires s.Wires) p) n n):=by
 have hpl:=o9 p;have wneg:∀x,IntKind.i64.wrap (-igt us x)=-igt us x:=fun x=>f6 (by have:=hus x;omega) (by have:=hus x;omega);refine e9.of_bodyG [] Try.func87 rfl (by decide) (by simp[Try.ntmps87]) rfl rfl ?_;intro J hJ;simp only[Try.ntmps87,Try.results87];refine gS fun K hK=>?_;simp -dsimp;apply hK;clear hK K;refine gS fun K hK=>?_;simp -dsimp;apply hK;clear hK K;refine b6 fun K1 hK1=>?_;refine gS fun K hK=>?_;simp -dsimp;apply hK;clear hK K;refine d5 ?_;refine b5 [0,1,2,8,21,22,23] (Or.inr (by simp)) ?_;simp only[zP,Nat.reduceEqDiff,reduceIte];refine f5 [0,1,2,8,21,22] (α:=Nat) (fun k=>[(23,I k)]) (fun k=>[a4r (a5A (p.take k) 0)]) (fun k=>k≤n) (fun k=>n-k) 0 ?_ ?_ ?_
 ·exact Nat.zero_le _
 ·exact l9 (i7 (by simp)) (by simp)
 rintro k k1;simp only[zP,Nat.reduceEqDiff,reduceIte];refine gS fun K hK=>?_;simp -dsimp;apply hK;clear hK K;refine b6 fun K2 hK2=>?_;refine d6 rfl (fun hc0=>?_) (fun hc0=>?_)
 ·skip
  try simp at hc0
  have hkn:k<p.length:=by rw[←hpl];simpa using hc0
  obtain⟨x,hx⟩:∃x,p[k]?=some x:=⟨_,List.getElem?_eq_getElem hkn⟩;have gx:=B8 hx;have hsn:=a5D (p:=p.take k) (n:=0) (x:=x) (by
   intro hm;obtain⟨j,hj⟩:=List.getElem?_of_mem hm;have hjl:=(List.getElem?_eq_some_iff.1 hj).1;rw[List.length_take]at hjl;rw[List.getElem?_take,if_pos (by omega)]at hj;have:=(List.getElem?_inj (by omega) hnd).1 (hj.trans hx.symm);omega)
  have htl:(p.take k).length=k:=by rw[List.length_take];omega
  rw[htl,Nat.zero_add]at hsn;have hts:p.take (k+1)=p.take k++[x]:=by rw[List.take_add_one,hx];rfl
  have wk:=zW k (by omega);refine d7 ?_;simp only[zT,reduceIte,Nat.reduceEqDiff];refine hK2 _ _ ?_;refine b5 [0,1,2,8,21,22,23] (Or.inr (by simp)) ?_;simp only[zP,Nat.reduceEqDiff,reduceIte];refine b6 fun K3 hK3=>?_;refine d5 ?_;refine gS fun K hK=>?_;simp -dsimp [gx];apply hK;clear hK K;refine gR fun K hK=>?_;simp -dsimp [hsn];apply hK;clear hK K;simp only[zT,reduceIte,Nat.reduceEqDiff];refine hK3 _ _ ?_;refine b5 [0,1,2,8,21,22,23] (Or.inr (by simp)) ?_;simp only[zP,Nat.reduceEqDiff,reduceIte];refine gR fun K hK=>?_;simp -dsimp [wk];apply hK;clear hK K;simp only[zT,reduceIte,Nat.reduceEqDiff];exact⟨k+1,by omega,by omega,l9 (d8 [some 0] rfl (by simp) (by simp[hsn,hts])) (by simp)⟩
 ·skip
  try simp at hc0
  have hkp:¬k<p.length:=by rw[←hpl];simpa using hc0
  have htp:p.take k=p:=List.take_of_length_le (by omega);refine f8 ?_;simp only[zT,reduceIte,Nat.reduceEqDiff];refine hK1 _ _ ?_;refine b5 [0,1,2,8] (Or.inr (by simp)) ?_;simp only[zP,Nat.reduceEqDiff,reduceIte];refine gS fun K hK=>?_;simp -dsimp;apply hK;clear hK K;refine gS fun K hK=>?_;simp -dsimp;apply hK;clear hK K;refine b6 fun K4 hK4=>?_;refine gS fun K hK=>?_;simp -dsimp;apply hK;clear hK K;refine d5 ?_;refine b5 [0,1,2,8,11,12,32,33,34] (Or.inr (by simp)) ?_;simp only[zP,Nat.reduceEqDiff,reduceIte];refine f5 [0,1,2,8,32,33] (α:=Nat) (fun k=>[(11, .row 1 0 k),(12, .row 2 0 k),(34,I k)]) (fun k=>[a4r (a5A p 0),some (.els 1 (B7 3 k n)),some (.els 1 (((rgt us p).take k).map i4))]++m7 (fun _ _=>0) k n) (fun k=>k≤n) (fun k=>n-k) 0 ?_ ?_ ?_
  ·exact Nat.zero_le _
  ·refine l9 ((z7 11 1 (by simp)).trans ((z7 12 1 (by simp)).trans (d8 [some 0,some 1,some 2] rfl (by simp) (by simp[htp,B7,m7])))) (by simp)
  rintro k k1;simp only[zP,Nat.reduceEqDiff,reduceIte];refine gS fun K hK=>?_;simp -dsimp;apply hK;clear hK K;refine b6 fun K5 hK5=>?_;refine d6 rfl (fun hc1=>?_) (fun hc1=>?_)
  ·skip
   try simp at hc1
   have hkn:k<p.length:=by rw[←hpl];simpa using hc1
   obtain⟨x,hx⟩:∃x,p[k]?=some x:=⟨_,List.getElem?_eq_getElem hkn⟩;have gx:=B8 hx;have wk:=zW k (by omega);have hrl:min k (rgt us p).length=k:=by simp only[rgt,List.length_map];omega
   have gr:(rgt us p)[k]?=some (-igt us x):=by simp[rgt,hx]
   have f1:D8 (k+1) 25:=j7 (by omega) (by omega);have f2:D8 (k+1) 9:=j7 (by omega) (by omega);have f0:D8 n 9:=j7 (by omega) (by omega);refine d7 ?_;simp only[zT,reduceIte,Nat.reduceEqDiff];refine hK5 _ _ ?_;refine b5 [0,1,2,8,11,12,32,33,34] (Or.inr (by simp)) ?_;simp only[zP,Nat.reduceEqDiff,reduceIte];refine b6 fun K6 hK6=>?_;refine d5 ?_;refine gS fun K hK=>?_;simp -dsimp [gx];apply hK;clear hK K;refine gS fun K hK=>?_;simp -dsimp [f0,f1,hpl,hpn,Nat.add_assoc];apply hK;clear hK K;refine gR fun K hK=>?_;simp -dsimp [p6 hI,wneg,f2,hrl,Nat.add_assoc];refine o3 (_) (fun hm=>rfl) ?_;simp -dsimp [p6 hI,wneg,f2,hrl,Nat.add_assoc];apply hK;clear hK K;simp only[zT,reduceIte,Nat.reduceEqDiff];refine hK6 _ _ ?_;refine b5 [0,1,2,8,11,12,32,33,34] (Or.inr (by simp)) ?_;simp only[zP,Nat.reduceEqDiff,reduceIte];refine gR fun K hK=>?_;simp -dsimp [wk];apply hK;clear hK K;simp only[zT,reduceIte,Nat.reduceEqDiff];have hout:∀i,i<k+1→some (i+3)∉ [some 0,some (k+5),some (k+6)]:=fun i hi=>by simp;omega
   have hM:∀i,i<k+1→l7 (m7 (fun _ _=>0) k n++[some (.els 1 (List.replicate n [I 0])),some (.els 1 [[.row (k+3) 0 n]]),some (.els 1 (B7 3 k n++[[.row (k+3) 0 n]])),some (.els 1 (List.take k ((rgt us p).map i4)++[[I (-igt us x)]]))]) i=Y2 (fun _ _=>0) n i:=fun i hi=>by
    rcases Nat.lt_succ_iff_lt_or_eq.1 hi with h|h
    ·exact k9 h
    ·subst h;rw[U9];exact c1a _ _
   have hro:=w9 (g:=some 0::some (k+5)::some (k+6)::(List.range (k+1)).map fun i=>some (i+3)) (c:=3) (c':=3) (m:=k+1) (n:=n) (fun i hi=>o7 (gf:=[some 0,some (k+5),some (k+6)]) hi (hout i hi));rw[a2K]at hro;refine⟨k+1,by omega,by omega,l9 (D5 (F':=[a4r (a5A p 0),some (.els 1 (B7 3 (k+1) n)),some (.els 1 (((rgt us p).take (k+1)).map i4))]) [some 0,some (k+5),some (k+6)] (fun _ _=>0) (k+1) n 3 (by simp[s9]) hout hM (by simp[hpl,hpn]) ?_) (by simp)⟩;simp[hro,a2K,List.take_add_one,gr]
  ·skip
   try simp at hc1
   have hkp:¬k<p.length:=by rw[←hpl];simpa using hc1
   have hkn:k=n:=by omega
   subst hkn;have hrt:List.take k ((rgt us p).map i4)=(rgt us p).map i4:=List.take_of_length_le (by simp[rgt];omega);rw[hrt];refine f8 ?_;simp only[zT,reduceIte,Nat.reduceEqDiff];refine hK4 _ _ ?_;refine b5 [0,8,11,12] (Or.inr (by simp)) ?_;simp only[zP,Nat.reduceEqDiff,reduceIte];refine b6 fun K7 hK7=>?_;refine gS fun K hK=>?_;simp -dsimp;apply hK;clear hK K;refine d5 ?_;refine b5 [0,8,11,12,56,57,58] (Or.inr (by simp)) ?_;simp only[zP,Nat.reduceEqDiff,reduceIte];refine f5 [0,8,11,12,56,57] (α:=Nat) (fun q=>[(58,I q)]) (fun q=>[a4r (a5A p 0),some (.els 1 (B7 3 k k)),some (.els 1 ((rgt us p).map i4))]++m7 (Lf (onW (g.Wires.take q) (s.Wires.take q)) p) k k) (fun q=>q≤g.Wires.length) (fun q=>g.Wires.length-q) 0 ?_ ?_ ?_
   ·exact Nat.zero_le _
   ·have hm0:m7 (Lf (onW (g.Wires.take 0) (s.Wires.take 0)) p) k k=m7 (fun _ _=>0) k k:=y6 fun i _ j _=>rfl;rw[hm0];exact l9 (i7 (by simp)) (by simp)
   rintro q q1;simp only[zP,Nat.reduceEqDiff,reduceIte];refine gS fun K hK=>?_;simp -dsimp;apply hK;clear hK K;refine b6 fun K8 hK8=>?_;refine d6 rfl (fun hc2=>?_) (fun hc2=>?_)
   ·skip
    try simp at hc2
    obtain⟨w,hq⟩:∃w,g.Wires[q]?=some w:=⟨_,List.getElem?_eq_getElem hc2⟩;have wq:=zW q (by omega);have hwb:=hw w (List.mem_of_getElem? hq);simp only[wrB,Bool.and_eq_true,u5,Bool.not_eq_true',decide_eq_false_iff_not]at hwb;obtain⟨⟨⟨hwA,hwB⟩,hAB⟩,hwS⟩:=hwb;have gsw:=v8 (l:=s.Wires) (k:=q) (by omega);have hsn:=a4V hq gsw;obtain⟨a,ha⟩:∃a:Nat,w.A=a:=⟨w.A.toNat,by omega⟩;obtain⟨b,hb⟩:∃b:Nat,w.B=b:=⟨w.B.toNat,by omega⟩;have hab:a≠b:=by omega
    obtain⟨wA,wB,wS,wSw⟩:=w;simp only at ha hb hwS hsn;subst ha hb;simp only[Int.toNat_natCast]at hsn;obtain⟨ia,hia⟩:∃ia:Nat,ia=if a∈p then p.idxOf a else 0:=⟨_,rfl⟩;have hA1:(r9 (a5A p 0) (ik (a:Int))).getD (.int .i64 0)= .int .i64 (ia:Int):=by
     by_cases h:a∈p
     ·rw[V5 h,hia,if_pos h];rfl
     ·rw[a1E h,hia,if_neg h];rfl
    have hA2:(r9 (a5A p 0) (ik (a:Int))).isSome=decide (a∈p):=by
     by_cases h:a∈p
     ·rw[V5 h];simp[h]
     ·rw[a1E h];simp[h]
    have hfb:∀i j,(Lf (onW (g.Wires.take q) (s.Wires.take q)) p i j).natAbs≤320:=fun i j=>by
     refine Nat.le_trans (a6k fun x hx=>?_) ?_
     ·obtain⟨w',hw',e⟩:=Y9 (M1 hx);have:=hw w' hw';simp only[wrB,Bool.and_eq_true,u5]at this;rw[e];simp only;omega
     ·have:=a4f (g.Wires.take q) (s.Wires.take q);rw[List.length_take]at this;omega
    refine d7 ?_;simp only[zT,reduceIte,Nat.reduceEqDiff];refine hK8 _ _ ?_;refine b5 [0,8,11,12,56,57,58] (Or.inr (by simp)) ?_;simp only[zP,Nat.reduceEqDiff,reduceIte];refine b6 fun K9 hK9=>?_;refine d5 ?_;refine gS fun K hK=>?_;simp -dsimp [hq];apply hK;clear hK K;refine gS fun K hK=>?_;simp -dsimp [hA1,hA2,Nat.add_assoc];refine o3 (_) (fun hm=>rfl) ?_;simp -dsimp [hA1,hA2,Nat.add_assoc];apply hK;clear hK K;refine b6 fun K10 hK10=>?_;refine gS fun K hK=>?_;simp -dsimp [gsw];refine l4 (i6 (bAt s.Wires q)) (fun _=>by simp[gsw]) ?_;simp -dsimp [gsw];apply hK;clear hK K;refine d6 rfl (fun hc3=>?_) (fun hc3=>?_)
    ·have hfe:m7 (Lf (onW (g.Wires.take (q+1)) (s.Wires.take (q+1))) p) k k=m7 (Lf (onW (g.Wires.take q) (s.Wires.take q)) p) k k:=by
      rw[hsn]
      cases hx:bAt s.Wires q with
      |false=>simp
      | true=>
       have hna:a∉p:=by simpa [hx]using hc3
       refine y6 fun i hi j hj=>?_;have hxi:p.getD i 0∈p:=by rw[List.getD_eq_getElem?_getD,List.getElem?_eq_getElem (by omega)];simp
       have hmem:(⟨a,b,wS⟩:Wn)∈onW g.Wires s.Wires:=M1 (k:=q+1) (by rw[hsn,hx];simp);have hnb:b∉p:=fun h=>hna ((hcl _ hmem).2 h);have e0:ew ⟨a,b,wS⟩ (p.getD i 0)=0:=by
        have n1:p.getD i 0≠a:=fun e=>hna (by rw[←e];exact hxi);have n2:p.getD i 0≠b:=fun e=>hnb (by rw[←e];exact hxi);unfold ew;rw[if_neg n1,if_neg n2];rfl
       unfold Lf;rw[if_pos rfl,P6];show _+(wS*(ew ⟨a,b,wS⟩ (p.getD i 0)*ew ⟨a,b,wS⟩ (p.getD j 0))+0)=_;rw[e0,Int.zero_mul,Int.mul_zero];omega
     refine f8 ?_;simp only[zT,reduceIte,Nat.reduceEqDiff];refine hK9 _ _ ?_;refine b5 [0,8,11,12,56,57,58] (Or.inr (by simp)) ?_;simp only[zP,Nat.reduceEqDiff,reduceIte];refine gR fun K hK=>?_;simp -dsimp [wq];apply hK;clear hK K;simp only[zT,reduceIte,Nat.reduceEqDiff];refine⟨q+1,by omega,by omega,l9 (D5 (F':=[a4r (a5A p 0),some (.els 1 (B7 3 k k)),some (.els 1 ((rgt us p).map i4))]) [some 0,some 1,some 2] (Lf (onW (g.Wires.take (q+1)) (s.Wires.take (q+1))) p) k k 3 (by simp[s9]) (fun i hi=>by simp) ?_ (by simp) ?_) (by simp)⟩
     ·intro i hi;show l7 (m7 _ k k++_) i=_;rw[k9 hi];rw[←n7 (m:=k) hi,←n7 (m:=k) hi,hfe]
     ·have hro:=w9 (g:=some 0::some 1::some 2::(List.range k).map fun i=>some (i+3)) (c:=3) (c':=3) (m:=k) (n:=k) (fun i hi=>o7 (gf:=[some 0,some 1,some 2]) hi (by simp));simp[hro]
    ·have hap:a∈p∧bAt s.Wires q=true:=by simpa using hc3
     have hmem:(⟨a,b,wS⟩:Wn)∈onW g.Wires s.Wires:=M1 (k:=q+1) (by rw[hsn,hap.2];simp);have hbp:b∈p:=(hcl _ hmem).1 hap.1;rw[if_pos hap.1]at hia;obtain⟨ib,hib⟩:∃ib:Nat,ib=p.idxOf b:=⟨_,rfl⟩;have hB1:(r9 (a5A p 0) (ik (b:Int))).getD (.int .i64 0)= .int .i64 (ib:Int):=by rw[V5 hbp,hib];rfl
     have hik:ia<k:=by rw[hia,←hpn];exact List.idxOf_lt_length_of_mem hap.1
     have hjk:ib<k:=by rw[hib,←hpn];exact List.idxOf_lt_length_of_mem hbp
     have gA:p[ia]?=some a:=by rw[hia];exact s6 hap.1
     have gB:p[ib]?=some b:=by rw[hib];exact s6 hbp
     have lia:ia≤k+1:=by omega
     have lib:ib≤k+1:=by omega
     have hij:ia≠ib:=by rintro rfl;rw[gA]at gB;simp only[Option.some.injEq]at gB;exact hab gB
     have hji:ib≠ia:=fun e=>hij e.symm;have hfe:∀i,i<k→∀j,j<k→Lf (onW (g.Wires.take (q+1)) (s.Wires.take (q+1))) p i j=J9 (J9 (J9 (J9 (Lf (onW (g.Wires.take q) (s.Wires.take q)) p) ia ia (Lf (onW (g.Wires.take q) (s.Wires.take q)) p ia ia+wS)) ib ib (Lf (onW (g.Wires.take q) (s.Wires.take q)) p ib ib+wS)) ia ib (Lf (onW (g.Wires.take q) (s.Wires.take q)) p ia ib-wS)) ib ia (Lf (onW (g.Wires.take q) (s.Wires.take q)) p ib ia-wS) i j:=by
      intro i hi j hj;have hE:∀i,i<k→ew ⟨a,b,wS⟩ (p.getD i 0)=(if i=ia then 1 else 0)-(if i=ib then 1 else 0):=by
       intro i hi;have hgi:p[i]?=some (p.getD i 0):=by rw[List.getD_eq_getElem?_getD,List.getElem?_eq_getElem (by omega)];rfl
       have q1:(p.getD i 0=a)↔i=ia:=by
        constructor
        ·intro e;rw[e]at hgi;exact(List.getElem?_inj (by omega) hnd).1 (hgi.trans gA.symm)
        ·rintro rfl;rw[gA]at hgi;simp only[Option.some.injEq]at hgi;exact hgi.symm
       have q2:(p.getD i 0=b)↔i=ib:=by
        constructor
        ·intro e;rw[e]at hgi;exact(List.getElem?_inj (by omega) hnd).1 (hgi.trans gB.symm)
        ·rintro rfl;rw[gB]at hgi;simp only[Option.some.injEq]at hgi;exact hgi.symm
       unfold ew;simp only[q1,q2]
      rw[hsn,hap.2];have hL:Lf (onW (g.Wires.take q) (s.Wires.take q)++[⟨a,b,wS⟩]) p i j=Lf (onW (g.Wires.take q) (s.Wires.take q)) p i j+wS*(((if i=ia then 1 else 0)-(if i=ib then 1 else 0))*((if j=ia then 1 else 0)-(if j=ib then 1 else 0))):=by
       unfold Lf;rw[P6,←hE i hi,←hE j hj];simp[lw]
      rw[if_pos rfl,hL];unfold J9
      by_cases e1:i=ia
      ·subst e1
       by_cases e2:j=i
       ·subst e2;simp[hij,hji]
       ·by_cases e3:j=ib
        ·subst e3;simp[hij,hji,e2];omega
        ·simp[hij,hji,e2,e3]
      ·by_cases e2:i=ib
       ·subst e2
        by_cases e3:j=i
        ·subst e3;simp[hij,hji]
        ·by_cases e4:j=ia
         ·subst e4;simp[hij,hji,e3];omega
         ·simp[hij,hji,e3,e4]
       ·simp[e1,e2]
     generalize Lf (onW (g.Wires.take q) (s.Wires.take q)) p=f at hfe hfb ⊢;have w1:IntKind.i64.wrap (f ia ia+wS)=f ia ia+wS:=f6 (by have:=hfb ia ia;omega) (by have:=hfb ia ia;omega);have w2:IntKind.i64.wrap (f ib ib+wS)=f ib ib+wS:=f6 (by have:=hfb ib ib;omega) (by have:=hfb ib ib;omega);have w3:IntKind.i64.wrap (f ia ib-wS)=f ia ib-wS:=f6 (by have:=hfb ia ib;omega) (by have:=hfb ia ib;omega);have w4:IntKind.i64.wrap (f ib ia-wS)=f ib ia-wS:=f6 (by have:=hfb ib ia;omega) (by have:=hfb ib ia;omega);have e2:J9 f ia ia (f ia ia+wS) ib ib=f ib ib:=by simp[J9,hji]
     have e3:J9 (J9 f ia ia (f ia ia+wS)) ib ib (f ib ib+wS) ia ib=f ia ib:=by simp[J9,hij,hji]
     have e4:J9 (J9 (J9 f ia ia (f ia ia+wS)) ib ib (f ib ib+wS)) ia ib (f ia ib-wS) ib ia=f ib ia:=by simp[J9,hij,hji]
     refine d7 ?_;simp only[zT,reduceIte,Nat.reduceEqDiff];refine hK10 _ _ ?_;refine b5 [0,8,11,12,16,17,56,57,58] (Or.inr (by simp)) ?_;simp only[zP,Nat.reduceEqDiff,reduceIte];refine gS fun K hK=>?_;simp -dsimp [hB1,Nat.add_assoc];refine o3 (_) (fun hm=>rfl) ?_;simp -dsimp [hB1,Nat.add_assoc];apply hK;clear hK K;refine q9 k7 rfl (by decide) rfl rfl fun K hK=>?_;simp -dsimp [lia,lib,Nat.add_assoc,u6 hik,hik,k9 hik,Y2,A7 hik,v5 hik,w1];refine hK _ _ _ (by exact p9 [(0,1),(0,4),(1,4),(2,4),(3,4),(0,7),(1,7),(2,7),(3,7),(4,7),(5,7),(6,7),(0,8),(1,8),(2,8),(3,8),(4,8),(5,8),(6,8)] (by decide+kernel) (by decide+kernel) (by simp[I7]<;>omega)) ?_;clear hK K;refine q9 k7 rfl (by decide) rfl rfl fun K hK=>?_;simp -dsimp [lia,lib,Nat.add_assoc,u6 hjk,hjk,k9 hjk,Y2,A7 hjk,v5 hjk,e2,w2];refine hK _ _ _ (by exact p9 [(0,1),(0,4),(1,4),(2,4),(3,4),(0,7),(1,7),(2,7),(3,7),(4,7),(5,7),(6,7),(0,8),(1,8),(2,8),(3,8),(4,8),(5,8),(6,8)] (by decide+kernel) (by decide+kernel) (by simp[I7]<;>omega)) ?_;clear hK K;refine q9 k7 rfl (by decide) rfl rfl fun K hK=>?_;simp -dsimp [lia,lib,Nat.add_assoc,u6 hik,hik,k9 hik,Y2,hjk,A7 hjk,v5 hik,e3,w3];refine hK _ _ _ (by exact p9 [(0,1),(0,4),(1,4),(2,4),(3,4),(0,7),(1,7),(2,7),(3,7),(4,7),(5,7),(6,7),(0,8),(1,8),(2,8),(3,8),(4,8),(5,8),(6,8)] (by decide+kernel) (by decide+kernel) (by simp[I7]<;>omega)) ?_;clear hK K;refine o4 k7 rfl (by decide) rfl rfl fun K hK=>?_;simp -dsimp [lia,lib,Nat.add_assoc,u6 hjk,hjk,k9 hjk,Y2,hik,A7 hik,v5 hjk,e4,w4];refine hK _ _ _ (by exact p9 [(0,1),(0,4),(1,4),(2,4),(3,4),(0,7),(1,7),(2,7),(3,7),(4,7),(5,7),(6,7),(0,8),(1,8),(2,8),(3,8),(4,8),(5,8),(6,8)] (by decide+kernel) (by decide+kernel) (by simp[I7]<;>omega)) ?_;clear hK K;simp only[zT,reduceIte,Nat.reduceEqDiff];refine hK9 _ _ ?_;refine b5 [0,8,11,12,56,57,58] (Or.inr (by simp)) ?_;simp only[zP,Nat.reduceEqDiff,reduceIte];refine gR fun K hK=>?_;simp -dsimp [wq];apply hK;clear hK K;simp only[zT,reduceIte,Nat.reduceEqDiff];refine⟨q+1,by omega,by omega,l9 (D5 (F':=[a4r (a5A p 0),some (.els 1 (B7 3 k k)),some (.els 1 ((rgt us p).map i4))]) [some 0,some 1,some 2] (Lf (onW (g.Wires.take (q+1)) (s.Wires.take (q+1))) p) k k 3 (by simp[s9]) (fun i hi=>by simp) ?_ (by simp) ?_) (by simp)⟩
     ·intro i hi;show l7 (m7 _ k k++_) i=_;rw[k9 hi];rw[←n7 (m:=k) hi,←n7 (m:=k) hi,y6 hfe]
     ·have hro:=w9 (g:=some 0::some 1::some 2::(List.range k).map fun i=>some (i+3)) (c:=3) (c':=3) (m:=k) (n:=k) (fun i hi=>o7 (gf:=[some 0,some 1,some 2]) hi (by simp));simp[hro]
   ·skip
    try simp at hc2
    have hqe:q=g.Wires.length:=by omega
    have ht1:g.Wires.take q=g.Wires:=List.take_of_length_le (by omega);have ht2:s.Wires.take q=s.Wires:=List.take_of_length_le (by omega);rw[ht1,ht2];refine f8 ?_;simp only[zT,reduceIte,Nat.reduceEqDiff];refine hK7 _ _ ?_;refine b5 [11,12] (Or.inr (by simp)) ?_;simp only[zP,Nat.reduceEqDiff,reduceIte];refine gS fun K hK=>?_;simp -dsimp;apply hK;clear hK K;have hout:∀i,i<k→some (i+3)∉ [some 1,some 2]:=fun i hi=>by simp
    have hro:=w9 (g:=some 1::some 2::(List.range k).map fun i=>some (i+3)) (c:=3) (c':=2) (m:=k) (n:=k) (fun i hi=>o7 (gf:=[some 1,some 2]) hi (hout i hi));refine i5 ⟨[some 1,some 2]++(List.range k).map fun i=>some (i+3),a2H rfl hout,by simp,?_,by simp,by simp[y3,m6]⟩;refine a4e (F':=[some (.els 1 (B7 2 k k)),some (.els 1 ((rgt us p).map i4))]) [some 1,some 2] _ k k 3 (fun i hi=>?_) ?_
    ·show l7 (m7 _ k k) i=_;exact n7 hi
    ·simp[hro]
end Go.Cur
end
section
namespace Go.Cur
open Go.AM Go.Proofs
theorem F1 {p:List Nat} {i:Nat} (h:i<p.length):p[i]?=some (p.getD i 0):=by
 rw[List.getD_eq_getElem?_getD,List.getElem?_eq_getElem h];rfl
theorem I5 (f:Nat→Nat→Int) (n:Nat):Sq (b4r f n n) n:=by
 refine⟨by simp[b4r],fun r hr=>?_⟩;obtain⟨i,_,rfl⟩:=List.mem_map.1 hr;simp
theorem b3h {f:Nat→Nat→Int} {n i j:Nat} (hi:i<n) (hj:j<n):mAt (b4r f n n) i j=f i j:=by
 unfold mAt;rw[a9S (a1u hi)];exact W5 (by rw[List.getElem?_map,List.getElem?_range hj];rfl)
theorem a2C {α:Type} (p:List Nat) (f:Nat→α):p.map f=(List.range p.length).map fun i=>f (p.getD i 0):=by
 conv=>lhs;rw[J6 (p:=p)]
 rw[List.map_map];rfl
abbrev eqM (A:Nat→Nat→Int) (p:List Nat):List (List Int):=b4r (fun i j=>A (p.getD i 0) (p.getD j 0)) p.length p.length
theorem a4v (A:Nat→Nat→Int) (p:List Nat):a6X (eqM A p)=D A p:=by
 unfold a6X;rw[(I5 _ _).len,b3t];exact U8 fun i hi k hk=>b3h (List.mem_range.1 hi) (List.mem_range.1 hk)
theorem a4w (A:Nat→Nat→Int) (b:Nat→Int) (p:List Nat) (hp:p.Nodup):a1A (eqM A p) (p.map b)=p.map fun k=>wr (num A b p k):=by
 unfold a1A;rw[(I5 _ _).len,a2C p (fun k=>wr (num A b p k))];refine List.map_congr_left fun k hk=>?_;rw[List.mem_range]at hk;have h1:(a7a (eqM A p) (p.map b) k).length=p.length:=by rw[Y8,(I5 _ _).len]
 have h2:a6X (a7a (eqM A p) (p.map b) k)=num A b p (p.getD k 0):=by
  unfold a6X;rw[h1,a5B hp hk];refine U8 fun i hi j hj=>?_;rw[List.mem_range]at hi hj;rw[b7p (I5 _ _) hi hj,b3h hi hj];have:at0 (p.map b) i=b (p.getD i 0):=W5 (by rw[List.getElem?_map,F1 hi];rfl);rw[this]
 rw[h2]
def U6 (g:Gr) (fs:List Int) (b:Nat):Fd:=fdI g (at0 fs b)
def Pt (g:Gr) (W:List Wn) (us:Kvs) (p:List Nat) (fs:List Int) (t:Nat):n9:=
 ⟨p,lw W,fun x=>igt us x,List.range t,fun b=>(U6 g fs b).At.toNat,fun b=>(U6 g fs b).Siem,fun b=>(U6 g fs b).Volts⟩
def s7 (a:Nat):Nat→Bool:=fun b=>a.testBit b
section
variable (g:Gr) (W:List Wn) (us:Kvs) (p:List Nat) (fs:List Int)
theorem a5v (t a:Nat) (c:Nat→Int) (i:Nat):(Pt g W us p fs (t+1)).at_ (s7 a) c i=(Pt g W us p fs t).at_ (s7 a) c i+if a.testBit t=true∧(U6 g fs t).At.toNat=i then c t else 0:=by
 unfold n9.at_;show sm _ (List.range (t+1))=sm _ (List.range t)+_;rw[List.range_succ,J5];show _+((if s7 a t=true∧(Pt g W us p fs (t+1)).p t=i then c t else 0)+0)=_;rw[Int.add_zero];rfl
def Af (t a:Nat):Nat→Nat→Int:=fun i j=>(Pt g W us p fs t).A (s7 a) (p.getD i 0) (p.getD j 0)
def Rf (t a:Nat):Nat→Int:=fun i=>(Pt g W us p fs t).b (s7 a) (p.getD i 0)
def RfL (t a:Nat):List Int:=(List.range p.length).map (Rf g W us p fs t a)
theorem b3q (t a:Nat):(RfL g W us p fs t a).length=p.length:=by simp[RfL]
theorem b2D {t a k:Nat} (h:k<p.length):(RfL g W us p fs t a)[k]?=some (Rf g W us p fs t a k):=by
 unfold RfL;rw[List.getElem?_map,List.getElem?_range h];rfl
theorem b6U (t a:Nat):RfL g W us p fs t a=p.map ((Pt g W us p fs t).b (s7 a)):=by
 rw[a2C p];rfl
theorem b3s (a:Nat):Af g W us p fs 0 a=Lf W p:=by
 funext i j
 unfold Af n9.A Lf;have:(Pt g W us p fs 0).at_ (s7 a) (Pt g W us p fs 0).s (p.getD i 0)=0:=rfl;rw[this];show lw W _ _+_=_
 split<;>omega
theorem b2S (a:Nat):RfL g W us p fs 0 a=rgt us p:=by
 unfold RfL rgt;rw[a2C p fun(k:Nat)=>-igt us k];refine List.map_congr_left fun i _=>?_;unfold Rf n9.b;have:(Pt g W us p fs 0).at_ (s7 a) (fun b=>(Pt g W us p fs 0).s b*(Pt g W us p fs 0).V b) (p.getD i 0)=0:=rfl;rw[this];show-igt us _+0=_;omega
theorem b6A {t a:Nat} (h:a.testBit t=false):Af g W us p fs (t+1) a=Af g W us p fs t a:=by
 funext i j
 unfold Af n9.A;rw[show(Pt g W us p fs (t+1)).s=(Pt g W us p fs t).s from rfl,a5v];simp[h];rfl
theorem b6i {t a:Nat} (h:a.testBit t=false):RfL g W us p fs (t+1) a=RfL g W us p fs t a:=by
 unfold RfL
 congr 1
 funext i
 unfold Rf n9.b;rw[show(fun b=>(Pt g W us p fs (t+1)).s b*(Pt g W us p fs (t+1)).V b)=fun b=>(Pt g W us p fs t).s b*(Pt g W us p fs t).V b from rfl,a5v];simp[h];rfl
theorem c0Y {t a k:Nat} (hp:p.Nodup) (h:a.testBit t=true) (hk:k<p.length) (hat:p.getD k 0=(U6 g fs t).At.toNat):∀i,i<p.length→∀j,j<p.length→J9 (Af g W us p fs t a) k k (Af g W us p fs t a k k+(U6 g fs t).Siem) i j=Af g W us p fs (t+1) a i j:=by
 intro i hi j hj;unfold J9;have e:∀i j,(Pt g W us p fs (t+1)).A (s7 a) i j=(Pt g W us p fs t).A (s7 a) i j+if i=j∧(U6 g fs t).At.toNat=i then(U6 g fs t).Siem else 0:=by
  intro i j;unfold n9.A;rw[show(Pt g W us p fs (t+1)).s=(Pt g W us p fs t).s from rfl,a5v];show lw W i j+_=lw W i j+_+_
  by_cases hij:i=j
  ·subst hij
   by_cases hx:(U6 g fs t).At.toNat=i
   ·simp[h,hx];rw[Int.add_assoc];rfl
   ·simp[h,hx]
  ·simp[hij]
 show _=(Pt g W us p fs (t+1)).A (s7 a) (p.getD i 0) (p.getD j 0);rw[e];show(if i=k∧j=k then(Pt g W us p fs t).A (s7 a) (p.getD k 0) (p.getD k 0)+_ else(Pt g W us p fs t).A (s7 a) (p.getD i 0) (p.getD j 0))=_
 by_cases h1:i=k
 ·subst h1
  by_cases h2:j=i
  ·subst h2;rw[if_pos ⟨rfl,rfl⟩,if_pos ⟨rfl,hat.symm⟩]
  ·rw[if_neg (fun e=>h2 e.2),if_neg (fun e=>h2 (F5 hp hj hi e.1.symm)),Int.add_zero]
 ·rw[if_neg (fun e=>h1 e.1),if_neg (fun e=>h1 (F5 hp hi hk (by rw[←e.2,hat]))),Int.add_zero]
theorem c0I {t a k:Nat} (hp:p.Nodup) (h:a.testBit t=true) (hk:k<p.length) (hat:p.getD k 0=(U6 g fs t).At.toNat):(RfL g W us p fs t a).set k (Rf g W us p fs t a k+(U6 g fs t).Siem*(U6 g fs t).Volts)=RfL g W us p fs (t+1) a:=by
 unfold RfL;refine List.ext_getElem? fun i=>?_;have e:∀i,(Pt g W us p fs (t+1)).b (s7 a) i=(Pt g W us p fs t).b (s7 a) i+if (U6 g fs t).At.toNat=i then(U6 g fs t).Siem*(U6 g fs t).Volts else 0:=by
  intro i;unfold n9.b;rw[show(fun b=>(Pt g W us p fs (t+1)).s b*(Pt g W us p fs (t+1)).V b)=fun b=>(Pt g W us p fs t).s b*(Pt g W us p fs t).V b from rfl,a5v];simp only[h,true_and];rw[←Int.add_assoc];rfl
 by_cases hi:i<p.length
 ·rw[List.getElem?_map,List.getElem?_range hi]
  by_cases h1:i=k
  ·subst h1;rw[List.getElem?_set_self (by simpa using hi)];show some (_+_)=some ((Pt g W us p fs (t+1)).b (s7 a) (p.getD i 0));rw[e,if_pos hat.symm];rfl
  ·rw[List.getElem?_set_ne (fun e=>h1 e.symm),List.getElem?_map,List.getElem?_range hi];show some _=some ((Pt g W us p fs (t+1)).b (s7 a) (p.getD i 0));rw[e,if_neg (fun e=>h1 (F5 hp hi hk (by rw[←e,hat]))),Int.add_zero];rfl
 ·rw[List.getElem?_eq_none (by simp;omega),List.getElem?_eq_none (by simp;omega)]
end
end Go.Cur
end
section
namespace Go.Cur
open Go.AM Go.Proofs
theorem b8J (p:List Nat) (k:Nat) (x:Int) (h0:0≤x):((upN p).take k).any (fun y=>decide (x=y))=(p.take k).any fun y=>decide (x.toNat=y):=by
 unfold upN;rw[←List.map_take,List.any_map]
 congr 1
 funext y
 exact decide_eq_decide.2 (by simp;omega)
theorem C7 {p:List Nat} {x:Int} (h0:0≤x) (hx:x.toNat∈p):J3 (upN p) (fun y=>decide (x=y))=((p.idxOf x.toNat:Nat):Int):=by
 have hg:=s6 hx;refine a0d (x:=x) (by have:=B8 hg;rwa [Int.toNat_of_nonneg h0]at this) (by simp) ?_;rw[b8J _ _ _ h0];rw[List.any_eq_false];intro y hy;obtain⟨j,hj⟩:=List.getElem?_of_mem hy;have hjl:=(List.getElem?_eq_some_iff.1 hj).1;rw[List.length_take]at hjl;rw[List.getElem?_take,if_pos (by omega)]at hj;have hlt:j<p.idxOf x.toNat:=by omega
 have hn:=List.not_of_lt_findIdx (p:=(· ==x.toNat)) (xs:=p) hlt
 have hy2:p[j]'(by omega)=y:=(List.getElem?_eq_some_iff.1 hj).2;simp only[decide_eq_true_eq];rintro e;rw[hy2,←e]at hn;simp at hn
theorem b2j (g:Gr) (s:Sta) (p:List Nat) (f:Int) (hp:p.length≤1000) (h0:0≤f) (h1:f<g.Feeds.length) (hA:0≤(fdI g f).At) (hm:(fdI g f).At.toNat∈p):
  d4 Try.prog 86 [I f, .iptr [iL (upN p)], .iptr [net g s]] (I ((p.idxOf (fdI g f).At.toNat:Nat):Int)):=by
 have gf:=O6 h0 h1;have hi:=a4C (upN p) (fdI g f).At (by rw[o9];omega);rw[C7 hA hm]at hi;refine d4.of_body Try.func86 rfl (by decide) (by simp[Try.ntmps86]) ?_;simp only[Try.ntmps86,Try.results86];refine aS fun K hK=>?_;simp -dsimp;apply hK;clear hK K;refine v6 k7 rfl fun K hK=>?_;simp -dsimp [gf,h0];refine b8 _ (hi) (by simp) ?_;simp -dsimp [gf,h0];refine hK _ _ _ (by decide+kernel) ?_;clear hK K;exact f7 (by simp)
def b4n (P:n9) (m a:Nat):Bool:=(List.range m).all fun b=>if a.testBit b then decide (0≤P.V b*P.den (s7 a)-P.num (s7 a) (P.p b))else decide (P.V b*P.den (s7 a)-P.num (s7 a) (P.p b)≤0)
def c1U (V:Nat→Int) (q:Nat→Nat) (nu:Nat→Int) (de:Int) (a b:Nat):Bool:=if a.testBit b then decide (0≤V b*de-nu (q b))else decide (V b*de-nu (q b)≤0)
theorem b7U (P:n9) (m a:Nat):b4n P m a=(List.range m).all (c1U P.V P.p (P.num (s7 a)) (P.den (s7 a)) a):=rfl
theorem a8z (f:Nat→Bool) (b:Nat):(List.range (b+1)).all f=((List.range b).all f&&f b):=by rw[List.range_succ,List.all_append];simp
def a0Q (n:Nat):List Int:=List.replicate n 0
def E9 (us:Kvs) (p:List Nat):Int:=sm (fun x=>igt us x) p
def a0c (us:Kvs) (p:List Nat):Bool:=p.all fun(x:Nat)=>igt us x==0
theorem a1V {us:Kvs} {p:List Nat} {k x:Nat} (h:p[k]?=some x):E9 us (p.take (k+1))=E9 us (p.take k)+igt us x:=by
 unfold E9;rw[List.take_add_one,h,J5];show _+(igt us x+0)=_;omega
theorem a3A {us:Kvs} {p:List Nat} {k x:Nat} (h:p[k]?=some x):a0c us (p.take (k+1))=(a0c us (p.take k)&&(igt us x==0)):=by
 unfold a0c;rw[List.take_add_one,h,List.all_append];simp
theorem a5d {us:Kvs} (hus:∀x,-40≤igt us x∧igt us x≤40):∀p:List Nat,-40*(p.length:Int)≤E9 us p∧E9 us p≤40*(p.length:Int)
 |[]=>by simp[E9,sm]
 |x::p=>by
  have h1:=hus x;have h2:=a5d hus p;unfold E9 at h2 ⊢;rw[sm,List.length_cons];omega
def F0 (x0:Int) (xs:List Int):Int:=xs.foldl a9C x0
structure o8 (g:Gr) (s:Sta):Prop where
 gr:grB g=true
 sf:s.Feeds.length=g.Feeds.length
 sw:s.Wires.length=g.Wires.length
structure b1X (g:Gr) (s:Sta) (p:List Nat):Prop where
 n1:1≤p.length
 n10:p.length≤10
 nd:p.Nodup
 cl:∀w∈onW g.Wires s.Wires,w.a∈p↔w.b∈p
theorem o8.wires {g:Gr} {s:Sta} (h:o8 g s):∀w∈g.Wires,wrB g w=true:=by
 have h1:=h.gr;simp only[grB,Bool.and_eq_true]at h1;have key:∀k,a7E g k=true→∀i,i<k→∀w,g.Wires[i]?=some w→wrB g w=true:=by
  intro k
  induction k with
  |zero=>intro _ i hi;omega
  |succ k ih=>
   intro hk i hi w hw;simp only[a7E,Bool.and_eq_true]at hk
   rcases Nat.lt_succ_iff_lt_or_eq.1 hi with h|h
   ·exact ih hk.1 i h w hw
   ·subst h;have:=hk.2;rw[hw]at this;simp only[Bool.and_eq_true]at this;exact this.1
 intro w hw;obtain⟨i,hi⟩:=List.getElem?_of_mem hw;exact key _ h1.1.2 i (List.getElem?_eq_some_iff.1 hi).1 w hi
theorem o8.feeds {g:Gr} {s:Sta} (h:o8 g s):∀f∈g.Feeds,0≤f.At∧f.At<g.Nodes∧1≤f.Volts∧f.Volts≤1000∧1≤f.Siem∧f.Siem≤4∧0≤f.Limit∧f.Limit≤2000:=by
 have h1:=h.gr;simp only[grB,Bool.and_eq_true]at h1;have key:∀k,a8j g k=true→∀i,i<k→∀f,g.Feeds[i]?=some f→inr f.At 0 (g.Nodes-1)=true∧inr f.Volts 1 1000=true∧inr f.Siem 1 4=true∧inr f.Limit 0 2000=true:=by
  intro k
  induction k with
  |zero=>intro _ i hi;omega
  |succ k ih=>
   intro hk i hi w hw;simp only[a8j,Bool.and_eq_true]at hk
   rcases Nat.lt_succ_iff_lt_or_eq.1 hi with h|h
   ·exact ih hk.1 i h w hw
   ·subst h;have:=hk.2;rw[hw]at this;simp only[fdB,Bool.and_eq_true]at this;exact⟨this.1.1.1.1,this.1.1.1.2,this.1.1.2,this.1.2⟩
 intro f hf;obtain⟨i,hi⟩:=List.getElem?_of_mem hf;have:=key _ h1.2 i (List.getElem?_eq_some_iff.1 hi).1 f hi;simp only[u5]at this;omega
theorem X2 {g:Gr} {s:Sta} {p:List Nat} {f:Int} (h:f∈m9 g s (upN p)):0≤f∧f<g.Feeds.length∧(fdI g f).At.toNat∈p∧bAt s.Feeds f.toNat=true:=by
 unfold m9 at h;rw[List.mem_filter,a4Z]at h;obtain⟨⟨h0,h1⟩,h2⟩:=h;simp only[a1D,Bool.and_eq_true,decide_eq_true_eq]at h2;exact⟨h0,h1,(a2i.1 h2.2).2,h2.1⟩
theorem C8 {g:Gr} {s:Sta} {p:List Nat} {fs:List Int} (hnt:o8 g s) (hfs:fs=m9 g s (upN p)) {b:Nat} (hb:b<fs.length):
  fs[b]?=some (at0 fs b)∧0≤at0 fs b∧at0 fs b<g.Feeds.length∧g.Feeds[(at0 fs b).toNat]?=some (fdI g (at0 fs b))∧0≤(fdI g (at0 fs b)).At∧(fdI g (at0 fs b)).At.toNat∈p∧1≤(fdI g (at0 fs b)).Volts∧(fdI g (at0 fs b)).Volts≤1000∧1≤(fdI g (at0 fs b)).Siem∧(fdI g (at0 fs b)).Siem≤4:=by
 have h1:=A5 hb;have hm:=X2 (by rw[←hfs];exact List.mem_of_getElem? h1);have h2:=O6 hm.1 hm.2.1;have h3:=hnt.feeds _ (List.mem_of_getElem? h2);exact⟨h1,hm.1,hm.2.1,h2,h3.1,hm.2.2.1,h3.2.2.1,h3.2.2.2.1,h3.2.2.2.2.1,h3.2.2.2.2.2.1⟩
theorem T9 {x0:Int} {xs:List Int} {b:Nat} {x:Int} (h:xs[b]?=some x):F0 x0 (xs.take (b+1))=a9C (F0 x0 (xs.take b)) x:=by
 unfold F0;rw[List.take_add_one,h,List.foldl_append];rfl
theorem b7B {x y B:Int} (h1:-B≤x∧x≤B) (h2:-B≤y∧y≤B):-B≤a9C x y∧a9C x y≤B:=by
 unfold a9C;split<;>omega
theorem O7 {B:Int}:∀(xs:List Int) (x0:Int),(-B≤x0∧x0≤B)→(∀x∈xs,-B≤x∧x≤B)→ -B≤F0 x0 xs∧F0 x0 xs≤B
 |[],x0,h,_=>h
 |x::xs,x0,h,hx=>by
  unfold F0;rw[List.foldl_cons];exact O7 xs _ (b7B h (hx x (by simp))) fun y hy=>hx y (by simp[hy])
def shl (nl:List Int) (sh:Int) (i:Nat):List Int:=(nl.take i).map (fun x=>x+sh)++nl.drop i
theorem b2v (nl:List Int) (sh:Int) (i:Nat):(shl nl sh i).length=nl.length:=by
 unfold shl;simp only[List.length_append,List.length_map,List.length_take,List.length_drop];omega
theorem b2G {nl:List Int} {sh:Int} {i:Nat} {x:Int} (h:nl[i]?=some x):(shl nl sh i)[i]?=some x:=by
 have hi:=(List.getElem?_eq_some_iff.1 h).1;unfold shl;rw[List.getElem?_append_right (by simp;omega)];simp only[List.length_map,List.length_take,Nat.min_eq_left (Nat.le_of_lt hi),Nat.sub_self,List.getElem?_drop,Nat.add_zero];exact h
theorem b2L {nl:List Int} {sh:Int} {i:Nat} {x:Int} (h:nl[i]?=some x):(shl nl sh i).set i (x+sh)=shl nl sh (i+1):=by
 obtain⟨hi,hx⟩:=List.getElem?_eq_some_iff.1 h;have hl:((nl.take i).map fun x=>x+sh).length=i:=by simp;omega
 have hd:nl.drop i=x::nl.drop (i+1):=by rw[List.drop_eq_getElem_cons hi,hx]
 unfold shl;rw[List.set_append,if_neg (by omega),hl,Nat.sub_self,hd,List.set_cons_zero,List.take_add_one,h];simp
theorem a9g (nl:List Int) (sh:Int):shl nl sh 0=nl:=by simp[shl]
theorem b3R {nl:List Int} {sh:Int} {n:Nat} (h:nl.length=n):shl nl sh n=nl.map fun x=>x+sh:=by
 unfold shl;rw[List.take_of_length_le (by omega),List.drop_of_length_le (by omega),List.append_nil]
def Sml (P:n9) (S:Nat→Bool):Prop:=(∀k,-1000000000000000≤P.num S k∧P.num S k≤1000000000000000)∧0<P.den S∧P.den S≤100000000000000
def c0W (P:n9) (i0:Nat):Prop:=(∀k,-1000000000000000≤P.num0 i0 k∧P.num0 i0 k≤1000000000000000)∧0<P.den0 i0∧P.den0 i0≤100000000000000
theorem a7w (H:Nat→Option k8) {r:Nat} (hr:2≤r):Hxn H [some 0,some 1] r=H r:=by
 unfold Hxn;have:j6 [some 0,some 1] r=none:=by
  unfold j6;rw[List.findIdx?_eq_none_iff];intro x hx;simp only[List.mem_cons,List.not_mem_nil,or_false]at hx
  rcases hx with rfl|rfl<;>simp<;>omega
 rw[this]
theorem b1e {H:Nat→Option k8} {r n:Nat} {l:List Int} (hr:H r=some (.els 1 (l.map i4))) (hl:l.length=n) (h1:1≤n):frz H 3 (.row r 0 n)=iL l:=by
 have hp:x4 (l.map i4)=true:=by simp
 simp only[frz,hr];rw[if_pos (by simp;omega),if_pos hp,List.drop_zero,List.take_of_length_le (by simp;omega)]
theorem b6X (x y z:Option k8) (M:Hp) (l bl:List Int) {n:Nat} (h:l.set 0 0=bl) (hl:bl.length=n) (h1:1≤n):frz (Hxn (l7 (x::y::z::some (.els 1 ((l.map i4).set 0 [I 0]))::M)) [some 0,some 1]) 3 (.row 3 0 n)=iL bl:=by
 refine b1e (l:=bl) ?_ hl h1;rw[a7w _ (by omega)];show some (k8.els 1 ((l.map i4).set 0 [I 0]))=_;rw[←h,List.map_set];rfl
theorem b8H (W:List Wn) (u:Nat→Int) (p:List Nat) (fs:List Nat) (q:Nat→Nat) (s V:Nat→Int) (x y R:Option k8) (i0:Nat) (hi0:p.getD 0 0=i0) (h1:1≤p.length) (hnd:p.Nodup):
  frz (Hxn (l7 (x::y::some (.els 1 ((B7 4 p.length p.length).set 0 [.row (p.length+4) 0 p.length]))::R::(m7 (Lf W p) p.length p.length++[some (.els 1 ((List.replicate p.length [I 0]).set 0 [I 1]))]))) [some 0,some 1]) 3 (.row 2 0 p.length)
   =mL (eqM ((⟨p,lw W,u,fs,q,s,V⟩:n9).A0 i0) p):=by
 refine a8O (es:=(B7 4 p.length p.length).set 0 [.row (p.length+4) 0 p.length]) h1 ?_ (by simp) (I5 _ _).len fun i hi=>?_
 ·rw[a7w _ (by omega)];rfl
 ·by_cases h0:i=0
  ·subst h0;refine⟨p.length+4,_,by rw[List.getElem?_set_self (by simpa using hi)],a1u hi,?_,by simp⟩;rw[a7w _ (by omega)];show l7 (m7 (Lf W p) p.length p.length++_) p.length=_;rw[U9];show some (k8.els 1 _)=some (k8.els 1 _)
   congr 2
   refine List.ext_getElem? fun j=>?_
   by_cases hj:j<p.length
   ·rw[List.getElem?_map,List.getElem?_map,List.getElem?_range hj]
    by_cases hj0:j=0
    ·subst hj0;rw[List.getElem?_set_self (by simpa using hj)];have hA:(⟨p,lw W,u,fs,q,s,V⟩:n9).A0 i0 (p.getD 0 0) (p.getD 0 0)=1:=by
      unfold n9.A0;rw[if_pos hi0,if_pos hi0]
     simp only[Option.map_some,hA]
    ·have hne:p.getD j 0≠p.getD 0 0:=fun e=>hj0 (F5 hnd hj hi e);have hA:(⟨p,lw W,u,fs,q,s,V⟩:n9).A0 i0 (p.getD 0 0) (p.getD j 0)=0:=by
      unfold n9.A0;rw[if_pos hi0,if_neg (by rw[←hi0];exact hne)]
     rw[List.getElem?_set_ne (fun e=>hj0 e.symm),List.getElem?_replicate,if_pos hj];simp only[Option.map_some,hA]
   ·rw[List.getElem?_eq_none (by simp;omega),List.getElem?_eq_none (by simp;omega)]
  ·refine⟨i+4,_,by rw[List.getElem?_set_ne (fun e=>h0 e.symm),u6 hi],a1u hi,?_,by simp⟩;rw[a7w _ (by omega)];show l7 (m7 (Lf W p) p.length p.length++_) i=_;rw[k9 hi];unfold Y2;rw[List.map_map]
   congr 2
   refine List.map_congr_left fun j _=>?_;have hne:p.getD i 0≠i0:=fun e=>h0 (F5 hnd hi (by omega) (e.trans hi0.symm));show [I (lw W (p.getD i 0) (p.getD j 0))]=[I _];have hA:(⟨p,lw W,u,fs,q,s,V⟩:n9).A0 i0 (p.getD i 0) (p.getD j 0)=lw W (p.getD i 0) (p.getD j 0):=by
    unfold n9.A0;rw[if_neg hne]
   simp only[hA]
theorem b6S (us:Kvs) (p:List Nat) (L:Nat→Nat→Int) (fs:List Nat) (q:Nat→Nat) (s V:Nat→Int) (i0:Nat) (hi0:p.getD 0 0=i0) (h1:1≤p.length) (hnd:p.Nodup):
  (rgt us p).set 0 0=p.map ((⟨p,L,fun x=>igt us x,fs,q,s,V⟩:n9).b0 i0):=by
 refine List.ext_getElem? fun i=>?_
 by_cases hi:i<p.length
 ·rw[List.getElem?_map,F1 hi]
  by_cases h0:i=0
  ·subst h0;rw[List.getElem?_set_self (by simpa [rgt]using hi)];simp only[Option.map_some];unfold n9.b0;rw[if_pos hi0]
  ·have hne:p.getD i 0≠i0:=fun e=>h0 (F5 hnd hi (by omega) (e.trans hi0.symm));rw[List.getElem?_set_ne (fun e=>h0 e.symm)];unfold rgt;rw[List.getElem?_map,F1 hi];simp only[Option.map_some];unfold n9.b0;rw[if_neg hne]
 ·rw[List.getElem?_eq_none (by simp[rgt];omega),List.getElem?_eq_none (by simp;omega)]
theorem b3c {P:n9} {S:Nat→Bool} {c:Nat→Int} {C:Int} {i:Nat} (hC:0≤C) (h:∀b∈P.fs,0≤c b∧c b≤C):0≤P.at_ S c i∧P.at_ S c i≤C*P.fs.length:=by
 unfold n9.at_;generalize P.fs=l at h ⊢
 induction l with
 |nil=>simp[sm]
 |cons b l ih=>
  have h1:=h b (by simp);have h2:=ih fun b hb=>h b (by simp[hb]);rw[sm,List.length_cons,Int.natCast_add,Int.mul_add]
  split<;>omega
theorem b3x (f:Nat→Nat→Int) (x y R:Option k8) {n:Nat} (h1:1≤n):frz (Hxn (l7 (x::y::some (.els 1 (B7 4 n n))::R::m7 f n n)) [some 0,some 1]) 3 (.row 2 0 n)=mL (b4r f n n):=by
 refine a8O (es:=B7 4 n n) h1 ?_ (by simp) (I5 _ _).len fun i hi=>?_
 ·rw[a7w _ (by omega)];rfl
 ·refine⟨i+4,_,u6 hi,a1u hi,?_,by simp⟩;rw[a7w _ (by omega)];show l7 (m7 f n n) i=_;rw[n7 hi];unfold Y2;rw[List.map_map];rfl
theorem c1c (x y z:Option k8) (M:Hp) (bl:List Int) {n:Nat} (hl:bl.length=n) (h1:1≤n):frz (Hxn (l7 (x::y::z::some (.els 1 (bl.map i4))::M)) [some 0,some 1]) 3 (.row 3 0 n)=iL bl:=by
 refine b1e (l:=bl) ?_ hl h1;rw[a7w _ (by omega)];rfl
theorem b9g (g:Gr) (s:Sta) (p:List Nat) (us:Kvs) (fs:List Int) (hfs:fs=m9 g s (upN p)) (hnt:o8 g s) (hpt:b1X g s p) (hI:a0R us) (hus:∀x,-40≤igt us x∧igt us x≤40) (v:List Int) (d:Int) (ok:Bool) (i0:Nat) (hi0:p.getD 0 0=i0)
  (q0:fs=[]→v=a0Q p.length∧d=1∧ok=a0c us p)
  (q1:fs≠[]→E9 us p<0→v=[]∧d=0∧ok=false)
  (q2:fs≠[]→E9 us p=0→c0W (Pt g (onW g.Wires s.Wires) us p fs fs.length) i0∧d=(Pt g (onW g.Wires s.Wires) us p fs fs.length).den0 i0∧ok=true∧
   v=p.map fun k=>(Pt g (onW g.Wires s.Wires) us p fs fs.length).num0 i0 k+F0 ((Pt g (onW g.Wires s.Wires) us p fs fs.length).V 0*(Pt g (onW g.Wires s.Wires) us p fs fs.length).den0 i0-(Pt g (onW g.Wires s.Wires) us p fs fs.length).num0 i0 ((Pt g (onW g.Wires s.Wires) us p fs fs.length).p 0)) ((List.range fs.length).map fun b=>(Pt g (onW g.Wires s.Wires) us p fs fs.length).V b*(Pt g (onW g.Wires s.Wires) us p fs fs.length).den0 i0-(Pt g (onW g.Wires s.Wires) us p fs fs.length).num0 i0 ((Pt g (onW g.Wires s.Wires) us p fs fs.length).p b)))
  (q3:fs≠[]→0<E9 us p→(∀a,1≤a→a<2^fs.length→Sml (Pt g (onW g.Wires s.Wires) us p fs fs.length) (s7 a))∧ok=true∧∃a0,1≤a0∧a0<2^fs.length∧b4n (Pt g (onW g.Wires s.Wires) us p fs fs.length) fs.length a0=true∧(∀a,1≤a→a<a0→b4n (Pt g (onW g.Wires s.Wires) us p fs fs.length) fs.length a=false)∧
   d=(Pt g (onW g.Wires s.Wires) us p fs fs.length).den (s7 a0)∧v=p.map fun k=>(Pt g (onW g.Wires s.Wires) us p fs fs.length).num (s7 a0) k):
  d4 Try.prog 69 [net g s,iL (upN p), .mpc false [.i .i64] us] (.tup [iL v,I d,Bo ok]):=by
 have hpl:=o9 p;have hb:=r6 hnt.gr;have hn10:=hpt.n10;have hfd:=a4h g s (upN p) hnt.sf (by omega) (by omega);rw[←hfs]at hfd;have hfm:∀f∈fs,0≤f∧f<g.Feeds.length∧(fdI g f).At.toNat∈p∧bAt s.Feeds f.toNat=true:=fun f hf=>X2 (by rw[←hfs];exact hf);have hfl:fs.length≤12:=by
  have:=List.length_filter_le (a1D g s (upN p)) (upI g.Feeds.length);rw[I6]at this;rw[hfs];unfold m9;omega
 have heq:=a8l g s p us p.length rfl hpt.n1 hpt.n10 hpt.nd hI hus hnt.sw hb.2.2.1 hnt.wires hpt.cl;refine d4.of_bodyG Try.func69 rfl (by decide) (by simp[Try.ntmps69]) ?_;intro J hJ;simp only[Try.ntmps69,Try.results69];refine gS fun K hK=>?_;simp -dsimp;apply hK;clear hK K;refine gS fun K hK=>?_;simp -dsimp;apply hK;clear hK K;refine b6 fun K1 hK1=>?_;refine gS fun K hK=>?_;simp -dsimp;apply hK;clear hK K;refine d5 ?_;refine b5 [2,3,4,9,10,36,37,38] (Or.inr (by simp)) ?_;simp only[zP,Nat.reduceEqDiff,reduceIte];refine f5 [2,3,4,36,37] (α:=Nat) (fun k=>[(9,I (E9 us (p.take k))),(10,Bo (a0c us (p.take k))),(38,I k)]) (fun k=>[some (.els 1 [[net g s]]),some (.els 1 [[iL (upN p)]])]) (fun k=>k≤p.length) (fun k=>p.length-k) 0 ?_ ?_ ?_
 ·exact Nat.zero_le _
 ·exact l9 (i7 (by simp[E9,a0c,sm])) (by simp)
 rintro k k1;simp only[zP,Nat.reduceEqDiff,reduceIte];refine gS fun K hK=>?_;simp -dsimp;apply hK;clear hK K;refine b6 fun K2 hK2=>?_;refine d6 rfl (fun hc0=>?_) (fun hc0=>?_)
 ·skip
  try simp at hc0
  have hkn:k<p.length:=by rw[←hpl];simpa using hc0
  obtain⟨x,hx⟩:∃x,p[k]?=some x:=⟨_,List.getElem?_eq_getElem hkn⟩;have gx:=B8 hx;have wk:=zW k (by omega);have hbd:=a5d hus (p.take k);have htl:(p.take k).length=k:=by rw[List.length_take];omega
  rw[htl]at hbd;have ws:IntKind.i64.wrap (E9 us (p.take k)+igt us x)=E9 us (p.take k)+igt us x:=f6 (by have:=hus x;omega) (by have:=hus x;omega);refine d7 ?_;simp only[zT,reduceIte,Nat.reduceEqDiff];refine hK2 _ _ ?_;refine b5 [2,3,4,9,10,36,37,38] (Or.inr (by simp)) ?_;simp only[zP,Nat.reduceEqDiff,reduceIte];refine b6 fun K3 hK3=>?_;refine d5 ?_;refine gS fun K hK=>?_;simp -dsimp [gx];apply hK;clear hK K;refine gS fun K hK=>?_;simp -dsimp [p6 hI,ws];refine o3 (_) (fun hm=>rfl) ?_;simp -dsimp [p6 hI,ws];apply hK;clear hK K;refine gR fun K hK=>?_;simp -dsimp [p6 hI];refine o3 (_) (fun hm=>rfl) ?_;simp -dsimp [p6 hI];apply hK;clear hK K;simp only[zT,reduceIte,Nat.reduceEqDiff];refine hK3 _ _ ?_;refine b5 [2,3,4,9,10,36,37,38] (Or.inr (by simp)) ?_;simp only[zP,Nat.reduceEqDiff,reduceIte];refine gR fun K hK=>?_;simp -dsimp [wk];apply hK;clear hK K;simp only[zT,reduceIte,Nat.reduceEqDiff];exact⟨k+1,by omega,by omega,l9 (d8 [some 0,some 1] rfl (by simp[a1V hx,a3A hx]) (by simp)) (by simp)⟩
 ·skip
  try simp at hc0
  have hkp:¬k<p.length:=by rw[←hpl];simpa using hc0
  have htp:p.take k=p:=List.take_of_length_le (by omega);rw[htp];refine f8 ?_;simp only[zT,reduceIte,Nat.reduceEqDiff];refine hK1 _ _ ?_;refine b5 [2,3,4,9,10] (Or.inr (by simp)) ?_;simp only[zP,Nat.reduceEqDiff,reduceIte];refine gS fun K hK=>?_;simp -dsimp;refine b0m _ (fun hm=>hfd) ?_;simp -dsimp;apply hK;clear hK K;refine gS fun K hK=>?_;simp -dsimp;apply hK;clear hK K;refine b6 fun K4 hK4=>?_;refine d5 ?_;refine gS fun K hK=>?_;simp -dsimp;apply hK;clear hK K;refine d6 rfl (fun hc1=>?_) (fun hc1=>?_)
  ·skip
   try simp at hc1
   have hf0:fs=[]:=hc1;have f9:D8 (upN p).length 9:=j7 (by omega) (by omega);obtain⟨e1,e2,e3⟩:=q0 hf0;refine gS fun K hK=>?_;simp -dsimp [f9];apply hK;clear hK K;exact i5 (by simp[e1,e2,e3,a0Q,hpl,y3,m6])
  ·skip
   try simp at hc1
   have hf0:fs≠[]:=by rintro rfl;simp at hc1
   have hml:1≤fs.length:=by cases fs with|nil=>exact absurd rfl hf0|cons a l=>simp
   refine gS fun K hK=>?_;simp -dsimp;apply hK;clear hK K;refine d6 rfl (fun hc2=>?_) (fun hc2=>?_)
   ·skip
    try simp at hc2
    obtain⟨e1,e2,e3⟩:=q1 hf0 hc2;refine gS fun K hK=>?_;simp -dsimp;apply hK;clear hK K;refine o5 (l9 (z7 6 1 (by simp)) (by simp)) ?_;exact i5 (by simp[e1,e2,e3,y3,m6])
   ·skip
    try simp at hc2
    refine gS fun K hK=>?_;simp -dsimp;apply hK;clear hK K;refine d6 rfl (fun hc3=>?_) (fun hc3=>?_)
    ·skip
     try simp at hc3
     obtain⟨⟨z1,z2,z3⟩,e2,e3,e1⟩:=q2 hf0 (by simpa using hc3);have hp0:0<p.length:=by have:=hpt.n1;omega
     have f9:D8 p.length 9:=j7 (by omega) (by omega);have gr0:(rgt us p)[0]?=some (-igt us (p.getD 0 0)):=by unfold rgt;rw[List.getElem?_map,F1 hp0];rfl
     have hsol:=a9h (eqM ((Pt g (onW g.Wires s.Wires) us p fs fs.length).A0 i0) p) (p.map ((Pt g (onW g.Wires s.Wires) us p fs fs.length).b0 i0)) p.length (I5 _ _) hpt.n1 hpt.n10 (by simp);have hv0:(p.map fun k=>wr (num ((Pt g (onW g.Wires s.Wires) us p fs fs.length).A0 i0) ((Pt g (onW g.Wires s.Wires) us p fs fs.length).b0 i0) p k))=p.map fun k=>(Pt g (onW g.Wires s.Wires) us p fs fs.length).num0 i0 k:=List.map_congr_left fun k _=>a6h (by have:=z1 k;unfold n9.num0 at this;show _≤Cur.num _ _ (Pt g (onW g.Wires s.Wires) us p fs fs.length).ns k;omega) (by have:=z1 k;unfold n9.num0 at this;show Cur.num _ _ (Pt g (onW g.Wires s.Wires) us p fs fs.length).ns k≤_;omega);have hd0:wr (D ((Pt g (onW g.Wires s.Wires) us p fs fs.length).A0 i0) p)=(Pt g (onW g.Wires s.Wires) us p fs fs.length).den0 i0:=a6h (by unfold n9.den0 at z2;show _≤D _ (Pt g (onW g.Wires s.Wires) us p fs fs.length).ns;omega) (by unfold n9.den0 at z3;show D _ (Pt g (onW g.Wires s.Wires) us p fs fs.length).ns≤_;omega);rw[a4w _ _ _ hpt.nd,a4v,hv0,hd0]at hsol;have hbl:=b6S us p (lw (onW g.Wires s.Wires)) (List.range fs.length) (fun b=>(U6 g fs b).At.toNat) (fun b=>(U6 g fs b).Siem) (fun b=>(U6 g fs b).Volts) i0 hi0 hpt.n1 hpt.nd;obtain⟨bl,hbl2⟩:∃bl,bl=p.map ((Pt g (onW g.Wires s.Wires) us p fs fs.length).b0 i0):=⟨_,rfl⟩;obtain⟨M,hM⟩:∃M,M=eqM ((Pt g (onW g.Wires s.Wires) us p fs fs.length).A0 i0) p:=⟨_,rfl⟩;have hbl3:(rgt us p).set 0 0=bl:=by rw[hbl2];exact hbl
     rw[←hbl2,←hM]at hsol;have hzl:∀k x,p[k]?=some x→(p.map fun k=>(Pt g (onW g.Wires s.Wires) us p fs fs.length).num0 i0 k)[k]?=some ((Pt g (onW g.Wires s.Wires) us p fs fs.length).num0 i0 x):=fun k x h=>by rw[List.getElem?_map,h];rfl
     obtain⟨nu,hnu⟩:∃nu,nu=fun k=>(Pt g (onW g.Wires s.Wires) us p fs fs.length).num0 i0 k:=⟨_,rfl⟩;rw[←hnu]at hsol hzl;obtain⟨nl,hnl⟩:∃nl,nl=p.map nu:=⟨_,rfl⟩;rw[←hnl]at hsol hzl;have hfa:=fun b (hb:b<fs.length)=>C8 hnt hfs hb;obtain⟨d0,hd00⟩:∃d0,d0=(Pt g (onW g.Wires s.Wires) us p fs fs.length).den0 i0:=⟨_,rfl⟩;rw[←hd00]at hsol z2 z3 e2 e1;have hnk:∀k,(Pt g (onW g.Wires s.Wires) us p fs fs.length).num0 i0 k=nu k:=fun k=>by rw[hnu]
     simp only[hnk]at e1 z1 hzl;have hnb:∀k,-1000000000000000≤nu k∧nu k≤1000000000000000:=z1;have hPV:∀(b:Nat),(Pt g (onW g.Wires s.Wires) us p fs fs.length).V b=(fdI g (at0 fs b)).Volts:=fun b=>rfl;have hPp:∀(b:Nat),(Pt g (onW g.Wires s.Wires) us p fs fs.length).p b=(fdI g (at0 fs b)).At.toNat:=fun b=>rfl;simp only[hPV,hPp]at e1;have hvd:∀(b:Nat),b<fs.length→ -100000000000000000≤(fdI g (at0 fs b)).Volts*d0∧(fdI g (at0 fs b)).Volts*d0≤100000000000000000:=fun b hb=>by
      have h:=hfa b hb;have h1:=Int.mul_nonneg (show 0≤(fdI g (at0 fs b)).Volts by omega) (show 0≤d0 by omega);have h2:=Int.mul_le_mul h.2.2.2.2.2.2.2.1 z3 (by omega) (by omega);omega
     have hw1:∀(b:Nat),b<fs.length→IntKind.i64.wrap ((fdI g (at0 fs b)).Volts*d0)=(fdI g (at0 fs b)).Volts*d0:=fun b hb=>f6 (by have:=hvd b hb;omega) (by have:=hvd b hb;omega);have hw2:∀(b:Nat),b<fs.length→IntKind.i64.wrap ((fdI g (at0 fs b)).Volts*d0-nu (fdI g (at0 fs b)).At.toNat)=(fdI g (at0 fs b)).Volts*d0-nu (fdI g (at0 fs b)).At.toNat:=fun b hb=>f6 (by have:=hvd b hb;have:=hnb (fdI g (at0 fs b)).At.toNat;omega) (by have:=hvd b hb;have:=hnb (fdI g (at0 fs b)).At.toNat;omega);have hwh:=fun b (hb:b<fs.length)=>b2j g s p (at0 fs b) (by omega) (hfa b hb).2.1 (hfa b hb).2.2.1 (hfa b hb).2.2.2.2.1 (hfa b hb).2.2.2.2.2.1;have hzp:=fun b (hb:b<fs.length)=>hzl _ _ (s6 (hfa b hb).2.2.2.2.2.1);have hpi:=fun b (hb:b<fs.length)=>List.idxOf_lt_length_of_mem (hfa b hb).2.2.2.2.2.1;have hnll:nl.length=p.length:=by rw[hnl];simp
     clear hnk hnu hd00;have a0:=hfa 0 hml;have a1:=hw1 0 hml;have a2:=hw2 0 hml;have a3:=hpi 0 hml;have a4:=hzp 0 hml;have a5:=hwh 0 hml;simp only[Int.natCast_zero]at a0 a1 a2 a3 a4 a5;obtain⟨xs,hxs⟩:∃xs:List Int,xs=(List.range fs.length).map fun(b:Nat)=>(fdI g (at0 fs b)).Volts*d0-nu (fdI g (at0 fs b)).At.toNat:=⟨_,rfl⟩;obtain⟨x0,hx0⟩:∃x0,x0=(fdI g (at0 fs 0)).Volts*d0-nu (fdI g (at0 fs 0)).At.toNat:=⟨_,rfl⟩;rw[←hxs]at e1;have hx0':(fdI g (at0 fs ((0:Nat):Int))).Volts*d0-nu (fdI g (at0 fs ((0:Nat):Int))).At.toNat=x0:=hx0.symm;have hxg:∀(b:Nat),b<fs.length→xs[b]?=some ((fdI g (at0 fs b)).Volts*d0-nu (fdI g (at0 fs b)).At.toNat):=fun b hb=>by rw[hxs,List.getElem?_map,List.getElem?_range hb];rfl
     have hxb:∀x∈xs,-200000000000000000≤x∧x≤200000000000000000:=fun x hx=>by
      rw[hxs]at hx;obtain⟨b,hb,rfl⟩:=List.mem_map.1 hx;have:=hvd b (List.mem_range.1 hb);have:=hnb (fdI g (at0 fs b)).At.toNat;omega
     have hx0b:-200000000000000000≤x0∧x0≤200000000000000000:=by rw[hx0];have:=hvd 0 hml;have:=hnb (fdI g (at0 fs 0)).At.toNat;simp only[Int.natCast_zero]at*;omega
     have hxl:xs.length=fs.length:=by rw[hxs];simp
     refine gS fun K hK=>?_;simp -dsimp;refine a5Q heq (by simp) (fun g=>by simp) ?_;simp -dsimp;apply hK;clear hK K;refine gS fun K hK=>?_;simp -dsimp [f9,hp0,u6 hp0,gr0,hpl,Nat.add_assoc];apply hK;clear hK K;refine gS fun K hK=>?_;simp -dsimp [hp0,u6 hp0,gr0,hpl,Nat.add_assoc];apply hK;clear hK K;refine o5 (l9 (B9 (T':=[(3, .ptr 0 0 0),(4, .ptr 1 0 0),(13,iL fs),(14, .clo 86 [.ptr 1 0 0, .ptr 0 0 0]),(15,mL M),(16,iL bl)]) (H':=[some (.els 1 [[net g s]]),some (.els 1 [[iL (upN p)]])]) [some 0,some 1] rfl ⟨.inr (by simp), .inr (by simp), .inr (by simp), .inr (by simp), .inr ?_, .inr ?_,trivial⟩ (by simp)) (by simp)) ?_
     ·rw[hM];exact b8H _ _ p _ _ _ _ _ _ _ i0 hi0 hpt.n1 hpt.nd
     ·exact b6X _ _ _ _ (rgt us p) bl hbl3 (by rw[←hbl3];simp[rgt]) hpt.n1
     ·refine gS fun K hK=>?_;simp -dsimp;refine i8 [] [] [none,none,some 0] (hsol) (by decide) rfl (by simp) (by simp) rfl (by simp) ?_;simp -dsimp;apply hK;clear hK K;refine q9 k7 rfl (by decide) rfl rfl fun K hK=>?_;simp -dsimp [a0.1,a0.2.1,a0.2.2.2.1,a1,a2,a3,a4];refine b8 _ (a5) (by simp) ?_;simp -dsimp [a0.1,a0.2.1,a0.2.2.2.1,a1,a2,a3,a4];refine hK _ _ _ (by decide+kernel) ?_;clear hK K;refine b6 fun K5 hK5=>?_;refine gS fun K hK=>?_;simp -dsimp;apply hK;clear hK K;refine d5 ?_;refine b5 [3,14,17,18,19,119,120,121] (Or.inr (by simp)) ?_;simp only[zP,Nat.reduceEqDiff,reduceIte];refine f5 [3,14,17,18,119,120] (α:=Nat) (fun b=>[(19,I (F0 x0 (xs.take b))),(121,I b)]) (fun b=>[some (.els 1 [[net g s]]),some (.els 1 [[iL (upN p)]]),some (.els 1 (nl.map i4))]) (fun b=>b≤fs.length) (fun b=>fs.length-b) 0 ?_ ?_ ?_
      ·exact Nat.zero_le _
      ·refine l9 (d8 [some 0,some 1,some 2] rfl ?_ (by simp)) (by simp);simp[F0,hx0]
      rintro b b1;simp only[zP,Nat.reduceEqDiff,reduceIte];refine gS fun K hK=>?_;simp -dsimp;apply hK;clear hK K;refine b6 fun K6 hK6=>?_;refine d6 rfl (fun hc4=>?_) (fun hc4=>?_)
      ·have hbl:b<fs.length:=by simpa using hc4
       have wb:=zW b (by omega);refine d7 ?_;simp only[zT,reduceIte,Nat.reduceEqDiff];refine hK6 _ _ ?_;refine b5 [3,14,17,18,19,119,120,121] (Or.inr (by simp)) ?_;simp only[zP,Nat.reduceEqDiff,reduceIte];refine b6 fun K7 hK7=>?_;refine d5 ?_;refine gS fun K hK=>?_;simp -dsimp [(hfa b hbl).1];apply hK;clear hK K;refine o4 k7 rfl (by decide) rfl rfl fun K hK=>?_;simp -dsimp [(hfa b hbl).1,(hfa b hbl).2.1,(hfa b hbl).2.2.2.1,hw1 b hbl,hw2 b hbl,hpi b hbl,hzp b hbl];refine b8 _ (hwh b hbl) (by simp) ?_;simp -dsimp [(hfa b hbl).1,(hfa b hbl).2.1,(hfa b hbl).2.2.2.1,hw1 b hbl,hw2 b hbl,hpi b hbl,hzp b hbl];refine hK _ _ _ (by decide+kernel) ?_;clear hK K;simp only[zT,reduceIte,Nat.reduceEqDiff];refine hK7 _ _ ?_;refine b5 [3,14,17,18,19,119,120,121] (Or.inr (by simp)) ?_;simp only[zP,Nat.reduceEqDiff,reduceIte];refine gR fun K hK=>?_;simp -dsimp [wb];apply hK;clear hK K;simp only[zT,reduceIte,Nat.reduceEqDiff];exact⟨b+1,by omega,by omega,l9 (d8 [some 0,some 1,some 2] rfl (by simp[T9 (hxg b hbl),a9C]) (by simp)) (by simp)⟩
      ·have hbl:¬b<fs.length:=by simpa using hc4
       have htx:xs.take b=xs:=List.take_of_length_le (by omega);rw[htx];have hsb:=O7 xs x0 hx0b hxb;generalize hsh:F0 x0 xs=sh at hsb ⊢;refine f8 ?_;simp only[zT,reduceIte,Nat.reduceEqDiff];refine hK5 _ _ ?_;refine b5 [17,18,19] (Or.inr (by simp)) ?_;simp only[zP,Nat.reduceEqDiff,reduceIte];refine b6 fun K8 hK8=>?_;refine gS fun K hK=>?_;simp -dsimp;apply hK;clear hK K;refine d5 ?_;refine b5 [17,18,19,147,148] (Or.inr (by simp)) ?_;simp only[zP,Nat.reduceEqDiff,reduceIte];refine f5 [17,18,19,147] (α:=Nat) (fun i=>[(148,I i)]) (fun i=>[some (.els 1 [[net g s]]),some (.els 1 [[iL (upN p)]]),some (.els 1 ((shl nl sh i).map i4))]) (fun i=>i≤p.length) (fun i=>p.length-i) 0 ?_ ?_ ?_
       ·exact Nat.zero_le _
       ·refine l9 (d8 [some 0,some 1,some 2] rfl (by simp) (by simp[a9g])) (by simp)
       rintro i i1;simp only[zP,Nat.reduceEqDiff,reduceIte];refine gS fun K hK=>?_;simp -dsimp;apply hK;clear hK K;refine b6 fun K9 hK9=>?_;refine d6 rfl (fun hc5=>?_) (fun hc5=>?_)
       ·have hin:i<p.length:=by simpa using hc5
        have wi:=zW i (by omega);obtain⟨x,hx⟩:∃x,nl[i]?=some x:=⟨_,List.getElem?_eq_getElem (by omega)⟩;have hxn:-1000000000000000≤x∧x≤1000000000000000:=by
         rw[hnl,List.getElem?_map]at hx;obtain⟨y,_,rfl⟩:=Option.map_eq_some_iff.1 hx;exact hnb y
        have gsh:=b2G (sh:=sh) hx;have wx:IntKind.i64.wrap (x+sh)=x+sh:=f6 (by omega) (by omega);have hst:=b2L (sh:=sh) hx;refine d7 ?_;simp only[zT,reduceIte,Nat.reduceEqDiff];refine hK9 _ _ ?_;refine b5 [17,18,19,147,148] (Or.inr (by simp)) ?_;simp only[zP,Nat.reduceEqDiff,reduceIte];refine b6 fun K10 hK10=>?_;refine d5 ?_;refine gS fun K hK=>?_;simp -dsimp;apply hK;clear hK K;refine gR fun K hK=>?_;simp -dsimp [hin,gsh,wx];apply hK;clear hK K;simp only[zT,reduceIte,Nat.reduceEqDiff];refine hK10 _ _ ?_;refine b5 [17,18,19,147,148] (Or.inr (by simp)) ?_;simp only[zP,Nat.reduceEqDiff,reduceIte];refine gR fun K hK=>?_;simp -dsimp [wi];apply hK;clear hK K;simp only[zT,reduceIte,Nat.reduceEqDiff];exact⟨i+1,by omega,by omega,l9 (d8 [some 0,some 1,some 2] rfl (by simp) (by simp[←hst,List.map_set])) (by simp)⟩
       ·have hin0:¬i<p.length:=by simpa using hc5
        have hin:i=p.length:=by omega
        refine f8 ?_;simp only[zT,reduceIte,Nat.reduceEqDiff];refine hK8 _ _ ?_;refine b5 [17,18] (Or.inr (by simp)) ?_;simp only[zP,Nat.reduceEqDiff,reduceIte];refine gS fun K hK=>?_;simp -dsimp;apply hK;clear hK K;have hsl:shl nl sh p.length=v:=by
         rw[b3R hnll,e1,hnl,List.map_map,hx0',hsh];rfl
        have hvl:v.length=p.length:=by rw[←hsl,b2v,hnll]
        rw[hin,hsl];exact i5 (by simp[e2,e3,y3,m6,←hvl])
    ·skip
     try simp at hc3
     have hsp:0<E9 us p:=by omega
     obtain⟨hsm,e3,a0,ha1,ha2,haf,hal,e2,e1⟩:=q3 hf0 hsp;have hfa:=fun b (hb:b<fs.length)=>C8 hnt hfs hb;have hwh:=fun b (hb:b<fs.length)=>b2j g s p (at0 fs b) (by omega) (hfa b hb).2.1 (hfa b hb).2.2.1 (hfa b hb).2.2.2.2.1 (hfa b hb).2.2.2.2.2.1;have hpi:=fun b (hb:b<fs.length)=>List.idxOf_lt_length_of_mem (hfa b hb).2.2.2.2.2.1;have hm64:fs.length≤IntKind.i64.bits:=Nat.le_trans (show fs.length≤12 by omega) (by decide);have hsh:IntKind.i64.wrap (2^fs.length)=2^fs.length:=by have:=b9s fs.length (by omega);rw[Int.toNat_natCast,Int.one_mul,Int.natCast_pow]at this;exact this
     have hpow:2^fs.length≤2^12:=Nat.pow_le_pow_right (by omega) hfl;refine d7 ?_;simp only[zT,reduceIte,Nat.reduceEqDiff];refine hK4 _ _ ?_;refine b5 [2,3,4,13,14] (Or.inr (by simp)) ?_;simp only[zP,Nat.reduceEqDiff,reduceIte];refine b6 fun K11 hK11=>?_;refine gS fun K hK=>?_;simp -dsimp [hm64,hsh];apply hK;clear hK K;refine d5 ?_;refine b5 [2,3,4,13,14,163,164] (Or.inr (by simp)) ?_;simp only[zP,Nat.reduceEqDiff,reduceIte];refine f5 [2,3,4,13,14,163] (α:=Nat) (fun a=>[(164,I a)]) (fun a=>[some (.els 1 [[net g s]]),some (.els 1 [[iL (upN p)]])]) (fun a=>a≤a0) (fun a=>2^fs.length-a) 0 ?_ ?_ ?_
     ·exact Nat.zero_le _
     ·exact l9 (i7 (by simp)) (by simp)
     rintro a a1;simp only[zP,Nat.reduceEqDiff,reduceIte];refine gS fun K hK=>?_;simp -dsimp;apply hK;clear hK K;refine b6 fun K12 hK12=>?_;refine d6 rfl (fun hc6=>?_) (fun hc6=>?_)
     ·have hal2:a<2^fs.length:=by omega
      have wa:=zW a (by omega);refine d7 ?_;simp only[zT,reduceIte,Nat.reduceEqDiff];refine hK12 _ _ ?_;refine b5 [2,3,4,13,14,163,164] (Or.inr (by simp)) ?_;simp only[zP,Nat.reduceEqDiff,reduceIte];refine b6 fun K13 hK13=>?_;refine d5 ?_;refine gS fun K hK=>?_;simp -dsimp;apply hK;clear hK K;refine b6 fun K14 hK14=>?_;refine gS fun K hK=>?_;simp -dsimp;apply hK;clear hK K;refine d6 rfl (fun hc7=>?_) (fun hc7=>?_)
      ·skip
       try simp at hc7
       refine f8 ?_;simp only[zT,reduceIte,Nat.reduceEqDiff];refine hK13 _ _ ?_;refine b5 [2,3,4,13,14,163,164] (Or.inr (by simp)) ?_;simp only[zP,Nat.reduceEqDiff,reduceIte];refine gR fun K hK=>?_;simp -dsimp [wa];apply hK;clear hK K;simp only[zT,reduceIte,Nat.reduceEqDiff];exact⟨a+1,by omega,by omega,l9 (d8 [some 0,some 1] rfl (by simp) (by simp)) (by simp)⟩
      ·skip
       try simp at hc7
       refine d7 ?_;simp only[zT,reduceIte,Nat.reduceEqDiff];refine hK14 _ _ ?_;refine b5 [2,3,4,13,14,23,163,164] (Or.inr (by simp)) ?_;simp only[zP,Nat.reduceEqDiff,reduceIte];refine gS fun K hK=>?_;simp -dsimp;refine a5Q heq (by simp) (fun g=>by simp) ?_;simp -dsimp;apply hK;clear hK K;refine b6 fun K15 hK15=>?_;refine gS fun K hK=>?_;simp -dsimp;apply hK;clear hK K;refine d5 ?_;refine b5 [2,3,4,13,14,23,24,25,163,164,176,177,178] (Or.inr (by simp)) ?_;simp only[zP,Nat.reduceEqDiff,reduceIte];refine f5 [2,3,4,13,14,23,24,25,163,164,176,177] (α:=Nat) (fun t=>[(178,I t)]) (fun t=>[some (.els 1 [[net g s]]),some (.els 1 [[iL (upN p)]]),some (.els 1 (B7 4 p.length p.length)),some (.els 1 ((RfL g (onW g.Wires s.Wires) us p fs t a).map i4))]++m7 (Af g (onW g.Wires s.Wires) us p fs t a) p.length p.length) (fun t=>t≤fs.length) (fun t=>fs.length-t) 0 ?_ ?_ ?_
       ·exact Nat.zero_le _
       ·rw[b3s,b2S];exact l9 (i7 (by simp)) (by simp)
       rintro t t1;simp only[zP,Nat.reduceEqDiff,reduceIte];refine gS fun K hK=>?_;simp -dsimp;apply hK;clear hK K;refine b6 fun K16 hK16=>?_;refine d6 rfl (fun hc8=>?_) (fun hc8=>?_)
       ·have htl:t<fs.length:=by simpa using hc8
        have wt:=zW t (by omega);have hbit:bits .and .i64 ((a:Int)/2^t) 1=if a.testBit t then 1 else 0:=by have:=T2 a t (by omega);rwa [Int.toNat_natCast]at this
        have ht64:t≤IntKind.i64.bits:=Nat.le_trans (show t≤12 by omega) (by decide);refine d7 ?_;simp only[zT,reduceIte,Nat.reduceEqDiff];refine hK16 _ _ ?_;refine b5 [2,3,4,13,14,23,24,25,163,164,176,177,178] (Or.inr (by simp)) ?_;simp only[zP,Nat.reduceEqDiff,reduceIte];refine b6 fun K17 hK17=>?_;refine d5 ?_;refine gS fun K hK=>?_;simp -dsimp [(hfa t htl).1];apply hK;clear hK K;refine gS fun K hK=>?_;simp -dsimp [hbit,ht64];apply hK;clear hK K;refine d6 rfl (fun hc9=>?_) (fun hc9=>?_)
        ·have hbt:a.testBit t=true:=by cases h:a.testBit t with|true=>rfl|false=>rw[h]at hc9;simp at hc9
         obtain⟨k,hk⟩:∃k,k=p.idxOf (fdI g (at0 fs t)).At.toNat:=⟨_,rfl⟩;have hkl:k<p.length:=by rw[hk];exact hpi t htl
         have hkl1:k≤p.length+1:=by omega
         have hkg:p[k]?=some (fdI g (at0 fs t)).At.toNat:=by rw[hk];exact s6 (hfa t htl).2.2.2.2.2.1
         have hat:p.getD k 0=(U6 g fs t).At.toNat:=by rw[F1 hkl]at hkg;exact Option.some.inj hkg
         have hAe:=c0Y g (onW g.Wires s.Wires) us p fs hpt.nd hbt hkl hat;have hRe:=c0I g (onW g.Wires s.Wires) us p fs hpt.nd hbt hkl hat;have hfdo:U6 g fs t=fdI g (at0 fs t):=rfl;rw[hfdo]at hAe hRe;have hab:(Af g (onW g.Wires s.Wires) us p fs t a k k).natAbs≤400:=by
          have hb1:=b3c (P:=Pt g (onW g.Wires s.Wires) us p fs t) (S:=s7 a) (c:=(Pt g (onW g.Wires s.Wires) us p fs t).s) (C:=4) (i:=p.getD k 0) (by omega) (fun b hb=>by
           have:=hfa b (by have:=List.mem_range.1 hb;omega);show 0≤(fdI g (at0 fs b)).Siem∧(fdI g (at0 fs b)).Siem≤4;omega)
          have hb2:(Pt g (onW g.Wires s.Wires) us p fs t).fs.length=t:=List.length_range;rw[hb2]at hb1;have hb3:(lw (onW g.Wires s.Wires) (p.getD k 0) (p.getD k 0)).natAbs≤320:=Nat.le_trans (a6k fun x hx=>by
           obtain⟨w',hw',e⟩:=Y9 hx;have:=hnt.wires w' hw';simp only[wrB,Bool.and_eq_true,u5]at this;rw[e];simp only;omega) (by have:=a4f g.Wires s.Wires;omega)
          unfold Af n9.A;rw[if_pos rfl];show(lw _ _ _+_).natAbs≤400;omega
         have hrb:(Rf g (onW g.Wires s.Wires) us p fs t a k).natAbs≤50000:=by
          have hb1:=b3c (P:=Pt g (onW g.Wires s.Wires) us p fs t) (S:=s7 a) (c:=fun b=>(Pt g (onW g.Wires s.Wires) us p fs t).s b*(Pt g (onW g.Wires s.Wires) us p fs t).V b) (C:=4000) (i:=p.getD k 0) (by omega) (fun b hb=>by
           have h:=hfa b (by have:=List.mem_range.1 hb;omega);show 0≤(fdI g (at0 fs b)).Siem*(fdI g (at0 fs b)).Volts∧(fdI g (at0 fs b)).Siem*(fdI g (at0 fs b)).Volts≤4000;exact⟨Int.mul_nonneg (by omega) (by omega),Int.mul_le_mul h.2.2.2.2.2.2.2.2.2 h.2.2.2.2.2.2.2.1 (by omega) (by omega)⟩)
          have hb2:(Pt g (onW g.Wires s.Wires) us p fs t).fs.length=t:=List.length_range;rw[hb2]at hb1;have hb3:=hus (p.getD k 0);unfold Rf n9.b;show(-igt us _+_).natAbs≤50000;omega
         have hsv:0≤(fdI g (at0 fs t)).Siem*(fdI g (at0 fs t)).Volts∧(fdI g (at0 fs t)).Siem*(fdI g (at0 fs t)).Volts≤4000:=by
          have h:=hfa t htl;exact⟨Int.mul_nonneg (by omega) (by omega),Int.mul_le_mul h.2.2.2.2.2.2.2.2.2 h.2.2.2.2.2.2.2.1 (by omega) (by omega)⟩
         have w1:IntKind.i64.wrap (Af g (onW g.Wires s.Wires) us p fs t a k k+(fdI g (at0 fs t)).Siem)=Af g (onW g.Wires s.Wires) us p fs t a k k+(fdI g (at0 fs t)).Siem:=f6 (by have:=hfa t htl;omega) (by have:=hfa t htl;omega);have w2:IntKind.i64.wrap ((fdI g (at0 fs t)).Siem*(fdI g (at0 fs t)).Volts)=(fdI g (at0 fs t)).Siem*(fdI g (at0 fs t)).Volts:=f6 (by omega) (by omega);have w3:IntKind.i64.wrap (Rf g (onW g.Wires s.Wires) us p fs t a k+(fdI g (at0 fs t)).Siem*(fdI g (at0 fs t)).Volts)=Rf g (onW g.Wires s.Wires) us p fs t a k+(fdI g (at0 fs t)).Siem*(fdI g (at0 fs t)).Volts:=f6 (by omega) (by omega);have grk:=b2D g (onW g.Wires s.Wires) us p fs (t:=t) (a:=a) hkl;have hwk:=hwh t htl;rw[←hk]at hwk;generalize Af g (onW g.Wires s.Wires) us p fs t a=f at w1 hAe ⊢;generalize Rf g (onW g.Wires s.Wires) us p fs t a k=rk at w3 grk hRe;generalize RfL g (onW g.Wires s.Wires) us p fs t a=rl at grk hRe ⊢;refine q9 k7 rfl (by decide) rfl rfl fun K hK=>?_;simp -dsimp [(hfa t htl).1,(hfa t htl).2.1,(hfa t htl).2.2.2.1,Nat.add_assoc];refine b8 _ (hwk) (by simp) ?_;simp -dsimp [(hfa t htl).1,(hfa t htl).2.1,(hfa t htl).2.2.2.1,Nat.add_assoc];refine hK _ _ _ (by exact p9 [(0,5),(1,5),(2,5),(3,5),(4,5),(0,8),(1,8),(2,8),(3,8),(4,8),(5,8),(6,8),(7,8),(0,9),(1,9),(2,9),(3,9),(4,9),(5,9),(6,9),(7,9),(8,9),(0,10),(1,10),(2,10),(3,10),(4,10),(5,10),(6,10),(7,10),(0,11),(1,11),(2,11),(3,11),(4,11),(5,11),(6,11),(7,11),(8,11),(9,11),(10,11)] (by decide+kernel) (by decide+kernel) (by simp[I7]<;>omega)) ?_;clear hK K;refine q9 k7 rfl (by decide) rfl rfl fun K hK=>?_;simp -dsimp [hkl1,Nat.add_assoc,u6 hkl,hkl,k9 hkl,Y2,A7 hkl,v5 hkl,w1];refine hK _ _ _ (by exact p9 [(0,1),(0,4),(1,4),(2,4),(3,4),(0,7),(1,7),(2,7),(3,7),(4,7),(5,7),(6,7),(0,8),(1,8),(2,8),(3,8),(4,8),(5,8),(6,8)] (by decide+kernel) (by decide+kernel) (by simp[I7]<;>omega)) ?_;clear hK K;refine o4 k7 rfl (by decide) rfl rfl fun K hK=>?_;simp -dsimp [hkl1,Nat.add_assoc,grk,hkl,w2,w3];refine hK _ _ _ (by exact p9 [(0,1),(0,4),(1,4),(2,4),(3,4),(0,5),(1,5),(2,5),(3,5),(0,6),(1,6),(2,6),(3,6),(4,6),(5,6),(0,7),(1,7),(2,7),(3,7),(4,7),(5,7),(0,8),(1,8),(2,8),(3,8)] (by decide+kernel) (by decide+kernel) (by simp[I7]<;>omega)) ?_;clear hK K;simp only[zT,reduceIte,Nat.reduceEqDiff];refine hK17 _ _ ?_;refine b5 [2,3,4,13,14,23,24,25,163,164,176,177,178] (Or.inr (by simp)) ?_;simp only[zP,Nat.reduceEqDiff,reduceIte];refine gR fun K hK=>?_;simp -dsimp [wt];apply hK;clear hK K;simp only[zT,reduceIte,Nat.reduceEqDiff];refine⟨t+1,by omega,by omega,l9 (D5 (F':=[some (.els 1 [[net g s]]),some (.els 1 [[iL (upN p)]]),some (.els 1 (B7 4 p.length p.length)),some (.els 1 ((RfL g (onW g.Wires s.Wires) us p fs (t+1) a).map i4))]) [some 0,some 1,some 2,some 3] (Af g (onW g.Wires s.Wires) us p fs (t+1) a) p.length p.length 4 (by simp[s9]) (fun i hi=>by simp) ?_ (by simp) ?_) (by simp)⟩
         ·intro i hi;show l7 (m7 _ p.length p.length++_) i=_;rw[k9 hi];rw[←n7 (m:=p.length) hi,←n7 (m:=p.length) hi,y6 hAe]
         ·have hro:=w9 (g:=some 0::some 1::some 2::some 3::(List.range p.length).map fun i=>some (i+4)) (c:=4) (c':=4) (m:=p.length) (n:=p.length) (fun i hi=>o7 (gf:=[some 0,some 1,some 2,some 3]) hi (by simp));rw[←hRe,List.map_set];simp[hro]
        ·refine d7 ?_;simp only[zT,reduceIte,Nat.reduceEqDiff];refine hK17 _ _ ?_;refine b5 [2,3,4,13,14,23,24,25,163,164,176,177,178] (Or.inr (by simp)) ?_;simp only[zP,Nat.reduceEqDiff,reduceIte];refine gR fun K hK=>?_;simp -dsimp [wt];apply hK;clear hK K;simp only[zT,reduceIte,Nat.reduceEqDiff];have hbt:a.testBit t=false:=by cases h:a.testBit t with|false=>rfl|true=>rw[h]at hc9;simp at hc9
         refine⟨t+1,by omega,by omega,?_⟩;rw[b6A _ _ _ _ _ hbt,b6i _ _ _ _ _ hbt];exact l9 (i7 (by simp)) (by simp)
       ·have htl:¬t<fs.length:=by simpa using hc8
        have hte:t=fs.length:=by omega
        rw[hte];have hsol:=a9h (eqM ((Pt g (onW g.Wires s.Wires) us p fs fs.length).A (s7 a)) p) (p.map ((Pt g (onW g.Wires s.Wires) us p fs fs.length).b (s7 a))) p.length (I5 _ _) hpt.n1 hpt.n10 (by simp);obtain⟨z1,z2,z3⟩:=hsm a (by omega) hal2;have hv0:(p.map fun k=>wr (Cur.num ((Pt g (onW g.Wires s.Wires) us p fs fs.length).A (s7 a)) ((Pt g (onW g.Wires s.Wires) us p fs fs.length).b (s7 a)) p k))=p.map fun k=>(Pt g (onW g.Wires s.Wires) us p fs fs.length).num (s7 a) k:=List.map_congr_left fun k _=>a6h (by have:=z1 k;unfold n9.num at this;show _≤Cur.num _ _ (Pt g (onW g.Wires s.Wires) us p fs fs.length).ns k;omega) (by have:=z1 k;unfold n9.num at this;show Cur.num _ _ (Pt g (onW g.Wires s.Wires) us p fs fs.length).ns k≤_;omega);have hd0:wr (D ((Pt g (onW g.Wires s.Wires) us p fs fs.length).A (s7 a)) p)=(Pt g (onW g.Wires s.Wires) us p fs fs.length).den (s7 a):=a6h (by unfold n9.den at z2;show _≤D _ (Pt g (onW g.Wires s.Wires) us p fs fs.length).ns;omega) (by unfold n9.den at z3;show D _ (Pt g (onW g.Wires s.Wires) us p fs fs.length).ns≤_;omega);rw[a4w _ _ _ hpt.nd,a4v,hv0,hd0,←b6U]at hsol;have hfit:=b7U (Pt g (onW g.Wires s.Wires) us p fs fs.length) fs.length a;obtain⟨nl,hnl⟩:∃nl,nl=p.map fun k=>(Pt g (onW g.Wires s.Wires) us p fs fs.length).num (s7 a) k:=⟨_,rfl⟩;have hzl:∀k x,p[k]?=some x→nl[k]?=some ((Pt g (onW g.Wires s.Wires) us p fs fs.length).num (s7 a) x):=fun k x h=>by rw[hnl,List.getElem?_map,h];rfl
        have hnle:∀a',a'=a→(p.map fun k=>(Pt g (onW g.Wires s.Wires) us p fs fs.length).num (s7 a') k)=nl∧(Pt g (onW g.Wires s.Wires) us p fs fs.length).den (s7 a')=(Pt g (onW g.Wires s.Wires) us p fs fs.length).den (s7 a):=by rintro a' rfl;exact⟨hnl.symm,rfl⟩
        rw[←hnl]at hsol;obtain⟨M,hM⟩:∃M,M=eqM ((Pt g (onW g.Wires s.Wires) us p fs fs.length).A (s7 a)) p:=⟨_,rfl⟩;rw[←hM]at hsol;obtain⟨de,hde⟩:∃de,de=(Pt g (onW g.Wires s.Wires) us p fs fs.length).den (s7 a):=⟨_,rfl⟩;rw[←hde]at hsol z2 z3 hnle hfit;obtain⟨nu,hnu⟩:∃nu,nu=(Pt g (onW g.Wires s.Wires) us p fs fs.length).num (s7 a):=⟨_,rfl⟩;rw[←hnu]at z1 hzl hfit;have hnll:nl.length=p.length:=by rw[hnl];simp
        have hVe:(Pt g (onW g.Wires s.Wires) us p fs fs.length).V=fun(b:Nat)=>(fdI g (at0 fs b)).Volts:=rfl;have hpe:(Pt g (onW g.Wires s.Wires) us p fs fs.length).p=fun(b:Nat)=>(fdI g (at0 fs b)).At.toNat:=rfl;rw[hVe,hpe]at hfit;clear hnu hde hVe hpe;refine f8 ?_;simp only[zT,reduceIte,Nat.reduceEqDiff];refine hK15 _ _ ?_;refine b5 [2,3,4,13,14,23,24,25,163,164] (Or.inr (by simp)) ?_;simp only[zP,Nat.reduceEqDiff,reduceIte];refine o5 (l9 (B9 (T':=[(2, .mpc false [.i .i64] us),(3, .ptr 0 0 0),(4, .ptr 1 0 0),(13,iL fs),(14, .clo 86 [.ptr 1 0 0, .ptr 0 0 0]),(23,I a),(24,mL M),(25,iL (RfL g (onW g.Wires s.Wires) us p fs fs.length a)),(163,I (2^fs.length)),(164,I a)]) (H':=[some (.els 1 [[net g s]]),some (.els 1 [[iL (upN p)]])]) [some 0,some 1] rfl ⟨.inr (by simp), .inr (by simp), .inr (by simp), .inr (by simp), .inr (by simp), .inr (by simp), .inr ?_, .inr ?_, .inr (by simp), .inr (by simp),trivial⟩ (by simp)) (by simp)) ?_
        ·rw[hM];exact b3x _ _ _ _ hpt.n1
        ·exact c1c _ _ _ _ _ (b3q _ _ _ _ _ _ _) hpt.n1
        ·refine gS fun K hK=>?_;simp -dsimp;refine i8 [] [] [none,none,some 0] (hsol) (by decide) rfl (by simp) (by simp) rfl (by simp) ?_;simp -dsimp;apply hK;clear hK K;refine gS fun K hK=>?_;simp -dsimp;apply hK;clear hK K;refine b6 fun K18 hK18=>?_;refine gS fun K hK=>?_;simp -dsimp;apply hK;clear hK K;refine d5 ?_;refine b5 [2,3,4,13,14,23,30,31,32,163,164,228,229,230] (Or.inr (by simp)) ?_;simp only[zP,Nat.reduceEqDiff,reduceIte];refine f5 [2,3,4,13,14,23,30,31,163,164,228,229] (α:=Nat) (fun b=>[(32,Bo ((List.range b).all (c1U (fun(b:Nat)=>(fdI g (at0 fs b)).Volts) (fun(b:Nat)=>(fdI g (at0 fs b)).At.toNat) nu de a))),(230,I b)]) (fun b=>[some (.els 1 [[net g s]]),some (.els 1 [[iL (upN p)]]),some (.els 1 (nl.map i4))]) (fun b=>b≤fs.length) (fun b=>fs.length-b) 0 ?_ ?_ ?_
         ·exact Nat.zero_le _
         ·exact l9 (d8 [some 0,some 1,some 2] rfl (by simp) (by simp)) (by simp)
         rintro b b1;simp only[zP,Nat.reduceEqDiff,reduceIte];refine gS fun K hK=>?_;simp -dsimp;apply hK;clear hK K;refine b6 fun K19 hK19=>?_;refine d6 rfl (fun hc10=>?_) (fun hc10=>?_)
         ·have hbl:b<fs.length:=by simpa using hc10
          have wb:=zW b (by omega);have hbit:bits .and .i64 ((a:Int)/2^b) 1=if a.testBit b then 1 else 0:=by have:=T2 a b (by omega);rwa [Int.toNat_natCast]at this
          have hb64:b≤IntKind.i64.bits:=Nat.le_trans (show b≤12 by omega) (by decide);have hvd:-100000000000000000≤(fdI g (at0 fs b)).Volts*de∧(fdI g (at0 fs b)).Volts*de≤100000000000000000:=by
           have h:=hfa b hbl;have h1:=Int.mul_nonneg (show 0≤(fdI g (at0 fs b)).Volts by omega) (show 0≤de by omega);have h2:=Int.mul_le_mul h.2.2.2.2.2.2.2.1 z3 (by omega) (by omega);omega
          have w1:IntKind.i64.wrap ((fdI g (at0 fs b)).Volts*de)=(fdI g (at0 fs b)).Volts*de:=f6 (by omega) (by omega);have w2:IntKind.i64.wrap ((fdI g (at0 fs b)).Volts*de-nu (fdI g (at0 fs b)).At.toNat)=(fdI g (at0 fs b)).Volts*de-nu (fdI g (at0 fs b)).At.toNat:=f6 (by have:=z1 (fdI g (at0 fs b)).At.toNat;omega) (by have:=z1 (fdI g (at0 fs b)).At.toNat;omega);have hzp:=hzl _ _ (s6 (hfa b hbl).2.2.2.2.2.1);refine d7 ?_;simp only[zT,reduceIte,Nat.reduceEqDiff];refine hK19 _ _ ?_;refine b5 [2,3,4,13,14,23,30,31,32,163,164,228,229,230] (Or.inr (by simp)) ?_;simp only[zP,Nat.reduceEqDiff,reduceIte];refine b6 fun K20 hK20=>?_;refine d5 ?_;refine gS fun K hK=>?_;simp -dsimp [(hfa b hbl).1];apply hK;clear hK K;refine q9 k7 rfl (by decide) rfl rfl fun K hK=>?_;simp -dsimp [(hfa b hbl).1,(hfa b hbl).2.1,(hfa b hbl).2.2.2.1,w1,w2,hpi b hbl,hzp];refine b8 _ (hwh b hbl) (by simp) ?_;simp -dsimp [(hfa b hbl).1,(hfa b hbl).2.1,(hfa b hbl).2.2.2.1,w1,w2,hpi b hbl,hzp];refine hK _ _ _ (by decide+kernel) ?_;clear hK K;refine gR fun K hK=>?_;simp -dsimp [hbit,hb64];apply hK;clear hK K;simp only[zT,reduceIte,Nat.reduceEqDiff];refine hK20 _ _ ?_;refine b5 [2,3,4,13,14,23,30,31,32,163,164,228,229,230] (Or.inr (by simp)) ?_;simp only[zP,Nat.reduceEqDiff,reduceIte];refine gR fun K hK=>?_;simp -dsimp [wb];apply hK;clear hK K;simp only[zT,reduceIte,Nat.reduceEqDiff];refine⟨b+1,by omega,by omega,l9 (d8 [some 0,some 1,some 2] rfl ?_ (by simp)) (by simp)⟩;rw[a8z];unfold c1U
          cases hbb:a.testBit b<;>simp[hbb]
         ·have hbl:¬b<fs.length:=by simpa using hc10
          have hbe:b=fs.length:=by omega
          rw[hbe,←hfit];refine f8 ?_;simp only[zT,reduceIte,Nat.reduceEqDiff];refine hK18 _ _ ?_;refine b5 [2,3,4,13,14,30,31,32,163,164] (Or.inr (by simp)) ?_;simp only[zP,Nat.reduceEqDiff,reduceIte];refine gS fun K hK=>?_;simp -dsimp;apply hK;clear hK K;refine d6 rfl (fun hc11=>?_) (fun hc11=>?_)
          ·refine gS fun K hK=>?_;simp -dsimp;apply hK;clear hK K;have hae:a0=a:=by
            rcases Nat.lt_or_ge a a0 with h|h
            ·have:=hal a (by omega) h;rw[this]at hc11;cases hc11
            ·omega
           obtain⟨g1,g2⟩:=hnle a0 hae;have htk:List.take p.length (nl.map i4)=nl.map i4:=List.take_of_length_le (by simp;omega);exact i5 (by simp[e1,e2,e3,g1,g2,hnll,htk,y3,m6])
          ·refine d7 ?_;simp only[zT,reduceIte,Nat.reduceEqDiff];refine hK13 _ _ ?_;refine b5 [2,3,4,13,14,163,164] (Or.inr (by simp)) ?_;simp only[zP,Nat.reduceEqDiff,reduceIte];refine gR fun K hK=>?_;simp -dsimp [wa];apply hK;clear hK K;simp only[zT,reduceIte,Nat.reduceEqDiff];have hae:a0≠a:=by
            rintro rfl;rw[haf]at hc11;cases hc11
           exact⟨a+1,by omega,by omega,l9 (d8 [some 0,some 1] rfl (by simp) (by simp)) (by simp)⟩
     ·exfalso;have h:((a:Nat):Int)<2^fs.length:=by have:=Int.ofNat_lt.2 (show a<2^fs.length by omega);rwa [Int.natCast_pow]at this
      exact absurd h (of_decide_eq_false hc6)
end Go.Cur
end
