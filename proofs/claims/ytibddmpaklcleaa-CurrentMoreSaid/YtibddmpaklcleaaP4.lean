import Derived.Test.YtibddmpaklcleaaP3
import Derived.Test.YtibddmpaklcleaaProg
set_option maxRecDepth 100000
set_option maxHeartbeats 8000000
set_option linter.unusedVariables false
set_option linter.unusedSimpArgs false
section
namespace Go.Cur
open Go.AM Go.Proofs
theorem d6.split {P : Program} {f : FuncId} {fn : Func} {c : Code} {x : AV} {rest : List AV} {res : AV} (hf : P.funcs[f]? = some fn) (hb : fn.body = some c) (hname : (fn.name == "runtime.NumGoroutine") = false)
  (h:∀(w:World) (S:Nat→Prop) (y:Value),q8 w S x y→∃x',q8 w S x' y∧d6 P f (x'::rest) res):d6 P f (x::rest) res:=by
 have hn' : ¬ fn.name = "runtime.NumGoroutine" := by simpa using hname
 have hcf:∀(w:World) (vs:Array Value),(callFunc f vs).run P w= .ok (.enter f vs) w:=fun w vs=>by simp[callFunc,hf,hn',hb]
 refine Or.inl ⟨hcf,?_⟩;intro S0 w vs hlow hl hrep
 match vs,hl with
 | y::vs,hl=>
  obtain⟨x',hx',hp⟩:=h w S0 y (hrep 0 x y rfl rfl);have hrep':∀(i:Nat) c z,(x'::rest)[i]?=some c→(y::vs)[i]?=some z→q8 w S0 c z:=by
   intro i c z h1 h2
   cases i with
   |zero=>simp only[List.getElem?_cons_zero,Option.some.injEq]at h1 h2;subst h1 h2;exact hx'
   |succ i=>exact hrep (i+1) c z (by simpa using h1) h2
  rcases hp with⟨_,h2⟩|h2
  ·exact h2 S0 w (y::vs) hlow (by simpa using hl) hrep'
  ·obtain⟨v,h3,_⟩:=h2 S0 w (y::vs) (by simpa using hl) hrep';rw[hcf]at h3;cases h3
theorem b2q (op:BinOp) (t:TypeId) (x y:Operand) (a b:Option Addr) (n c m d:Nat) (w:World):(eqGuard op t x y (.slice a n c) (.slice b m d)).run Try.prog w= .ok () w:=by
 cases op<;>simp[eqGuard]
theorem a6j (t e:TypeId) (hu:(Try.prog).underlying t=some (.slice e)) (a:Option Addr) (n c:Nat) (w:World):(binOp .eql t (.slice a n c) (.slice none 0 0)).run Try.prog w= .ok (.bool a.isNone) w:=by
 have hq:(Op.equal t (.slice a n c) (.slice none 0 0)).run Try.prog w= .ok a.isNone w:=by
  show(Op.equalIn (Op.maxDepth-1+1) t _ _).run _ w=_
  cases a<;>simp[Op.equalIn,run_underlying hu]
 simp[binOp,hq]
@[simp] theorem c2Y:a0i Try.prog 42=true:=by kernel_rfl
@[simp] theorem c2u:a0i Try.prog 26=true:=by kernel_rfl
theorem b7B:(Try.prog).underlying 26=some (.slice 4):=by kernel_rfl
theorem b9m {w:World} {S:Nat→Prop} {sz:Nat} {y:Value} (h:q8 w S (.lst sz []) y):∃a cap,y= .slice a 0 cap:=by
 cases h with
 |lst _ _ b off cap=>exact⟨_,cap,rfl⟩
 |lstNil _ a cap=>exact⟨a,cap,rfl⟩
theorem b3J {w:World} {S:Nat→Prop} {sz:Nat} {y:Value} (h:q8 w S (.v (.slice none 0 0)) y):q8 w S (.lst sz []) y:=by
 cases h;exact .lstNil _ _ _
theorem b6j {w:World} {S:Nat→Prop} {sz:Nat} {y:Value} (h:q8 w S (.full sz []) y):q8 w S (.lst sz []) y:=by
 cases h;exact .lstNil _ _ _
theorem B6 (l:List Bool) (hn:l.length≤1000):d6 Try.prog 73 [.lst 1 (l.map i9)] (.lst 1 (l.map i9)):=by
 by_cases hne:l=[]
 ·subst hne;refine d6.split Try.func73 rfl (by decide) fun w S y hy=>?_;obtain⟨a,cap,rfl⟩:=b9m hy;refine⟨.v (.slice a 0 cap), .v _,?_⟩
  cases a with
  |none=>
   refine d6.res (res:= .v (.slice none 0 0)) ?_ fun w S y=>b3J;refine d6.of_body Try.func73 rfl (by decide) (by simp[Try.ntmps73]) ?_;simp only[Try.ntmps73,Try.results73];refine aS fun K hK=>?_;simp -dsimp;apply hK;clear hK K;refine b8 fun K1 hK1=>?_;refine aS fun K hK=>?_;simp -dsimp;apply hK;clear hK K;refine d8 rfl (fun hc0=>?_) (fun hc0=>?_)
   ·refine aS fun K hK=>?_;simp -dsimp;apply hK;clear hK K;exact g7 (by simp)
   ·simp at hc0
  |some a=>
   refine d6.res (res:= .full 1 []) ?_ fun w S y=>b6j;refine d6.of_body Try.func73 rfl (by decide) (by simp[Try.ntmps73]) ?_;simp only[Try.ntmps73,Try.results73];refine aS fun K hK=>?_;simp -dsimp;apply hK;clear hK K;refine b8 fun K1 hK1=>?_;refine aS fun K hK=>?_;simp -dsimp;refine⟨fun w=>b2q _ _ _ _ _ _ _ _ _ _ w,_,fun w=>a6j _ _ b7B _ _ _ w,?_⟩;simp -dsimp;apply hK;clear hK K;refine d8 rfl (fun hc0=>?_) (fun hc0=>?_)
   ·simp at hc0
   ·refine f5 ?_;simp only[zT,reduceIte,Nat.reduceEqDiff];refine hK1 _ _ ?_;refine b7 [0] ?_;simp only[zP,Nat.reduceEqDiff,reduceIte];refine aS fun K hK=>?_;simp -dsimp;apply hK;clear hK K;exact g7 (by simp)
 ·have f1:I9 l.length 2:=m8 (by omega) (by omega);refine d6.of_body Try.func73 rfl (by decide) (by simp[Try.ntmps73]) ?_;simp only[Try.ntmps73,Try.results73];refine aS fun K hK=>?_;simp -dsimp;apply hK;clear hK K;refine b8 fun K1 hK1=>?_;refine aS fun K hK=>?_;simp -dsimp [hne];apply hK;clear hK K;refine d8 rfl (fun hc0=>?_) (fun hc0=>?_)
  ·simp at hc0
  ·refine f5 ?_;simp only[zT,reduceIte,Nat.reduceEqDiff];refine hK1 _ _ ?_;refine b7 [0] ?_;simp only[zP,Nat.reduceEqDiff,reduceIte];refine aS fun K hK=>?_;simp -dsimp [hne,f1];apply hK;clear hK K;exact g7 (by simp)
theorem a4t (l:List Int) (x:Int) (hn:l.length≤100000):d6 Try.prog 71 [iL l,I x] (I (P1 l fun y=>decide (x=y))):=by
 refine d6.of_body Try.func71 rfl (by decide) (by simp[Try.ntmps71]) ?_;simp only[Try.ntmps71,Try.results71];refine aS fun K hK=>?_;simp -dsimp;apply hK;clear hK K;refine b8 fun K1 hK1=>?_;refine aS fun K hK=>?_;simp -dsimp;apply hK;clear hK K;refine e8 ?_;refine b7 [0,1,7,8] ?_;simp only[zP,Nat.reduceEqDiff,reduceIte];refine i4 [0,1,7] (α:=Nat) (fun k=>[(8,I k)]) (fun _=>[]) (fun k=>k≤l.length∧(l.take k).any (fun y=>decide (x=y))=false) (fun k=>l.length-k) 0 ?_ ?_ ?_
 ·simp
 ·exact j9 (by simp)
 rintro k ⟨k1,k2⟩;simp only[zP,Nat.reduceEqDiff,reduceIte];refine aS fun K hK=>?_;simp -dsimp;apply hK;clear hK K;refine b8 fun K2 hK2=>?_;refine d8 rfl (fun hc0=>?_) (fun hc0=>?_)
 ·skip
  try simp at hc0
  obtain⟨y,hx⟩:∃y,l[k]?=some y:=⟨_,List.getElem?_eq_getElem hc0⟩;have wk:=zW k (by omega);refine f5 ?_;simp only[zT,reduceIte,Nat.reduceEqDiff];refine hK2 _ _ ?_;refine b7 [0,1,7,8] ?_;simp only[zP,Nat.reduceEqDiff,reduceIte];refine b8 fun K3 hK3=>?_;refine e8 ?_;refine aS fun K hK=>?_;simp -dsimp;apply hK;clear hK K;refine aS fun K hK=>?_;simp -dsimp [hx];apply hK;clear hK K;refine d8 rfl (fun hc1=>?_) (fun hc1=>?_)
  ·simp only[a4n]at hc1;refine aS fun K hK=>?_;simp -dsimp;apply hK;clear hK K;exact g7 (by simp[a0q hx hc1 k2])
  ·simp only[a4n]at hc1;refine f5 ?_;simp only[zT,reduceIte,Nat.reduceEqDiff];refine hK3 _ _ ?_;refine b7 [0,1,7,8] ?_;simp only[zP,Nat.reduceEqDiff,reduceIte];refine aR fun K hK=>?_;simp -dsimp [wk];apply hK;clear hK K;simp only[zT,reduceIte,Nat.reduceEqDiff];exact⟨k+1,⟨by omega,by rw[a8J hx,k2,hc1];rfl⟩,by omega,j9 (by simp)⟩
 ·skip
  try simp at hc0
  have hall:=a7o (by omega) k2;refine j8 ?_;simp only[zT,reduceIte,Nat.reduceEqDiff];refine hK1 _ _ ?_;refine b7 [] ?_;simp only[zP,Nat.reduceEqDiff,reduceIte];refine aS fun K hK=>?_;simp -dsimp;apply hK;clear hK K;exact g7 (by simp[W4 hall])
theorem b6y (l:List Int) (x:Int):l.any (fun y=>decide (x=y))=decide (x∈l):=by
 rw[Bool.eq_iff_iff];simp
theorem a4c (l:List Int) (x:Int) (hn:l.length≤100000):d6 Try.prog 91 [iL l,I x] (Bo (decide (x∈l))):=by
 refine d6.of_body Try.func91 rfl (by decide) (by simp[Try.ntmps91]) ?_;simp only[Try.ntmps91,Try.results91];refine aS fun K hK=>?_;simp -dsimp;apply hK;clear hK K;refine aS fun K hK=>?_;simp -dsimp;refine d5 _ (a4t l x hn) (by simp) ?_;simp -dsimp;apply hK;clear hK K;exact g7 (by simp[a6X,b6y])
theorem b1m (a:Int):d6 Try.prog 121 [I a] (Bo false):=by
 refine d6.of_body Try.func121 rfl (by decide) (by simp[Try.ntmps121]) ?_;simp only[Try.ntmps121,Try.results121];refine aS fun K hK=>?_;simp -dsimp;apply hK;clear hK K;refine aS fun K hK=>?_;simp -dsimp;apply hK;clear hK K;exact g7 (by simp)
theorem b6A (a b:Int):d6 Try.prog 110 [I a,I b] (Bo (decide (a<b))):=by
 refine d6.of_body Try.func110 rfl (by decide) (by simp[Try.ntmps110]) ?_;simp only[Try.ntmps110,Try.results110];refine aS fun K hK=>?_;simp -dsimp;apply hK;clear hK K;refine aS fun K hK=>?_;simp -dsimp;refine d5 _ (b1m a) (by simp) ?_;simp -dsimp;refine g8 _ (fun hm=>b1m b) (by simp) ?_;simp -dsimp;apply hK;clear hK K;exact g7 (by simp)
def ins (x:Int):List Int→List Int
 |[]=>[x]
 |y::l=>if x<y then x::y::l else y::ins x l
def srt (l:List Int):List Int:=l.foldl (fun s x=>ins x s) []
theorem b2E (x:Int):∀l,(ins x l).length=l.length+1
 |[]=>rfl
 |y::l=>by
  simp only[ins]
  split
  ·rfl
  ·simp[b2E x l]
theorem b4b (x z:Int):∀l,z∈ins x l↔z=x∨z∈l
 |[]=>by simp[ins]
 | y::l=>by
  simp only[ins]
  split
  ·simp
  ·simp only[List.mem_cons,b4b x z l];constructor
   ·rintro(h|h|h)<;>simp[h]
   ·rintro(h|h|h)<;>simp[h]
theorem a3Q (x:Int):∀l:List Int,l.Pairwise (· ≤ ·)→(ins x l).Pairwise (· ≤ ·)
 |[],_=>by simp[ins]
 | y::l,h=>by
  rw[List.pairwise_cons]at h;simp only[ins]
  split
  ·rename_i hx;rw[List.pairwise_cons,List.pairwise_cons];refine⟨fun z hz=>?_,h⟩
   rcases List.mem_cons.1 hz with rfl|hz
   ·omega
   ·have:=h.1 z hz;omega
  ·rename_i hx;rw[List.pairwise_cons];refine⟨fun z hz=>?_,a3Q x l h.2⟩
   rcases(b4b x z l).1 hz with rfl|hz
   ·omega
   ·exact h.1 z hz
theorem a2c (x:Int) (B:List Int) (hB:∀y∈B,x<y):∀A:List Int,(∀y∈A,y≤x)→ins x (A++B)=A++x::B
 |[],_=>by
  cases B with
  |nil=>rfl
  |cons y B=>simp only[List.nil_append,ins];rw[if_pos (hB y (by simp))]
 |a::A,h=>by
  simp only[List.cons_append,ins];rw[if_neg (by have:=h a (by simp);omega),a2c x B hB A fun y hy=>h y (by simp[hy])]
theorem b5f {l:List Int} {i:Nat} {x:Int} (h:l[i]?=some x):srt (l.take (i+1))=ins x (srt (l.take i)):=by
 rw[List.take_add_one,h];simp[srt]
theorem b7D (l:List Int):(srt l).length=l.length:=by
 have gen:∀(l s:List Int),(l.foldl (fun s x=>ins x s) s).length=s.length+l.length:=by
  intro l
  induction l with
  |nil=>simp
  |cons x l ih=>intro s;rw[List.foldl_cons,ih,b2E];simp;omega
 have:=gen l [];simpa [srt]using this
theorem a3L (l:List Int):(srt l).Pairwise (· ≤ ·):=by
 have gen:∀(l s:List Int),s.Pairwise (· ≤ ·)→(l.foldl (fun s x=>ins x s) s).Pairwise (· ≤ ·):=by
  intro l
  induction l with
  |nil=>intro s h;exact h
  |cons x l ih=>intro s h;exact ih _ (a3Q x s h)
 exact gen l [] List.Pairwise.nil
theorem c1q {L:List Int} (h:L.Pairwise (· ≤ ·)) {j:Nat} {y:Int} (hy:L[j]?=some y):∀a∈L.take (j+1),a≤y:=by
 intro a ha;obtain⟨hj,he⟩:=List.getElem?_eq_some_iff.1 hy;rw[List.take_add_one,hy]at ha
 rcases List.mem_append.1 ha with ha|ha
 ·have hs:L=L.take j++y::L.drop (j+1):=by rw[←he,List.getElem_cons_drop,List.take_append_drop]
  rw[hs,List.pairwise_append]at h;exact h.2.2 a ha y (by simp)
 ·simp at ha;omega
def a7W (L:List Int) (x:Int) (R:List Int) (j:Nat):List Int:=L.take j++x::(L.drop j++R)
theorem a8x {L:List Int} {x:Int} {R:List Int} {j:Nat} (h:j≤L.length):(a7W L x R j)[j]?=some x:=by
 unfold a7W;rw[List.getElem?_append_right (by simp;omega)];simp[Nat.min_eq_left h]
theorem a7q {L:List Int} {x y:Int} {R:List Int} {j:Nat} (h:L[j]?=some y):(a7W L x R (j+1))[j]?=some y:=by
 have hj:=(List.getElem?_eq_some_iff.1 h).1;unfold a7W;rw[List.getElem?_append_left (by simp;omega),List.getElem?_take];simp[h]
theorem b2r {L:List Int} {x y:Int} {R:List Int} {j:Nat} (h:L[j]?=some y):((a7W L x R (j+1)).set (j+1) y).set j x=a7W L x R j:=by
 obtain⟨hj,hy⟩:=List.getElem?_eq_some_iff.1 h;have h1:L.take (j+1)=L.take j++[y]:=by rw[List.take_add_one,h];rfl
 have h2:L.drop j=y::L.drop (j+1):=by rw[List.drop_eq_getElem_cons hj,hy]
 have hl:(L.take j).length=j:=by rw[List.length_take];omega
 unfold a7W;rw[h1,h2,List.append_assoc,List.set_append,if_neg (by omega),List.set_append,if_neg (by omega),hl];simp
theorem b8u (xs:List Int) (h1:1≤xs.length) (hn:xs.length≤1000):g6 Try.prog 104 [.row 0 0 xs.length,I 0,I xs.length] [some (.els 1 (xs.map j0))] [] (.tup []) [some (.els 1 ((srt xs).map j0))] []:=by
 have w01:IntKind.i64.wrap 1=1:=f7 (by omega) (by omega);have wm1:IntKind.i64.wrap (-1)=-1:=f7 (by omega) (by omega);refine g6.of_bodyG [0] Try.func104 rfl (by decide) (by simp[Try.ntmps104]) rfl rfl ?_;intro J hJ;simp only[Try.ntmps104,Try.results104];refine gS fun K hK=>?_;simp -dsimp [w01];apply hK;clear hK K;refine d7 ?_;refine b6 [0,1,2,6] (Or.inr (by simp)) ?_;simp only[zP,Nat.reduceEqDiff,reduceIte];refine g9 [0,1,2] (α:=Nat) (fun i=>[(6,I i)]) (fun i=>[some (.els 1 ((srt (xs.take i)++xs.drop i).map j0))]) (fun i=>1≤i∧i≤xs.length) (fun i=>xs.length-i) 1 ?_ ?_ ?_
 ·exact⟨Nat.le_refl _,h1⟩
 ·refine o1 (e9 [some 0] rfl (by simp) ?_) (by simp);obtain⟨x,l,rfl⟩:∃x l,xs=x::l:=by cases xs with|nil=>simp at h1|cons x l=>exact⟨x,l,rfl⟩
  simp[srt,ins]
 rintro i ⟨i1,i2⟩;simp only[zP,Nat.reduceEqDiff,reduceIte];refine b9 fun K1 hK1=>?_;refine gS fun K hK=>?_;simp -dsimp;apply hK;clear hK K;refine d9 rfl (fun hc0=>?_) (fun hc0=>?_)
 ·skip
  try simp at hc0
  have wi:=zW i (by omega);obtain⟨x,hx⟩:∃x,xs[i]?=some x:=⟨_,List.getElem?_eq_getElem hc0⟩;obtain⟨hxi,hxe⟩:=List.getElem?_eq_some_iff.1 hx;have hdr:xs.drop i=x::xs.drop (i+1):=by rw[List.drop_eq_getElem_cons hxi,hxe]
  have hdm:(xs.map j0).drop i=[I x]::(xs.drop (i+1)).map j0:=by rw[←List.map_drop,hdr];rfl
  have hst:=b5f hx;have hsl:(srt (xs.take i)).length=i:=by rw[b7D,List.length_take];omega
  have hso:=a3L (xs.take i);generalize srt (xs.take i)=L at hst hsl hso ⊢;generalize hR:xs.drop (i+1)=R at hdr hdm ⊢;have hRl:R.length=xs.length-(i+1):=by rw[←hR,List.length_drop]
  refine f6 ?_;simp only[zT,reduceIte,Nat.reduceEqDiff];refine hK1 _ _ ?_;refine b6 [0,1,2,6] (Or.inr (by simp)) ?_;simp only[zP,Nat.reduceEqDiff,reduceIte];refine b9 fun K2 hK2=>?_;refine d7 ?_;refine gS fun K hK=>?_;simp -dsimp;apply hK;clear hK K;refine d7 ?_;refine b6 [0,1,2,6,7] (Or.inr (by simp)) ?_;simp only[zP,Nat.reduceEqDiff,reduceIte];refine g9 [0,1,2,6] (α:=Nat) (fun j=>[(7,I j)]) (fun j=>[some (.els 1 ((a7W L x R j).map j0))]) (fun j=>j≤i∧∀y∈L.drop j,x<y) (fun j=>j) i ?_ ?_ ?_
  ·exact⟨Nat.le_refl _,by rw[List.drop_of_length_le (by omega)];simp⟩
  ·refine o1 (e9 [some 0] rfl (by simp) ?_) (by simp);simp[a7W,hdm,List.take_of_length_le (show L.length≤i by omega),List.drop_of_length_le (show L.length≤i by omega)]
  rintro j ⟨j1,j2⟩
  rcases j with _|j
  rotate_left
  obtain⟨y,hy⟩:∃y,L[j]?=some y:=⟨_,List.getElem?_eq_getElem (by omega)⟩;have gj:=a8x (L:=L) (x:=x) (R:=R) (j:=j+1) (by omega);have gb:=a7q (x:=x) (R:=R) hy;have wj:IntKind.i64.wrap (j:Int)=j:=f7 (by omega) (by omega);have hj1:j+1<xs.length:=by omega
  have hj0:j<xs.length:=by omega
  have hdj:L.drop j=y::L.drop (j+1):=by obtain⟨hh,he⟩:=List.getElem?_eq_some_iff.1 hy;rw[List.drop_eq_getElem_cons hh,he]
  rotate_left
  ·simp only[zP,Nat.reduceEqDiff,reduceIte];refine b9 fun K3 hK3=>?_;refine w9 l9 rfl (by decide) rfl rfl fun K hK=>?_;simp -dsimp [a8x (L:=L) (x:=x) (R:=R) (Nat.zero_le _),wm1];refine g8 _ (fun hm=>b6A x x) (by simp) ?_;simp -dsimp [a8x (L:=L) (x:=x) (R:=R) (Nat.zero_le _),wm1];refine hK _ _ _ (by decide+kernel) ?_;clear hK K;refine d9 rfl (fun hc1=>?_) (fun hc1=>?_)
   ·simp at hc1
   ·have hfin:ins x L=x::L:=by have:=a2c x L (by simpa using j2) [] (by simp);simpa using this
    have he:srt (xs.take (i+1))++xs.drop (i+1)=a7W L x R 0:=by rw[hst,hR,hfin];simp[a7W]
    refine i6 ?_;simp only[zT,reduceIte,Nat.reduceEqDiff];refine hK2 _ _ ?_;refine b6 [0,1,2,6] (Or.inr (by simp)) ?_;simp only[zP,Nat.reduceEqDiff,reduceIte];refine gR fun K hK=>?_;simp -dsimp [wi];apply hK;clear hK K;simp only[zT,reduceIte,Nat.reduceEqDiff];exact⟨i+1,⟨by omega,by omega⟩,by omega,o1 (e9 [some 0] rfl (by simp) (by simp only[he];simp)) (by simp)⟩
  ·simp only[zP,Nat.reduceEqDiff,reduceIte];refine b9 fun K4 hK4=>?_;refine w9 l9 rfl (by decide) rfl rfl fun K hK=>?_;simp -dsimp [gj,gb,wj,hj1,hj0];refine⟨by omega,?_⟩
   try simp -dsimp [gj,gb,wj,hj1,hj0]
   refine g8 _ (fun hm=>b6A x y) (by simp) ?_;simp -dsimp [gj,gb,wj,hj1,hj0];refine hK _ _ _ (by decide+kernel) ?_;clear hK K;refine d9 rfl (fun hc1=>?_) (fun hc1=>?_)
   ·skip
    try simp at hc1
    refine f6 ?_;simp only[zT,reduceIte,Nat.reduceEqDiff];refine hK4 _ _ ?_;refine b6 [0,1,2,6,7] (Or.inr (by simp)) ?_;simp only[zP,Nat.reduceEqDiff,reduceIte];refine b9 fun K5 hK5=>?_;refine d7 ?_;refine o8 l9 rfl (by decide) rfl rfl fun K hK=>?_;simp -dsimp [gj,gb,wj,hj1,hj0]
    repeat (refine⟨by omega,?_⟩;try simp -dsimp [gj,gb,wj,hj1,hj0])
    refine hK _ _ _ (by decide+kernel) ?_;clear hK K;simp only[zT,reduceIte,Nat.reduceEqDiff];refine hK5 _ _ ?_;refine b6 [0,1,2,6,7] (Or.inr (by simp)) ?_;simp only[zP,Nat.reduceEqDiff,reduceIte];refine gR fun K hK=>?_;simp -dsimp [wj];apply hK;clear hK K;simp only[zT,reduceIte,Nat.reduceEqDiff];have hsw:(((a7W L x R (j+1)).map j0).set (j+1) [I y]).set j [I x]=(a7W L x R j).map j0:=by rw[←b2r hy,List.map_set,List.map_set];rfl
    exact⟨j,⟨by omega,by intro z hz;rw[hdj]at hz;rcases List.mem_cons.1 hz with rfl|hz;exact hc1;exact j2 z hz⟩,by omega,o1 (e9 [some 0] rfl (by simp) (by simp[hsw])) (by simp)⟩
   ·skip
    try simp at hc1
    have hfin:ins x L=L.take (j+1)++x::L.drop (j+1):=by have:=a2c x (L.drop (j+1)) j2 (L.take (j+1)) (fun a ha=>Int.le_trans (c1q hso hy a ha) hc1);rwa [List.take_append_drop]at this
    have he:srt (xs.take (i+1))++xs.drop (i+1)=a7W L x R (j+1):=by rw[hst,hR,hfin];simp[a7W]
    refine i6 ?_;simp only[zT,reduceIte,Nat.reduceEqDiff];refine hK2 _ _ ?_;refine b6 [0,1,2,6] (Or.inr (by simp)) ?_;simp only[zP,Nat.reduceEqDiff,reduceIte];refine gR fun K hK=>?_;simp -dsimp [wi];apply hK;clear hK K;simp only[zT,reduceIte,Nat.reduceEqDiff];exact⟨i+1,⟨by omega,by omega⟩,by omega,o1 (e9 [some 0] rfl (by simp) (by simp only[he];simp)) (by simp)⟩
 ·skip
  try simp at hc0
  have hie:i=xs.length:=by omega
  subst hie;refine i6 ?_
  try simp only[zT,reduceIte,Nat.reduceEqDiff]
  exact⟨[some 0],rfl,by simp,by simp,by simp[h1],by simp[C2,n6]⟩
theorem a8p:(Try.prog).underlying 3=some (.int .i64):=by kernel_rfl
theorem b2i:(Try.prog).underlying 156=some (.int .u64):=by kernel_rfl
theorem b8T:(Try.prog).underlying 9=some .string:=by kernel_rfl
theorem b6Q:(Try.prog).underlying 5=some (.int .u8):=by kernel_rfl
theorem b5e:(Try.prog).underlying 154=some (.int .u64):=by kernel_rfl
theorem b2F (s:ByteArray) (n:Int) (h0:0≤n) (h1:n.toNat<s.size) (w:World):(Instr.index 9 (.string s) (.int .u8 n)).run Try.prog w= .ok (.int .u8 (s[n.toNat]).toNat) w:=by
 have hs:s[n.toNat]?=some s[n.toNat]:=getElem?_pos s n.toNat h1;simp[Instr.index,asIntOf,run_underlying b8T,h0,hs]
theorem b9j (n:Int) (w:World):(convert 3 154 (.int .i64 n)).run Try.prog w= .ok (.int .u64 (IntKind.u64.wrap n)) w:=by
 simp[convert,run_underlying a8p,run_underlying b5e,Conv.intToInt]
theorem b8I (n:Int) (w:World):(convert 156 5 (.int .u64 n)).run Try.prog w= .ok (.int .u8 (IntKind.u8.wrap n)) w:=by
 simp[convert,run_underlying b2i,run_underlying b6Q,Conv.intToInt]
theorem b9d (n:Int) (w:World):(convert 5 3 (.int .u8 n)).run Try.prog w= .ok (.int .i64 (IntKind.i64.wrap n)) w:=by
 simp[convert,run_underlying a8p,run_underlying b6Q,Conv.intToInt]
abbrev U (n:Int):AV:= .v (.int .u64 n)
theorem u64_in {n:Int} (h0:0≤n) (h1:n<18446744073709551616):IntKind.u64.wrap n=n:=by rw[IntKind.wrap_u64];omega
theorem b8R (n:Int) (h0:0≤n) (h1:n≤200):∃k,d6 Try.prog 114 [U n] (I k):=by
 have w8:IntKind.u8.wrap n=n:=by rw[IntKind.wrap_u8];omega
 have h2:¬4294967296≤n:=by omega
 have h3:¬65536≤n:=by omega
 have h4:¬256≤n:=by omega
 apply Exists.intro;refine d6.of_body Try.func114 rfl (by decide) (by simp[Try.ntmps114]) ?_;simp only[Try.ntmps114,Try.results114];refine aS fun K hK=>?_;simp -dsimp;apply hK;clear hK K;refine b8 fun K1 hK1=>?_;refine aS fun K hK=>?_;simp -dsimp;apply hK;clear hK K;refine d8 rfl (fun hc0=>?_) (fun hc0=>?_)
 ·skip
  try simp at hc0
  omega
 ·skip
  try simp at hc0
  refine f5 ?_;simp only[zT,reduceIte,Nat.reduceEqDiff];refine hK1 _ _ ?_;refine b7 [0,2] ?_;simp only[zP,Nat.reduceEqDiff,reduceIte];refine b8 fun K2 hK2=>?_;refine aS fun K hK=>?_;simp -dsimp;apply hK;clear hK K;refine d8 rfl (fun hc1=>?_) (fun hc1=>?_)
  ·skip
   try simp at hc1
   omega
  ·skip
   try simp at hc1
   refine f5 ?_;simp only[zT,reduceIte,Nat.reduceEqDiff];refine hK2 _ _ ?_;refine b7 [0,2] ?_;simp only[zP,Nat.reduceEqDiff,reduceIte];refine b8 fun K3 hK3=>?_;refine aS fun K hK=>?_;simp -dsimp;apply hK;clear hK K;refine d8 rfl (fun hc2=>?_) (fun hc2=>?_)
   ·skip
    try simp at hc2
    omega
   ·skip
    try simp at hc2
    refine f5 ?_;simp only[zT,reduceIte,Nat.reduceEqDiff];refine hK3 _ _ ?_;refine b7 [0,2] ?_;simp only[zP,Nat.reduceEqDiff,reduceIte];refine aS fun K hK=>?_;simp -dsimp;refine⟨_,b8I n,?_⟩
    try simp -dsimp [w8]
    refine⟨_,b2F _ n h0 (Nat.lt_of_lt_of_le (show n.toNat<256 by omega) (by decide+kernel)),?_⟩
    try simp -dsimp
    refine⟨_,b9d _,?_⟩
    try simp -dsimp
    apply hK;clear hK K;exact g7 rfl
theorem c2L (n:Int) (h0:0≤n) (h1:n≤200):∃k,d6 Try.prog 101 [U n] (I k):=by
 obtain⟨k,hk⟩:=b8R n h0 h1;refine⟨k,?_⟩;refine d6.of_body Try.func101 rfl (by decide) (by simp[Try.ntmps101]) ?_;simp only[Try.ntmps101,Try.results101];refine aS fun K hK=>?_;simp -dsimp;apply hK;clear hK K;refine b8 fun K1 hK1=>?_;refine d8 rfl (fun hc0=>?_) (fun hc0=>?_)
 ·simp at hc0
 ·refine f5 ?_;simp only[zT,reduceIte,Nat.reduceEqDiff];refine hK1 _ _ ?_;refine b7 [0] ?_;simp only[zP,Nat.reduceEqDiff,reduceIte];refine aS fun K hK=>?_;simp -dsimp;refine d5 _ (hk) (by simp) ?_;simp -dsimp;apply hK;clear hK K;exact g7 (by simp)
theorem c2N (xs:List Int) (k:Int) (h1:1≤xs.length) (hn:xs.length≤12):g6 Try.prog 100 [.row 0 0 xs.length,I 0,I xs.length,I k] [some (.els 1 (xs.map j0))] [] (.tup []) [some (.els 1 ((srt xs).map j0))] []:=by
 have hs:=b8u xs h1 (by omega);have wl:IntKind.i64.wrap (xs.length:Int)=xs.length:=f7 (by omega) (by omega);refine g6.of_bodyG [0] Try.func100 rfl (by decide) (by simp[Try.ntmps100]) rfl rfl ?_;intro J hJ;simp only[Try.ntmps100,Try.results100];refine gS fun K hK=>?_;simp -dsimp;apply hK;clear hK K;refine gS fun K hK=>?_;simp -dsimp;apply hK;clear hK K;refine d7 ?_;refine b6 [0,1,2,3,8,9] (Or.inr (by simp)) ?_;simp only[zP,Nat.reduceEqDiff,reduceIte];refine g9 [0] (α:=Unit) (fun _=>[(1,I 0),(2,I xs.length),(3,I k),(8,Bo true),(9,Bo true)]) (fun _=>[some (.els 1 (xs.map j0))]) (fun _=>True) (fun _=>0) () ?_ ?_ ?_
 ·simp
 ·exact o1 (j9 (by simp)) (by simp)
 rintro u-;simp only[zP,Nat.reduceEqDiff,reduceIte];refine d7 ?_;refine gS fun K hK=>?_;simp -dsimp [wl];apply hK;clear hK K;refine b9 fun K1 hK1=>?_;refine gS fun K hK=>?_;simp -dsimp;apply hK;clear hK K;refine d9 rfl (fun hc0=>?_) (fun hc0=>?_)
 ·skip
  try simp at hc0
  refine gS fun K hK=>?_;simp -dsimp;refine k9 [0] [] [some 0] (hs) (by decide) rfl (by simp) (by simp) rfl (by simp) ?_;simp -dsimp;apply hK;clear hK K;exact j6 ⟨[some 0],rfl,by simp,by simp,by simp[h1],by simp[C2,n6]⟩
 ·skip
  try simp at hc0
  omega
theorem c1w (xs:List Int) (h1:1≤xs.length) (hn:xs.length≤12):g6 Try.prog 85 [.row 0 0 xs.length] [some (.els 1 (xs.map j0))] [] (.tup []) [some (.els 1 ((srt xs).map j0))] []:=by
 obtain⟨k,hk⟩:=c2L xs.length (by omega) (by omega);have hs:=c2N xs k h1 hn;have wu:IntKind.u64.wrap (xs.length:Int)=xs.length:=u64_in (by omega) (by omega);refine g6.of_bodyG [0] Try.func85 rfl (by decide) (by simp[Try.ntmps85]) rfl rfl ?_;intro J hJ;simp only[Try.ntmps85,Try.results85];refine gS fun K hK=>?_;simp -dsimp;apply hK;clear hK K;refine gR fun K hK=>?_;simp -dsimp;refine⟨_,b9j _,?_⟩;simp -dsimp [wu];refine d5 _ (hk) (by simp) ?_;simp -dsimp;refine k9 [0] [] [some 0] (hs) (by decide) rfl (by simp) (by simp) rfl (by simp) ?_;simp -dsimp;apply hK;clear hK K
 try simp only[zT,reduceIte,Nat.reduceEqDiff]
 exact⟨[some 0],rfl,by simp,by simp,by simp[h1],by simp[C2,n6]⟩
end Go.Cur
end
section
namespace Go.Cur
open Go.AM Go.Proofs
def bAt (l:List Bool) (k:Nat):Bool:=(l[k]?).getD false
theorem v9 {l:List Bool} {k:Nat} (h:k<l.length):l[k]?=some (bAt l k):=by
 unfold bAt;rw[List.getElem?_eq_getElem h];rfl
theorem c1b {l:List Bool} {k:Nat} {b:Bool} (h:l[k]?=some b):bAt l k=b:=by simp[bAt,h]
def a5P (g:Gr) (s:Sta):Nat→Bool
 |0=>true
 |k+1=>a5P g s k&&(match g.Wires[k]? with|some w=>w.Sw||bAt s.Wires k|none=>true)
def stB (g:Gr) (s:Sta):Bool:=decide (s.Feeds.length=g.Feeds.length)&&decide (s.Wires.length=g.Wires.length)&&a5P g s g.Wires.length
def lkv (l:List Ld):List (List KC×Value):=l.map fun f=>(ik f.At, .bool true)
theorem b3Q:∀(l:List Ld) (x:Int),t5 (lkv l) (ik x)=if (l.any fun f=>decide (f.At=x))=true then some (.bool true)else none
 |[],x=>rfl
 |f::l,x=>by
  have ih:=b3Q l x;simp only[lkv]at ih;simp only[lkv,List.map_cons,t5,List.any_cons,Bool.or_eq_true,decide_eq_true_eq]
  by_cases h:f.At=x
  ·rw[if_pos (by rw[h]),if_pos (Or.inl h)]
  ·rw[if_neg (fun e=>h (P6.1 e).symm),ih];simp only[h,false_or]
theorem y4 (l:List Ld) (x:Int):((t5 (lkv l) (ik x)).getD (.bool false))= .bool (l.any fun f=>decide (f.At=x)):=by
 rw[b3Q]
 cases (l.any fun f=>decide (f.At=x))<;>rfl
theorem a1G:∀(l:List Ld) (f:Ld),(l.any fun x=>decide (x.At=f.At))=false→y5 (lkv l) (ik f.At) (.bool true)=lkv (l++[f])
 |[],f,_=>rfl
 |x::l,f,h=>by
  simp only[List.any_cons,Bool.or_eq_false_iff,decide_eq_false_iff_not]at h;have ih:=a1G l f h.2;simp only[lkv]at ih;simp only[lkv,List.map_cons,List.cons_append,y5];rw[if_neg (fun e=>h.1 (P6.1 e).symm),ih]
def ldB (g:Gr) (l:List Ld) (f:Ld):Bool:=inr f.At 0 (g.Nodes-1)&&inr f.Units (-40) 40&&inr f.Rank 0 100&& !(l.any fun x=>decide (x.At=f.At))
def a1D (g:Gr) (l:List Ld):Nat→Bool
 |0=>true
 |k+1=>a1D g l k&&(match l[k]? with|some f=>ldB g (l.take k) f|none=>true)
def t7 (g:Gr) (s:Sta) (l:List Ld):Bool:=grB g&&stB g s&&a1D g l l.length
theorem a8B {g:Gr} {s:Sta} {k:Nat} (h:a5P g s k=false):∀d,a5P g s (k+d)=false
 |0=>h
 |d+1=>by rw[←Nat.add_assoc];simp only[a5P,a8B h d,Bool.false_and]
theorem a7t {g:Gr} {l:List Ld} {k:Nat} (h:a1D g l k=false):∀d,a1D g l (k+d)=false
 |0=>h
 |d+1=>by rw[←Nat.add_assoc];simp only[a1D,a7t h d,Bool.false_and]
theorem b6R {g:Gr} {s:Sta} {l:List Ld} {k:Nat} {w:Wr} (hw:g.Wires[k]?=some w) (h:(w.Sw||bAt s.Wires k)=false):t7 g s l=false:=by
 have hk:=(List.getElem?_eq_some_iff.1 hw).1;have h1:a5P g s (k+1)=false:=by simp only[a5P,hw,h,Bool.and_false]
 have h2:=a8B h1 (g.Wires.length-(k+1));rw[show k+1+(g.Wires.length-(k+1))=g.Wires.length by omega]at h2;simp[t7,stB,h2]
theorem b6W {g:Gr} {s:Sta} {l:List Ld} {k:Nat} {f:Ld} (hf:l[k]?=some f) (h:ldB g (l.take k) f=false):t7 g s l=false:=by
 have hk:=(List.getElem?_eq_some_iff.1 hf).1;have h1:a1D g l (k+1)=false:=by simp only[a1D,hf,h,Bool.and_false]
 have h2:=a7t h1 (l.length-(k+1));rw[show k+1+(l.length-(k+1))=l.length by omega]at h2;simp[t7,h2]
@[simp] def ntC (g:Gr) (fe wi:AV):List AV:=g.cells++[fe,wi]
abbrev net (g:Gr) (s:Sta):AV:= .iptr (ntC g (bL s.Feeds) (bL s.Wires))
theorem c0y (t:List Bool) (hne:t≠[]) (hn:t.length≤1000):O1 Try.prog 73 [bL t] 0 t.length 1 (t.map i9):=by
 have f1:I9 t.length 2:=m8 (by omega) (by omega);refine O1.of_body Try.func73 rfl (by decide) (by simp[Try.ntmps73]) (by simp) (by simpa using hne) ?_;simp only[Try.ntmps73,Try.results73];refine aS fun K hK=>?_;simp -dsimp;apply hK;clear hK K;refine b8 fun K1 hK1=>?_;refine aS fun K hK=>?_;simp -dsimp [hne];apply hK;clear hK K;refine d8 rfl (fun hc0=>?_) (fun hc0=>?_)
 ·simp at hc0
 ·refine f5 ?_;simp only[zT,reduceIte,Nat.reduceEqDiff];refine hK1 _ _ ?_;refine b7 [0] ?_;simp only[zP,Nat.reduceEqDiff,reduceIte];refine aS fun K hK=>?_;simp -dsimp [hne,f1];apply hK;clear hK K;exact g7 ⟨2,0,rfl,by simp,by simp⟩
theorem t9 {g:Gr} (h:grB g=true):1≤g.Nodes∧g.Nodes≤40∧g.Wires.length≤80∧g.Feeds.length≤12∧0≤g.Least∧g.Least≤1000:=by
 simp only[grB,grH,Bool.and_eq_true,decide_eq_true_eq,t4]at h;omega
theorem a6p (g:Gr) (s:Sta) (l:List Ld) (hl:l.length≤1000) (hfine:t7 g s l=false):d6 Try.prog 47 [g.av,s.av,lL l] (.tup [.v (.pointer none),Bo false]):=by
 refine d6.of_body Try.func47 rfl (by decide) (by simp[Try.ntmps47]) ?_;simp only[Try.ntmps47,Try.results47];refine aS fun K hK=>?_;simp -dsimp;apply hK;clear hK K;refine b8 fun K1 hK1=>?_;refine aS fun K hK=>?_;simp -dsimp [okE];refine d5 _ (a8i g) (by simp) ?_;simp -dsimp [okE];apply hK;clear hK K;refine d8 rfl (fun hc0=>?_) (fun hc0=>?_)
 ·refine aS fun K hK=>?_;simp -dsimp;apply hK;clear hK K;exact g7 (by simp)
 ·have hgo:grB g=true∧s.Feeds.length=g.Feeds.length∧s.Wires.length=g.Wires.length:=by
   cases hg:grB g with
   |false=>simp[hg]at hc0
   |true=>simp[hg]at hc0;exact⟨rfl,by omega,by omega⟩
  have hb:=t9 hgo.1;refine f5 ?_;simp only[zT,reduceIte,Nat.reduceEqDiff];refine hK1 _ _ ?_;refine b7 [2,3,4] ?_;simp only[zP,Nat.reduceEqDiff,reduceIte];refine b8 fun K2 hK2=>?_;refine aS fun K hK=>?_;simp -dsimp;apply hK;clear hK K;refine e8 ?_;refine b7 [2,3,4,35,36,37] ?_;simp only[zP,Nat.reduceEqDiff,reduceIte];refine i4 [2,3,4,35,36] (α:=Nat) (fun k=>[(37,I k)]) (fun k=>[some (.els 4 [g.cells]),some (.els 2 [s.cells])]) (fun k=>k≤g.Wires.length∧a5P g s k=true) (fun k=>g.Wires.length-k) 0 ?_ ?_ ?_
  ·exact⟨Nat.zero_le _,rfl⟩
  ·exact j9 (by simp)
  rintro k ⟨k1,k2⟩;simp only[zP,Nat.reduceEqDiff,reduceIte];refine aS fun K hK=>?_;simp -dsimp;apply hK;clear hK K;refine b8 fun K3 hK3=>?_;refine d8 rfl (fun hc1=>?_) (fun hc1=>?_)
  ·skip
   try simp at hc1
   obtain⟨w,hw⟩:∃w,g.Wires[k]?=some w:=⟨_,List.getElem?_eq_getElem hc1⟩;have wk:=zW k (by omega);have gb:=v9 (l:=s.Wires) (k:=k) (by omega);refine f5 ?_;simp only[zT,reduceIte,Nat.reduceEqDiff];refine hK3 _ _ ?_;refine b7 [2,3,4,35,36,37] ?_;simp only[zP,Nat.reduceEqDiff,reduceIte];refine b8 fun K4 hK4=>?_;refine e8 ?_;refine aS fun K hK=>?_;simp -dsimp [hw];apply hK;clear hK K;refine aS fun K hK=>?_;simp -dsimp [gb,hgo.2.2];refine l3 (i9 (bAt s.Wires k)) (fun _=>by simp[gb]) ?_;simp -dsimp [gb,hgo.2.2];apply hK;clear hK K;refine d8 rfl (fun hc2=>?_) (fun hc2=>?_)
   ·skip
    try simp at hc2
    refine aS fun K hK=>?_;simp -dsimp;apply hK;clear hK K;exact g7 (by simp)
   ·skip
    try simp at hc2
    refine f5 ?_;simp only[zT,reduceIte,Nat.reduceEqDiff];refine hK4 _ _ ?_;refine b7 [2,3,4,35,36,37] ?_;simp only[zP,Nat.reduceEqDiff,reduceIte];refine aR fun K hK=>?_;simp -dsimp [wk];apply hK;clear hK K;simp only[zT,reduceIte,Nat.reduceEqDiff];refine⟨k+1,⟨by omega,?_⟩,by omega,e9 [some 0,some 1] rfl (by simp) (by simp)⟩;simp only[a5P,k2,hw,Bool.true_and]
    cases hw1:w.Sw<;>cases hb1:bAt s.Wires k<;>simp[hw1,hb1]at hc2 ⊢
  ·skip
   try simp at hc1
   have hke:k=g.Wires.length:=by omega
   subst hke;refine j8 ?_;simp only[zT,reduceIte,Nat.reduceEqDiff];refine hK2 _ _ ?_;refine b7 [2,3,4] ?_;simp only[zP,Nat.reduceEqDiff,reduceIte];refine aS fun K hK=>?_;simp -dsimp;apply hK;clear hK K;refine b8 fun K5 hK5=>?_;refine aS fun K hK=>?_;simp -dsimp;apply hK;clear hK K;refine e8 ?_;refine b7 [3,4,10,55,56,57] ?_;simp only[zP,Nat.reduceEqDiff,reduceIte];refine i4 [3,4,10,55,56] (α:=Nat) (fun k=>[(57,I k)]) (fun k=>[some (.els 4 [g.cells]),some (.els 2 [s.cells]),some (.map false [.i .i64] (lkv (l.take k)))]) (fun k=>k≤l.length∧a1D g l k=true) (fun k=>l.length-k) 0 ?_ ?_ ?_
   ·exact⟨Nat.zero_le _,rfl⟩
   ·exact e9 [some 0,some 1,some 2] rfl (by simp) (by simp[lkv])
   rintro i ⟨i1,i2⟩;simp only[zP,Nat.reduceEqDiff,reduceIte];refine aS fun K hK=>?_;simp -dsimp;apply hK;clear hK K;refine b8 fun K6 hK6=>?_;refine d8 rfl (fun hc3=>?_) (fun hc3=>?_)
   ·skip
    try simp at hc3
    obtain⟨f,hf⟩:∃f,l[i]?=some f:=⟨_,List.getElem?_eq_getElem hc3⟩;have wi:=zW i (by omega);have wn:IntKind.i64.wrap (g.Nodes-1)=g.Nodes-1:=f7 (by omega) (by omega);refine f5 ?_;simp only[zT,reduceIte,Nat.reduceEqDiff];refine hK6 _ _ ?_;refine b7 [3,4,10,55,56,57] ?_;simp only[zP,Nat.reduceEqDiff,reduceIte];refine b8 fun K7 hK7=>?_;refine e8 ?_;refine aS fun K hK=>?_;simp -dsimp [hf];apply hK;clear hK K;refine b8 fun K8 hK8=>?_;refine aS fun K hK=>?_;simp -dsimp [wn,y4];refine d5 _ (u0 _ _ _) (by simp) ?_;simp -dsimp [wn,y4];refine g8 _ (fun hm=>u0 f.Units (-40) 40) (by simp) ?_;simp -dsimp [wn,y4];refine g8 _ (fun hm=>u0 f.Rank 0 100) (by simp) ?_;simp -dsimp [wn,y4];refine o4 (_) (fun hm=>rfl) ?_;simp -dsimp [wn,y4];apply hK;clear hK K;refine d8 rfl (fun hc4=>?_) (fun hc4=>?_)
    ·have hfd:ldB g (l.take i) f= !(!inr f.At 0 (g.Nodes-1)|| !inr f.Units (-40) 40|| !inr f.Rank 0 100||((l.take i).any fun x=>decide (x.At=f.At))):=by
      simp only[ldB]
      cases inr f.At 0 (g.Nodes-1)<;>cases inr f.Units (-40) 40<;>cases inr f.Rank 0 100<;>cases ((l.take i).any fun x=>decide (x.At=f.At))<;>rfl
     refine aS fun K hK=>?_;simp -dsimp;apply hK;clear hK K;exact g7 (by simp)
    ·have hfd:ldB g (l.take i) f= !(!inr f.At 0 (g.Nodes-1)|| !inr f.Units (-40) 40|| !inr f.Rank 0 100||((l.take i).any fun x=>decide (x.At=f.At))):=by
      simp only[ldB]
      cases inr f.At 0 (g.Nodes-1)<;>cases inr f.Units (-40) 40<;>cases inr f.Rank 0 100<;>cases ((l.take i).any fun x=>decide (x.At=f.At))<;>rfl
     have hany:((l.take i).any fun x=>decide (x.At=f.At))=false:=by
      cases h:((l.take i).any fun x=>decide (x.At=f.At))with
      |false=>rfl
      |true=>rw[h]at hc4;simp at hc4
     refine f5 ?_;simp only[zT,reduceIte,Nat.reduceEqDiff];refine hK8 _ _ ?_;refine b7 [3,4,10,12,55,56,57] ?_;simp only[zP,Nat.reduceEqDiff,reduceIte];refine aR fun K hK=>?_;simp -dsimp [a1G _ _ hany];apply hK;clear hK K;simp only[zT,reduceIte,Nat.reduceEqDiff];refine hK7 _ _ ?_;refine b7 [3,4,10,55,56,57] ?_;simp only[zP,Nat.reduceEqDiff,reduceIte];refine aR fun K hK=>?_;simp -dsimp [wi];apply hK;clear hK K;simp only[zT,reduceIte,Nat.reduceEqDiff];refine⟨i+1,⟨by omega,?_⟩,by omega,e9 [some 0,some 1,some 2] rfl (by simp) (by simp[List.take_add_one,hf])⟩;simp only[a1D,i2,hf,hfd,hc4];rfl
   ·skip
    try simp at hc3
    have hie:i=l.length:=by omega
    subst hie;exfalso;simp[t7,stB,hgo.1,hgo.2.1,hgo.2.2,k2,i2]at hfine
theorem R2 (g:Gr) (s:Sta) (l:List Ld) (hl:l.length≤1000) (hfine:t7 g s l=true):d6 Try.prog 47 [g.av,s.av,lL l] (.tup [net g s,Bo true]):=by
 have hfine0:=hfine;simp only[t7,stB,Bool.and_eq_true,decide_eq_true_eq]at hfine0;have hgo:grB g=true∧s.Feeds.length=g.Feeds.length∧s.Wires.length=g.Wires.length:=⟨hfine0.1.1,hfine0.1.2.1.1,hfine0.1.2.1.2⟩;refine d6.of_body Try.func47 rfl (by decide) (by simp[Try.ntmps47]) ?_;simp only[Try.ntmps47,Try.results47];refine aS fun K hK=>?_;simp -dsimp;apply hK;clear hK K;refine b8 fun K1 hK1=>?_;refine aS fun K hK=>?_;simp -dsimp [okE];refine d5 _ (a8i g) (by simp) ?_;simp -dsimp [okE];apply hK;clear hK K;refine d8 rfl (fun hc0=>?_) (fun hc0=>?_)
 ·exfalso;simp[hgo.1,hgo.2.1,hgo.2.2]at hc0
 ·have hb:=t9 hgo.1;refine f5 ?_;simp only[zT,reduceIte,Nat.reduceEqDiff];refine hK1 _ _ ?_;refine b7 [2,3,4] ?_;simp only[zP,Nat.reduceEqDiff,reduceIte];refine b8 fun K2 hK2=>?_;refine aS fun K hK=>?_;simp -dsimp;apply hK;clear hK K;refine e8 ?_;refine b7 [2,3,4,35,36,37] ?_;simp only[zP,Nat.reduceEqDiff,reduceIte];refine i4 [2,3,4,35,36] (α:=Nat) (fun k=>[(37,I k)]) (fun k=>[some (.els 4 [g.cells]),some (.els 2 [s.cells])]) (fun k=>k≤g.Wires.length∧a5P g s k=true) (fun k=>g.Wires.length-k) 0 ?_ ?_ ?_
  ·exact⟨Nat.zero_le _,rfl⟩
  ·exact j9 (by simp)
  rintro k ⟨k1,k2⟩;simp only[zP,Nat.reduceEqDiff,reduceIte];refine aS fun K hK=>?_;simp -dsimp;apply hK;clear hK K;refine b8 fun K3 hK3=>?_;refine d8 rfl (fun hc1=>?_) (fun hc1=>?_)
  ·skip
   try simp at hc1
   obtain⟨w,hw⟩:∃w,g.Wires[k]?=some w:=⟨_,List.getElem?_eq_getElem hc1⟩;have wk:=zW k (by omega);have gb:=v9 (l:=s.Wires) (k:=k) (by omega);refine f5 ?_;simp only[zT,reduceIte,Nat.reduceEqDiff];refine hK3 _ _ ?_;refine b7 [2,3,4,35,36,37] ?_;simp only[zP,Nat.reduceEqDiff,reduceIte];refine b8 fun K4 hK4=>?_;refine e8 ?_;refine aS fun K hK=>?_;simp -dsimp [hw];apply hK;clear hK K;refine aS fun K hK=>?_;simp -dsimp [gb,hgo.2.2];refine l3 (i9 (bAt s.Wires k)) (fun _=>by simp[gb]) ?_;simp -dsimp [gb,hgo.2.2];apply hK;clear hK K;refine d8 rfl (fun hc2=>?_) (fun hc2=>?_)
   ·exfalso;have hfl:(w.Sw||bAt s.Wires k)=false:=by cases hw1:w.Sw<;>cases hb1:bAt s.Wires k<;>simp[hw1,hb1]at hc2 ⊢
    rw[b6R hw hfl]at hfine;cases hfine
   ·refine f5 ?_;simp only[zT,reduceIte,Nat.reduceEqDiff];refine hK4 _ _ ?_;refine b7 [2,3,4,35,36,37] ?_;simp only[zP,Nat.reduceEqDiff,reduceIte];refine aR fun K hK=>?_;simp -dsimp [wk];apply hK;clear hK K;simp only[zT,reduceIte,Nat.reduceEqDiff];refine⟨k+1,⟨by omega,?_⟩,by omega,e9 [some 0,some 1] rfl (by simp) (by simp)⟩;simp only[a5P,k2,hw,Bool.true_and]
    cases hw1:w.Sw<;>cases hb1:bAt s.Wires k<;>simp[hw1,hb1]at hc2 ⊢
  ·skip
   try simp at hc1
   have hke:k=g.Wires.length:=by omega
   subst hke;refine j8 ?_;simp only[zT,reduceIte,Nat.reduceEqDiff];refine hK2 _ _ ?_;refine b7 [2,3,4] ?_;simp only[zP,Nat.reduceEqDiff,reduceIte];refine aS fun K hK=>?_;simp -dsimp;apply hK;clear hK K;refine b8 fun K5 hK5=>?_;refine aS fun K hK=>?_;simp -dsimp;apply hK;clear hK K;refine e8 ?_;refine b7 [3,4,10,55,56,57] ?_;simp only[zP,Nat.reduceEqDiff,reduceIte];refine i4 [3,4,10,55,56] (α:=Nat) (fun k=>[(57,I k)]) (fun k=>[some (.els 4 [g.cells]),some (.els 2 [s.cells]),some (.map false [.i .i64] (lkv (l.take k)))]) (fun k=>k≤l.length∧a1D g l k=true) (fun k=>l.length-k) 0 ?_ ?_ ?_
   ·exact⟨Nat.zero_le _,rfl⟩
   ·exact e9 [some 0,some 1,some 2] rfl (by simp) (by simp[lkv])
   rintro i ⟨i1,i2⟩;simp only[zP,Nat.reduceEqDiff,reduceIte];refine aS fun K hK=>?_;simp -dsimp;apply hK;clear hK K;refine b8 fun K6 hK6=>?_;refine d8 rfl (fun hc3=>?_) (fun hc3=>?_)
   ·skip
    try simp at hc3
    obtain⟨f,hf⟩:∃f,l[i]?=some f:=⟨_,List.getElem?_eq_getElem hc3⟩;have wi:=zW i (by omega);have wn:IntKind.i64.wrap (g.Nodes-1)=g.Nodes-1:=f7 (by omega) (by omega);refine f5 ?_;simp only[zT,reduceIte,Nat.reduceEqDiff];refine hK6 _ _ ?_;refine b7 [3,4,10,55,56,57] ?_;simp only[zP,Nat.reduceEqDiff,reduceIte];refine b8 fun K7 hK7=>?_;refine e8 ?_;refine aS fun K hK=>?_;simp -dsimp [hf];apply hK;clear hK K;refine b8 fun K8 hK8=>?_;refine aS fun K hK=>?_;simp -dsimp [wn,y4];refine d5 _ (u0 _ _ _) (by simp) ?_;simp -dsimp [wn,y4];refine g8 _ (fun hm=>u0 f.Units (-40) 40) (by simp) ?_;simp -dsimp [wn,y4];refine g8 _ (fun hm=>u0 f.Rank 0 100) (by simp) ?_;simp -dsimp [wn,y4];refine o4 (_) (fun hm=>rfl) ?_;simp -dsimp [wn,y4];apply hK;clear hK K;refine d8 rfl (fun hc4=>?_) (fun hc4=>?_)
    ·have hfd:ldB g (l.take i) f= !(!inr f.At 0 (g.Nodes-1)|| !inr f.Units (-40) 40|| !inr f.Rank 0 100||((l.take i).any fun x=>decide (x.At=f.At))):=by
      simp only[ldB]
      cases inr f.At 0 (g.Nodes-1)<;>cases inr f.Units (-40) 40<;>cases inr f.Rank 0 100<;>cases ((l.take i).any fun x=>decide (x.At=f.At))<;>rfl
     exfalso;rw[b6W hf (by rw[hfd,hc4];rfl)]at hfine;cases hfine
    ·have hfd:ldB g (l.take i) f= !(!inr f.At 0 (g.Nodes-1)|| !inr f.Units (-40) 40|| !inr f.Rank 0 100||((l.take i).any fun x=>decide (x.At=f.At))):=by
      simp only[ldB]
      cases inr f.At 0 (g.Nodes-1)<;>cases inr f.Units (-40) 40<;>cases inr f.Rank 0 100<;>cases ((l.take i).any fun x=>decide (x.At=f.At))<;>rfl
     have hany:((l.take i).any fun x=>decide (x.At=f.At))=false:=by
      cases h:((l.take i).any fun x=>decide (x.At=f.At))with
      |false=>rfl
      |true=>rw[h]at hc4;simp at hc4
     refine f5 ?_;simp only[zT,reduceIte,Nat.reduceEqDiff];refine hK8 _ _ ?_;refine b7 [3,4,10,12,55,56,57] ?_;simp only[zP,Nat.reduceEqDiff,reduceIte];refine aR fun K hK=>?_;simp -dsimp [a1G _ _ hany];apply hK;clear hK K;simp only[zT,reduceIte,Nat.reduceEqDiff];refine hK7 _ _ ?_;refine b7 [3,4,10,55,56,57] ?_;simp only[zP,Nat.reduceEqDiff,reduceIte];refine aR fun K hK=>?_;simp -dsimp [wi];apply hK;clear hK K;simp only[zT,reduceIte,Nat.reduceEqDiff];refine⟨i+1,⟨by omega,?_⟩,by omega,e9 [some 0,some 1,some 2] rfl (by simp) (by simp[List.take_add_one,hf])⟩;simp only[a1D,i2,hf,hfd,hc4];rfl
   ·skip
    try simp at hc3
    refine j8 ?_;simp only[zT,reduceIte,Nat.reduceEqDiff];refine hK5 _ _ ?_;refine b7 [3,4] ?_;simp only[zP,Nat.reduceEqDiff,reduceIte];refine s9 l9 rfl fun K hK=>?_;simp -dsimp;refine d5 _ (B6 s.Feeds (by omega)) (by simp) ?_;simp -dsimp;refine d5 _ (B6 s.Wires (by omega)) (by simp) ?_;simp -dsimp;refine hK _ _ _ (by decide+kernel) ?_;clear hK K;exact g7 (by simp)
end Go.Cur
end
section
namespace Go.Cur
open Go.AM Go.Proofs
theorem b8r {nt:Nat} {T:Tm} {H:Hp} (g:List (Option Nat)) (hn:C7 g=true):Go.AM.Sub nt T H (T.map fun p=>(p.1,S9 (m6 H) g 3 (Go.AM.l6 T p.1))) (a0H H g):=by
 refine D5 g hn ?_ rfl;have gen:∀(T':Tm),a1s H g T (T'.map fun p=>(p.1,S9 (m6 H) g 3 (Go.AM.l6 T p.1))):=by
  intro T'
  induction T' with
  |nil=>trivial
  |cons p T' ih=>exact⟨Or.inr rfl,ih⟩
 exact gen T
def tkS (s:List (List KC×Value)) (p:Ld×Bool):List (List KC×Value):=if p.2 then y5 s (ik p.1.At) (.int .i64 p.1.Units)else s
def tkK (l:List Ld) (sv:List Bool):List (List KC×Value):=(l.zip sv).foldl tkS []
def a5D (x:Int) (c:Int) (p:Ld×Bool):Int:=if p.2=true∧p.1.At=x then p.1.Units else c
def cur (l:List Ld) (sv:List Bool) (x:Int):Int:=(l.zip sv).foldl (a5D x) 0
theorem W0 (l:List Ld) (sv:List Bool):a1i (tkK l sv):=by
 have gen:∀(l:List (Ld×Bool)) (s:List (List KC×Value)),a1i s→a1i (l.foldl tkS s):=by
  intro l
  induction l with
  |nil=>intro s h;exact h
  |cons w l ih=>
   intro s h;refine ih _ ?_;unfold tkS
   split
   ·exact h.set _ _
   ·exact h
 exact gen _ [] a1i.nil
theorem X0 (l:List Ld) (sv:List Bool) (x:Int):igt (tkK l sv) x=cur l sv x:=by
 have gen:∀(l:List (Ld×Bool)) (s:List (List KC×Value)),igt (l.foldl tkS s) x=l.foldl (a5D x) (igt s x):=by
  intro l
  induction l with
  |nil=>intro s;rfl
  | cons w l ih=>
   intro s;rw[List.foldl_cons,List.foldl_cons,ih]
   congr 1
   unfold tkS a5D
   by_cases h:w.2=true
   ·rw[if_pos h,a2v]
    by_cases hx:w.1.At=x
    ·rw[if_pos hx.symm,if_pos ⟨h,hx⟩]
    ·rw[if_neg (fun e=>hx e.symm),if_neg (fun e=>hx e.2)]
   ·rw[if_neg h,if_neg (fun e=>h e.1)]
 exact gen _ []
theorem a9w {l:List Ld} {sv:List Bool} {k:Nat} {f:Ld} {b:Bool} (hl:l[k]?=some f) (hs:sv[k]?=some b):tkK (l.take (k+1)) (sv.take (k+1))=tkS (tkK (l.take k) (sv.take k)) (f,b):=by
 have hk:=(List.getElem?_eq_some_iff.1 hl).1;have hk2:=(List.getElem?_eq_some_iff.1 hs).1;unfold tkK;rw[List.take_add_one,List.take_add_one,hl,hs,List.zip_append (by simp;omega)];simp
theorem b6f {n k:Nat} (h:k<n):(List.replicate n true)[k]?=some true:=by simp[h]
theorem b0q (l:List Ld) (sv:List Bool) (hl:l.length≤1000) (hs:∀k,k<l.length→sv[k]?=some true) (hsl:sv.take l.length=sv):d6 Try.prog 50 [lL l, .v (.slice none 0 0)] (.mpc false [.i .i64] (tkK l sv)):=by
 refine d6.of_body Try.func50 rfl (by decide) (by simp[Try.ntmps50]) ?_;simp only[Try.ntmps50,Try.results50];refine aS fun K hK=>?_;simp -dsimp;apply hK;clear hK K;refine aS fun K hK=>?_;simp -dsimp;apply hK;clear hK K;refine b8 fun K1 hK1=>?_;refine aS fun K hK=>?_;simp -dsimp;apply hK;clear hK K;refine e8 ?_;refine b7 [1,5,9,10,11] ?_;simp only[zP,Nat.reduceEqDiff,reduceIte];refine i4 [1,5,9,10] (α:=Nat) (fun k=>[(11,I k)]) (fun k=>[some (.map false [.i .i64] (tkK (l.take k) (sv.take k)))]) (fun k=>k≤l.length) (fun k=>l.length-k) 0 ?_ ?_ ?_
 ·exact Nat.zero_le _
 ·exact j9 (by simp[tkK])
 rintro k k1;simp only[zP,Nat.reduceEqDiff,reduceIte];refine aS fun K hK=>?_;simp -dsimp;apply hK;clear hK K;refine b8 fun K2 hK2=>?_;refine d8 rfl (fun hc0=>?_) (fun hc0=>?_)
 ·skip
  try simp at hc0
  obtain⟨f,hf⟩:∃f,l[k]?=some f:=⟨_,List.getElem?_eq_getElem hc0⟩;have wk:=zW k (by omega);have hsn:=a9w hf (hs k hc0);refine f5 ?_;simp only[zT,reduceIte,Nat.reduceEqDiff];refine hK2 _ _ ?_;refine b7 [1,5,9,10,11] ?_;simp only[zP,Nat.reduceEqDiff,reduceIte];refine b8 fun K3 hK3=>?_;refine e8 ?_;refine aS fun K hK=>?_;simp -dsimp [hf];apply hK;clear hK K;refine aS fun K hK=>?_;simp -dsimp;apply hK;clear hK K;refine d8 rfl (fun hc1=>?_) (fun hc1=>?_)
  ·refine aR fun K hK=>?_;simp -dsimp;apply hK;clear hK K;simp only[zT,reduceIte,Nat.reduceEqDiff];refine hK3 _ _ ?_;refine b7 [1,5,9,10,11] ?_;simp only[zP,Nat.reduceEqDiff,reduceIte];refine aR fun K hK=>?_;simp -dsimp [wk];apply hK;clear hK K;simp only[zT,reduceIte,Nat.reduceEqDiff];exact⟨k+1,by omega,by omega,e9 [some 0] rfl (by simp) (by simp[hsn,tkS])⟩
  ·simp at hc1
 ·skip
  try simp at hc0
  have hke:k=l.length:=by omega
  subst hke;refine j8 ?_;simp only[zT,reduceIte,Nat.reduceEqDiff];refine hK1 _ _ ?_;refine b7 [5] ?_;simp only[zP,Nat.reduceEqDiff,reduceIte];refine aS fun K hK=>?_;simp -dsimp;apply hK;clear hK K;exact g7 (by simp[hsl])
theorem a1Y (l:List Ld) (hl:l.length≤1000):d6 Try.prog 50 [lL l, .v (.slice none 0 0)] (.mpc false [.i .i64] (tkK l (List.replicate l.length true))):=b0q l _ hl (fun k hk=>b6f hk) (by simp)
theorem c0j (l:List Int) (f:FuncId) (cl:List (List AV)) (q:Int→Bool) (h:∀x∈l,d6 Try.prog f (I x::a5B cl) (Bo (q x))) (hl:l.length≤1000):d6 Try.prog 89 [iL l, .clo f (a5B cl)] (iL (l.filter q)):=by
 refine d6.of_body Try.func89 rfl (by decide) (by simp[Try.ntmps89]) ?_;simp only[Try.ntmps89,Try.results89];refine aS fun K hK=>?_;simp -dsimp;apply hK;clear hK K;refine aS fun K hK=>?_;simp -dsimp;apply hK;clear hK K;refine b8 fun K1 hK1=>?_;refine aS fun K hK=>?_;simp -dsimp;apply hK;clear hK K;refine e8 ?_;refine b7 [1,5,8,9,10] ?_;simp only[zP,Nat.reduceEqDiff,reduceIte];refine i4 [1,8,9] (α:=Nat) (fun k=>[(5, .row 0 0 ((l.take k).filter q).length),(10,I k)]) (fun k=>[some (.els 1 (((l.take k).filter q).map j0))]) (fun k=>k≤l.length) (fun k=>l.length-k) 0 ?_ ?_ ?_
 ·exact Nat.zero_le _
 ·exact(H4 5 1 (by simp)).trans (j9 (by simp))
 rintro k k1;simp only[zP,Nat.reduceEqDiff,reduceIte];refine aS fun K hK=>?_;simp -dsimp;apply hK;clear hK K;refine b8 fun K2 hK2=>?_;refine d8 rfl (fun hc0=>?_) (fun hc0=>?_)
 ·skip
  try simp at hc0
  obtain⟨x,hx⟩:∃x,l[k]?=some x:=⟨_,List.getElem?_eq_getElem hc0⟩;have wk:=zW k (by omega);have hfl:((l.take k).filter q).length≤k:=by have:=List.length_filter_le q (l.take k);rw[List.length_take]at this;omega
  have hfs:(l.take (k+1)).filter q=(l.take k).filter q++if q x then [x]else []:=by rw[List.take_add_one,hx,List.filter_append];cases hq:q x<;>simp[hq]
  have f1:I9 (((l.take k).filter q).length+1) 9:=m8 (by omega) (by omega);generalize (l.take k).filter q=L at hfs hfl f1 ⊢;refine f5 ?_;simp only[zT,reduceIte,Nat.reduceEqDiff];refine hK2 _ _ ?_;refine b7 [1,5,8,9,10] ?_;simp only[zP,Nat.reduceEqDiff,reduceIte];refine b8 fun K3 hK3=>?_;refine e8 ?_;refine aS fun K hK=>?_;simp -dsimp [hx];apply hK;clear hK K;refine aS fun K hK=>?_;simp -dsimp;refine d5 _ (h x (List.mem_of_getElem? hx)) (by simp) ?_;simp -dsimp;apply hK;clear hK K;refine d8 rfl (fun hc1=>?_) (fun hc1=>?_)
  ·refine aR fun K hK=>?_;simp -dsimp [f1];apply hK;clear hK K;simp only[zT,reduceIte,Nat.reduceEqDiff];refine hK3 _ _ ?_;refine b7 [1,5,8,9,10] ?_;simp only[zP,Nat.reduceEqDiff,reduceIte];refine aR fun K hK=>?_;simp -dsimp [wk];apply hK;clear hK K;simp only[zT,reduceIte,Nat.reduceEqDiff];exact⟨k+1,by omega,by omega,e9 [some 1] rfl (by simp[hfs,hc1]) (by simp[hfs,hc1])⟩
  ·refine f5 ?_;simp only[zT,reduceIte,Nat.reduceEqDiff];refine hK3 _ _ ?_;refine b7 [1,5,8,9,10] ?_;simp only[zP,Nat.reduceEqDiff,reduceIte];refine aR fun K hK=>?_;simp -dsimp [wk];apply hK;clear hK K;simp only[zT,reduceIte,Nat.reduceEqDiff];exact⟨k+1,by omega,by omega,e9 [some 0] rfl (by simp[hfs,hc1]) (by simp[hfs,hc1])⟩
 ·skip
  try simp at hc0
  have hke:k=l.length:=by omega
  subst hke;refine j8 ?_;simp only[zT,reduceIte,Nat.reduceEqDiff];refine hK1 _ _ ?_;refine b7 [5] ?_;simp only[zP,Nat.reduceEqDiff,reduceIte];refine aS fun K hK=>?_;simp -dsimp;apply hK;clear hK K;exact g7 (by simp)
def fdI (g:Gr) (i:Int):Fd:=(g.Feeds[i.toNat]?).getD default
theorem a0B {g:Gr} {i:Int} (h0:0≤i) (h1:i<g.Feeds.length):g.Feeds[i.toNat]?=some (fdI g i):=by
 unfold fdI;rw[List.getElem?_eq_getElem (by omega)];rfl
def upI (n:Nat):List Int:=(List.range n).map fun(k:Nat)=>(k:Int)
theorem a8D {n:Nat} {i:Int}:i∈upI n↔0≤i∧i<n:=by
 simp only[upI,List.mem_map,List.mem_range];constructor
 ·rintro⟨k,hk,rfl⟩;omega
 ·rintro⟨h0,h1⟩;exact⟨i.toNat,by omega,by omega⟩
theorem M9 (n:Nat):(upI n).length=n:=by simp[upI]
@[simp] theorem c1N (n:Nat):List.take n ((upI n).map j0)=(upI n).map j0:=List.take_of_length_le (by simp[M9])
theorem a5g (n:Nat):upI (n+1)=upI n++[(n:Int)]:=by simp[upI,List.range_succ]
def a3e (g:Gr) (s:Sta) (part:List Int) (i:Int):Bool:=bAt s.Feeds i.toNat&&decide ((fdI g i).At∈part)
def k8 (g:Gr) (s:Sta) (part:List Int):List Int:=(upI g.Feeds.length).filter (a3e g s part)
theorem b6g (g:Gr) (s:Sta) (part:List Int) (i:Int) (hs:s.Feeds.length=g.Feeds.length) (hp:part.length≤1000) (h0:0≤i) (h1:i<g.Feeds.length):
  d6 Try.prog 90 (I i::a5B [[net g s],[iL part]]) (Bo (a3e g s part i)):=by
 show d6 Try.prog 90 [I i, .iptr [net g s], .iptr [iL part]] (Bo (a3e g s part i));have gb:=v9 (l:=s.Feeds) (k:=i.toNat) (by omega);have gf:=a0B h0 h1;refine d6.of_body Try.func90 rfl (by decide) (by simp[Try.ntmps90]) ?_;simp only[Try.ntmps90,Try.results90];refine aS fun K hK=>?_;simp -dsimp;apply hK;clear hK K;refine s9 l9 rfl fun K hK=>?_;simp -dsimp [gb,gf,h0];refine l3 (fdI g i).cells (fun _=>by simp[gf]) ?_;simp -dsimp [gb,gf,h0];refine g8 _ (fun hm=>a4c part (fdI g i).At (by omega)) (by simp) ?_;simp -dsimp [gb,gf,h0];refine hK _ _ _ (by decide+kernel) ?_;clear hK K;exact g7 (by simp[a3e])
theorem a4V (g:Gr) (s:Sta) (part:List Int) (hs:s.Feeds.length=g.Feeds.length) (hp:part.length≤1000) (hn:g.Feeds.length≤1000):
  d6 Try.prog 70 [net g s,iL part] (iL (k8 g s part)):=by
 have hk:=c0j (upI g.Feeds.length) 90 [[net g s],[iL part]] (a3e g s part) (fun x hx=>b6g g s part x hs hp (a8D.1 hx).1 (a8D.1 hx).2) (by rw[M9];omega);refine d6.of_body Try.func70 rfl (by decide) (by simp[Try.ntmps70]) ?_;simp only[Try.ntmps70,Try.results70];refine aS fun K hK=>?_;simp -dsimp;apply hK;clear hK K;refine aS fun K hK=>?_;simp -dsimp;apply hK;clear hK K;refine b8 fun K1 hK1=>?_;refine aS fun K hK=>?_;simp -dsimp;apply hK;clear hK K;refine e8 ?_;refine b7 [2,3,5,12,13] ?_;simp only[zP,Nat.reduceEqDiff,reduceIte];refine i4 [2,3,12] (α:=Nat) (fun k=>[(5, .row 2 0 k),(13,I k)]) (fun k=>[some (.els 1 [[net g s]]),some (.els 1 [[iL part]]),some (.els 1 ((upI k).map j0))]) (fun k=>k≤g.Feeds.length) (fun k=>g.Feeds.length-k) 0 ?_ ?_ ?_
 ·exact Nat.zero_le _
 ·exact(H4 5 1 (by simp)).trans (j9 (by simp[upI]))
 rintro k k1;simp only[zP,Nat.reduceEqDiff,reduceIte];refine aS fun K hK=>?_;simp -dsimp;apply hK;clear hK K;refine b8 fun K2 hK2=>?_;refine d8 rfl (fun hc0=>?_) (fun hc0=>?_)
 ·skip
  try simp at hc0
  have wk:=zW k (by omega);have f1:I9 (k+1) 9:=m8 (by omega) (by omega);refine f5 ?_;simp only[zT,reduceIte,Nat.reduceEqDiff];refine hK2 _ _ ?_;refine b7 [2,3,5,12,13] ?_;simp only[zP,Nat.reduceEqDiff,reduceIte];refine b8 fun K3 hK3=>?_;refine e8 ?_;refine aS fun K hK=>?_;simp -dsimp;apply hK;clear hK K;refine aR fun K hK=>?_;simp -dsimp [f1,M9,a5g];apply hK;clear hK K;simp only[zT,reduceIte,Nat.reduceEqDiff];refine hK3 _ _ ?_;refine b7 [2,3,5,12,13] ?_;simp only[zP,Nat.reduceEqDiff,reduceIte];refine aR fun K hK=>?_;simp -dsimp [wk];apply hK;clear hK K;simp only[zT,reduceIte,Nat.reduceEqDiff];exact⟨k+1,by omega,by omega,e9 [some 0,some 1,some 3] rfl (by simp) (by simp[a5g,M9])⟩
 ·skip
  try simp at hc0
  have hke:k=g.Feeds.length:=by omega
  subst hke;refine N7 (b8r [] rfl) ?_;simp;refine j8 ?_;simp only[zT,reduceIte,Nat.reduceEqDiff];refine hK1 _ _ ?_;refine b7 [2,3,5] ?_;simp only[zP,Nat.reduceEqDiff,reduceIte];refine aS fun K hK=>?_;simp -dsimp [M9];refine d5 _ (hk) (by simp) ?_;simp -dsimp [M9];apply hK;clear hK K;exact g7 (by simp[k8])
def red (n d:Int):Fr:=⟨n/Int.gcd n d,d/Int.gcd n d⟩
theorem a8q {n d:Int} (hd:0<d):∃a b g:Int,0<g∧(Int.gcd n d:Int)=g∧n=g*a∧d=g*b:=by
 obtain⟨a,ha⟩:=Int.gcd_dvd_left n d;obtain⟨b,hb⟩:=Int.gcd_dvd_right n d;refine⟨a,b,Int.gcd n d,?_,rfl,ha,hb⟩;have:0<Int.gcd n d:=Int.gcd_pos_of_ne_zero_right _ (by omega);omega
theorem b8O {n d:Int} (hd:0<d) (h1:-9223372036854775807≤n) (h2:n≤9223372036854775807) (h3:d≤9223372036854775807):
  0<(Int.gcd n d:Int)∧IntKind.i64.wrap (n.tdiv (Int.gcd n d))=(red n d).Num∧IntKind.i64.wrap (d.tdiv (Int.gcd n d))=(red n d).Den:=by
 obtain⟨a,b,g,hg,e,ha,hb⟩:=a8q (n:=n) hd;have ea:n.tdiv g=a:=by rw[ha];exact Int.mul_tdiv_cancel_left _ (by omega)
 have eb:d.tdiv g=b:=by rw[hb];exact Int.mul_tdiv_cancel_left _ (by omega)
 have ea':n/g=a:=by rw[ha];exact Int.mul_ediv_cancel_left _ (by omega)
 have eb':d/g=b:=by rw[hb];exact Int.mul_ediv_cancel_left _ (by omega)
 have hb0:0<b:=by
  refine Int.not_le.1 fun h=>?_;have:=Int.mul_nonpos_of_nonneg_of_nonpos (Int.le_of_lt hg) h;omega
 have hbd:b≤d:=by
  have:=Int.mul_le_mul_of_nonneg_right (show(1:Int)≤g by omega) (Int.le_of_lt hb0);omega
 have hna:a.natAbs≤n.natAbs:=by
  rw[ha,Int.natAbs_mul];exact Nat.le_mul_of_pos_left _ (by omega)
 unfold red;rw[e,ea,eb,ea',eb'];exact⟨hg,f7 (by omega) (by omega),f7 (by omega) (by omega)⟩
theorem a9T {a b:Nat} (hb:¬b=0):Nat.gcd b (a % b)=Nat.gcd a b:=by
 rw[Nat.gcd_comm a b,Nat.gcd_rec b a,Nat.gcd_comm]
theorem F3 (n d:Int) (hd:0<d) (h1:-9223372036854775807≤n) (h2:n≤9223372036854775807) (h3:d≤9223372036854775807):d6 Try.prog 72 [I n,I d] (red n d).av:=by
 have wn:IntKind.i64.wrap (-n)=-n:=f7 (by omega) (by omega);have hmx:(if n< -n then-n else n)=(n.natAbs:Int):=by split<;>omega
 obtain⟨hg,q1,q2⟩:=b8O hd h1 h2 h3;refine d6.of_body Try.func72 rfl (by decide) (by simp[Try.ntmps72]) ?_;simp only[Try.ntmps72,Try.results72];refine aS fun K hK=>?_;simp -dsimp;apply hK;clear hK K;refine aS fun K hK=>?_;simp -dsimp [wn,hmx];apply hK;clear hK K;refine b8 fun K1 hK1=>?_;refine e8 ?_;refine b7 [0,1,4,5,6] ?_;simp only[zP,Nat.reduceEqDiff,reduceIte];refine i4 [0,1,4] (α:=Nat×Nat) (fun x=>[(5,I x.1),(6,I x.2)]) (fun _=>[some (.els 2 [[I 0,I 0]])]) (fun x=>Nat.gcd x.1 x.2=Int.gcd n d) (fun x=>x.2) (n.natAbs,d.toNat) ?_ ?_ ?_
 ·simp only[Int.gcd];congr 1;omega
 ·have hdn:((d.toNat:Nat):Int)=d:=Int.toNat_of_nonneg (by omega);exact j9 (by simp[hdn])
 rintro⟨a,b⟩ i1;simp only at i1 ⊢;simp only[zP,Nat.reduceEqDiff,reduceIte];refine b8 fun K2 hK2=>?_;refine aS fun K hK=>?_;simp -dsimp;apply hK;clear hK K;refine d8 rfl (fun hc0=>?_) (fun hc0=>?_)
 ·skip
  try simp at hc0
  have hb0:¬b=0:=by omega
  have hm:(a:Int).tmod b=((a % b:Nat):Int):=by rw[Int.tmod_eq_emod_of_nonneg (by omega)];rfl
  refine f5 ?_;simp only[zT,reduceIte,Nat.reduceEqDiff];refine hK2 _ _ ?_;refine b7 [0,1,4,5,6] ?_;simp only[zP,Nat.reduceEqDiff,reduceIte];refine e8 ?_;refine O0 l9 rfl fun K hK=>?_;simp -dsimp [hm,hb0];refine hK _ _ _ (by decide+kernel) ?_;clear hK K;simp only[zT,reduceIte,Nat.reduceEqDiff];exact⟨(b,a % b),by simp only;rw[a9T hb0];exact i1,Nat.mod_lt _ (by omega),j9 (by simp)⟩
 ·skip
  try simp at hc0
  have hb0:b=0:=by omega
  subst hb0;rw[Nat.gcd_zero_right]at i1;subst i1;have hg0:¬Int.gcd n d=0:=by omega
  refine j8 ?_;simp only[zT,reduceIte,Nat.reduceEqDiff];refine hK1 _ _ ?_;refine b7 [0,1,4,5] ?_;simp only[zP,Nat.reduceEqDiff,reduceIte];refine s9 l9 rfl fun K hK=>?_;simp -dsimp [q1,q2,hg0];refine hK _ _ _ (by decide+kernel) ?_;clear hK K;exact g7 (by simp)
end Go.Cur
end
section
namespace Go.Cur
def E {α:Type}:(α→List α→Int)→List α→Int
 |_,[]=>0
 |f,c::cs=>f c cs-E (fun d l=>f d (c::l)) cs
theorem H5 {α:Type}:∀{cs:List α} {f g:α→List α→Int},(∀c l,c∈cs→l.length+1=cs.length→(∀x∈l,x∈cs)→f c l=g c l)→E f cs=E g cs
 |[],_,_,_=>rfl
 | c::cs,f,g,h=>by
  rw[E,E,h c cs (by simp) (by simp) (fun x hx=>by simp[hx])]
  congr 1
  exact H5 fun d l hd hl hm=>h d (c::l) (by simp[hd]) (by simp only[List.length_cons];omega) (fun x hx=>by
   rcases List.mem_cons.1 hx with rfl|hx
   ·simp
   ·exact List.mem_cons_of_mem _ (hm x hx))
theorem b3b {α:Type}:∀{cs:List α} {f g:α→List α→Int},E (fun c l=>f c l+g c l) cs=E f cs+E g cs
 |[],_,_=>rfl
 |c::cs,f,g=>by rw[E,E,E,b3b];omega
theorem a2p {α:Type} (a:Int):∀{cs:List α} {f:α→List α→Int},E (fun c l=>a*f c l) cs=a*E f cs
 |[],_=>by simp[E]
 |c::cs,f=>by rw[E,E,a2p,Int.mul_sub]
theorem c1v {α:Type} {cs:List α} {f:α→List α→Int}:E (fun c l=>-f c l) cs=-E f cs:=by
 have:=a2p (cs:=cs) (f:=f) (-1);simpa using this
theorem c2y {α:Type} {cs:List α} {f g:α→List α→Int}:E (fun c l=>f c l-g c l) cs=E f cs-E g cs:=by
 have:=b3b (cs:=cs) (f:=f) (g:=fun c l=>-g c l);rw[c1v]at this;simpa [Int.sub_eq_add_neg]using this
theorem a3W {α:Type} {cs:List α} {f:α→List α→Int} (h:∀c l,c∈cs→l.length+1=cs.length→(∀x∈l,x∈cs)→f c l=0):E f cs=0:=by
 have:E f cs=E (fun c l=>0*f c l) cs:=H5 fun c l h1 h2 h3=>by rw[h c l h1 h2 h3];simp
 rw[this,a2p,Int.zero_mul]
theorem b6P {α:Type} {a b:α}:∀{pre post:List α} {f:α→List α→Int},(∀c u v,f c (u++a::b::v)=-f c (u++b::a::v))→E f (pre++a::b::post)=-E f (pre++b::a::post)
 | [],post,f,h=>by
  simp only[List.nil_append,E];have:E (fun d l=>f d (a::b::l)) post=-E (fun d l=>f d (b::a::l)) post:=by
   rw[←c1v];exact H5 fun d l _ _ _=>h d [] l
  omega
 |x::pre,post,f,h=>by
  simp only[List.cons_append,E];rw[h,b6P (f:=fun d l=>f d (x::l)) (pre:=pre) (post:=post) fun c u v=>h c (x::u) v];omega
theorem b8a {α:Type} {a b z:α} {x y:Int}:∀{pre post:List α} {f:α→List α→Int},(∀c u v,f c (u++z::v)=x*f c (u++a::v)+y*f c (u++b::v))→(∀l,f z l=x*f a l+y*f b l)→
  E f (pre++z::post)=x*E f (pre++a::post)+y*E f (pre++b::post)
 | [],post,f,h,hz=>by
  simp only[List.nil_append,E];have:E (fun d l=>f d (z::l)) post=x*E (fun d l=>f d (a::l)) post+y*E (fun d l=>f d (b::l)) post:=by
   rw[←a2p,←a2p,←b3b];exact H5 fun d l _ _ _=>h d [] l
  rw[hz,this,Int.mul_sub,Int.mul_sub];omega
 |w::pre,post,f,h,hz=>by
  simp only[List.cons_append,E];rw[h,b8a (f:=fun d l=>f d (w::l)) (pre:=pre) (post:=post) (fun c u v=>h c (w::u) v) (fun l=>hz (w::l)),Int.mul_sub,Int.mul_sub];omega
theorem c0Q {α:Type}:∀{cs:List α} {h:α→α→List α→Int},E (fun c l=>E (fun d m=>h c d m) l) cs=-E (fun c l=>E (fun d m=>h d c m) l) cs
 |[],_=>rfl
 |x::cs,h=>by
  simp only[E,c2y];have h1:E (fun c=>E fun d l=>h c d (x::l)) cs=-E (fun c=>E fun d l=>h d c (x::l)) cs:=c0Q (cs:=cs) (h:=fun c d m=>h c d (x::m));have h2:E (fun d m=>h d x m) cs=E (fun c=>h c x) cs:=rfl;have h3:E (fun d m=>h x d m) cs=E (h x) cs:=rfl;omega
def det:List Nat→List (Nat→Int)→Int
 |[],[]=>1
 |[],_::_=>0
 |i::is,cs=>E (fun c l=>c i*det is l) cs
def sg:Nat→Int
 |0=>1
 |n+1=>-sg n
theorem b8E:∀n,sg n*sg n=1
 |0=>rfl
 |n+1=>by rw[sg,Int.neg_mul_neg,b8E n]
theorem a9K {a b:Nat→Int}:∀{is:List Nat} {pre post:List (Nat→Int)},det is (pre++a::b::post)=-det is (pre++b::a::post)
 |[],pre,post=>by cases pre<;>simp[det]
 |i::is,pre,post=>by
  rw[det,det];exact b6P fun c u v=>by rw[a9K (is:=is),Int.mul_neg]
theorem b3u {a b:Nat→Int} {x y:Int}:∀{is:List Nat} {pre post:List (Nat→Int)},is≠[]→det is (pre++(fun i=>x*a i+y*b i)::post)=x*det is (pre++a::post)+y*det is (pre++b::post)
 |[],pre,post,h=>absurd rfl h
 |[i],pre,post,_=>by
  rw[det,det,det];refine b8a (fun c u v=>?_) (fun l=>?_)
  ·cases u<;>simp[det]
  ·simp only[Int.add_mul,Int.mul_assoc]
 |i::j::is,pre,post,_=>by
  rw[det,det,det];refine b8a (fun c u v=>?_) (fun l=>?_)
  ·rw[b3u (is:=j::is) (by simp),Int.mul_add,Int.mul_left_comm,Int.mul_left_comm (c i) y]
  ·simp only[Int.add_mul,Int.mul_assoc]
theorem a2W {a:Nat→Int} {is:List Nat}:∀{pre mid post:List (Nat→Int)},det is (pre++mid++a::post)=sg mid.length*det is (pre++a::mid++post)
 |pre,[],post=>by simp[sg]
 |pre,m::mid,post=>by
  have h:=a2W (a:=a) (is:=is) (pre:=pre++[m]) (mid:=mid) (post:=post);have h2:=a9K (a:=m) (b:=a) (is:=is) (pre:=pre) (post:=mid++post);simp only[List.append_assoc,List.cons_append,List.nil_append,List.length_cons,sg]at h h2 ⊢;rw[h,h2,Int.mul_neg,Int.neg_mul]
theorem a4G {i j:Nat} {is:List Nat} {cs:List (Nat→Int)}:det (i::j::is) cs=-det (j::i::is) cs:=by
 simp only[det];simp only[←a2p];rw[c0Q]
 congr 1
 exact H5 fun c l _ _ _=>H5 fun d m _ _ _=>by rw[Int.mul_left_comm]
theorem a6k {i:Nat}:∀{u v:List Nat} {cs:List (Nat→Int)},det (i::(u++i::v)) cs=0
 |[],v,cs=>by have:=a4G (i:=i) (j:=i) (is:=v) (cs:=cs);rw[List.nil_append];omega
 |j::u,v,cs=>by
  rw[List.cons_append,a4G,det];rw[a3W fun c l _ _ _=>by rw[a6k,Int.mul_zero]]
  rfl
theorem b4e {i:Nat} {is:List Nat} {cs:List (Nat→Int)} (h:i∈is):det (i::is) cs=0:=by
 obtain⟨u,v,rfl⟩:=List.append_of_mem h;exact a6k
theorem Z4 {r:Nat}:∀{is v:List Nat} {cs:List (Nat→Int)},det (is++r::v) cs=sg is.length*det (r::(is++v)) cs
 |[],v,cs=>by simp[sg]
 | i::is,v,cs=>by
  have:det (i::(is++r::v)) cs=sg is.length*det (i::r::(is++v)) cs:=by
   rw[det,det,←a2p];exact H5 fun c l _ _ _=>by rw[Z4,Int.mul_left_comm]
  rw[List.cons_append,this,a4G,List.length_cons,sg,Int.mul_neg,Int.neg_mul];rfl
def rep (i:Nat) (is:List Nat) (b:Nat→Int) (pre:List (Nat→Int)):List (Nat→Int)→Int
 |[]=>0
 |c::post=>c i*det is (pre++b::post)+rep i is b (pre++[c]) post
theorem c0K {i:Nat} {is:List Nat} {b:Nat→Int}:∀{post pre:List (Nat→Int)},E (fun d l=>d i*det is (b::pre++l)) post=sg pre.length*rep i is b pre post
 |[],pre=>by simp[E,rep]
 |c::post,pre=>by
  have h:=c0K (i:=i) (is:=is) (b:=b) (post:=post) (pre:=pre++[c]);have h2:=a2W (a:=b) (is:=is) (pre:=[]) (mid:=pre) (post:=post);simp only[List.append_assoc,List.cons_append,List.nil_append,List.length_append,List.length_cons,List.length_nil,sg]at h h2 ⊢;rw[E,rep,h,h2];have hs:=b8E pre.length;rw[Int.mul_add,Int.mul_left_comm (sg pre.length) (c i),←Int.mul_assoc (sg pre.length) (sg pre.length),hs,Int.one_mul,Int.neg_mul];omega
theorem c0z {i:Nat} {is:List Nat} {b:Nat→Int} {cs:List (Nat→Int)} (h:i∈is):rep i is b [] cs=det is cs*b i:=by
 have h1:=b4e (cs:=b::cs) h;have h2:=c0K (i:=i) (is:=is) (b:=b) (post:=cs) (pre:=[]);rw[det,E]at h1;simp only[List.cons_append,List.nil_append,List.length_nil,sg,Int.one_mul]at h2;rw[h2]at h1;rw[Int.mul_comm];omega
end Go.Cur
end
section
namespace Go.Cur
def sm (f:Nat→Int):List Nat→Int
 |[]=>0
 |i::is=>f i+sm f is
theorem G6 {f:Nat→Int}:∀{u v:List Nat},sm f (u++v)=sm f u+sm f v
 |[],v=>by simp[sm]
 |i::u,v=>by rw[List.cons_append,sm,sm,G6];omega
theorem i8 {f g:Nat→Int}:∀{u:List Nat},(∀i∈u,f i=g i)→sm f u=sm g u
 |[],_=>rfl
 |i::u,h=>by rw[sm,sm,h i (by simp),i8 fun k hk=>h k (by simp[hk])]
theorem y3 {f:Nat→Int}:∀{u:List Nat},(∀i∈u,f i=0)→sm f u=0
 |[],_=>rfl
 |i::u,h=>by rw[sm,h i (by simp),y3 fun k hk=>h k (by simp[hk])];rfl
theorem a5j {f:Nat→Int}:∀{u:List Nat},(∀i∈u,0≤f i)→0≤sm f u
 |[],_=>by simp[sm]
 |i::u,h=>by
  have h1:=h i (by simp);have h2:=a5j (f:=f) (u:=u) fun k hk=>h k (by simp[hk]);rw[sm];omega
theorem b0z {f g:Nat→Int}:∀{u:List Nat},(∀i∈u,f i≤g i)→sm f u≤sm g u
 |[],_=>by simp[sm]
 |i::u,h=>by
  have h1:=h i (by simp);have h2:=b0z (f:=f) (g:=g) (u:=u) fun k hk=>h k (by simp[hk]);rw[sm,sm];omega
theorem G1 {f g:Nat→Int}:∀{u:List Nat},sm (fun i=>f i+g i) u=sm f u+sm g u
 |[]=>rfl
 |i::u=>by rw[sm,sm,sm,G1];omega
theorem n8 {f:Nat→Int} (a:Int):∀{u:List Nat},sm (fun i=>a*f i) u=a*sm f u
 |[]=>by simp[sm]
 |i::u=>by rw[sm,sm,n8,Int.mul_add]
theorem W3 {f:Nat→Nat→Int}:∀{u v:List Nat},sm (fun i=>sm (fun k=>f i k) v) u=sm (fun k=>sm (fun i=>f i k) u) v
 |[],v=>by rw[sm,y3];intro k _;rfl
 |i::u,v=>by
  rw[sm,W3 (u:=u),←G1];exact i8 fun k _=>rfl
theorem Y1 {f:Nat→Int} {u v:List Nat} {k:Nat}:sm f (u++k::v)=f k+sm f (u++v):=by
 rw[G6,G6,sm];omega
theorem b7G {α β:Type} {g:β→α}:∀{cs:List β} {f:α→List α→Int},E f (cs.map g)=E (fun c l=>f (g c) (l.map g)) cs
 |[],_=>rfl
 |c::cs,f=>by
  rw[List.map_cons,E,E,b7G];rfl
theorem a0r {i:Nat} {is ks:List Nat} {A:Nat→Nat→Int}:det (i::is) (ks.map fun k i=>A i k)=E (fun k l=>A i k*det is (l.map fun k i=>A i k)) ks:=by
 rw[det,b7G]
theorem Z0:∀{is ks:List Nat} {A B:Nat→Nat→Int},(∀i∈is,∀k∈ks,A i k=B i k)→det is (ks.map fun k i=>A i k)=det is (ks.map fun k i=>B i k)
 |[],ks,A,B,_=>by cases ks<;>rfl
 |i::is,ks,A,B,h=>by
  rw[a0r,a0r];exact H5 fun k l hk _ hl=>by rw[h i (by simp) k hk,Z0 fun i hi k hk=>h i (by simp[hi]) k (hl k hk)]
theorem a9c {e:Nat→Int}:∀{is:List Nat} {cs:List (Nat→Int)},(∀i∈is,e i=0)→det is (e::cs)=0
 |[],_,_=>rfl
 |i::is,cs,h=>by
  rw[det,E,h i (by simp),a3W fun c l _ _ _=>by rw[a9c fun k hk=>h k (by simp[hk]),Int.mul_zero]];simp
theorem b5g {i:Nat} {is:List Nat} {cs:List (Nat→Int)} (h:∀c∈cs,sm c (i::is)=0):det (i::is) cs=0:=by
 have hw:∀w:List Nat,(∀k∈w,k∈is)→E (fun c l=>sm c w*det is l) cs=0:=by
  intro w
  induction w with
  |nil=>intro _;exact a3W fun c l _ _ _=>by rw[sm,Int.zero_mul]
  |cons k w ih=>
   intro hk;have:E (fun c l=>sm c (k::w)*det is l) cs=E (fun c l=>c k*det is l+sm c w*det is l) cs:=H5 fun c l _ _ _=>by rw[sm,Int.add_mul]
   rw[this,b3b,ih fun k hk'=>hk k (by simp[hk'])];have:=b4e (cs:=cs) (hk k (by simp));rw[det]at this;omega
 have h1:E (fun c l=>sm c (i::is)*det is l) cs=0:=a3W fun c l hc _ _=>by rw[h c hc,Int.zero_mul]
 have h2:E (fun c l=>sm c (i::is)*det is l) cs=E (fun c l=>c i*det is l+sm c is*det is l) cs:=H5 fun c l _ _ _=>by rw[sm,Int.add_mul]
 rw[h2,b3b,hw is fun _ h=>h]at h1;rw[det];omega
def D (A:Nat→Nat→Int) (ns:List Nat):Int:=det ns (ns.map fun k i=>A i k)
def a0o (A:Nat→Nat→Int) (k0:Nat) (s:Int):Nat→Nat→Int:=fun i k=>if i=k0∧k=k0 then A i k-s else A i k
theorem b5E {k0:Nat} {u v:List Nat} {cu cv:List (Nat→Int)} (hl:cu.length=u.length) (hu:k0∉u) (hv:k0∉v):
  det (u++k0::v) (cu++(fun i=>if i=k0 then 1 else 0)::cv)=det (u++v) (cu++cv):=by
 have h1:=a2W (a:=fun i=>if i=k0 then(1:Int)else 0) (is:=u++k0::v) (pre:=[]) (mid:=cu) (post:=cv);simp only[List.nil_append,List.cons_append]at h1;rw[h1,Z4,det,E,a3W fun c l _ _ _=>?_,hl]
 ·simp only[if_pos,Int.one_mul,Int.sub_zero];rw[←Int.mul_assoc,b8E,Int.one_mul]
 ·rw[a9c fun i hi=>?_,Int.mul_zero];rw[if_neg];rintro rfl
  rcases List.mem_append.1 hi with h|h
  ·exact hu h
  ·exact hv h
theorem b7b {A:Nat→Nat→Int} {u v:List Nat} {k0:Nat} (s:Int) (hu:k0∉u) (hv:k0∉v):D A (u++k0::v)=D (a0o A k0 s) (u++k0::v)+s*D A (u++v):=by
 have hc:∀w:List Nat,k0∉w→(w.map fun k i=>A i k)=w.map fun k i=>a0o A k0 s i k:=fun w hw=>List.map_congr_left fun k hk=>by
  funext i
  unfold a0o;rw[if_neg];rintro⟨_,rfl⟩;exact hw hk
 unfold D;simp only[List.map_append,List.map_cons];have he:(fun i=>A i k0)=fun i=>1*a0o A k0 s i k0+s*(if i=k0 then 1 else 0):=by
  funext i
  unfold a0o
  by_cases h:i=k0
  ·simp[h]
  ·simp[h]
 rw[he,b3u (by simp),Int.one_mul,b5E (by simp) hu hv,←hc u hu,←hc v hv]
def b1h (A:Nat→Nat→Int) (ns:List Nat):Prop:=(∀i∈ns,∀k∈ns,i≠k→A i k≤0)∧∀k∈ns,0≤sm (fun i=>A i k) ns
theorem a4L {A:Nat→Nat→Int} {k0 i k:Nat} {s:Int} (h:i≠k∨k≠k0):a0o A k0 s i k=A i k:=by
 unfold a0o;rw[if_neg];rintro⟨rfl,rfl⟩
 rcases h with h|h<;>exact h rfl
theorem b2n {A:Nat→Nat→Int} {k0:Nat} {s:Int} {u v:List Nat} (hu:k0∉u) (hv:k0∉v):sm (fun i=>a0o A k0 s i k0) (u++k0::v)=sm (fun i=>A i k0) (u++k0::v)-s:=by
 rw[Y1,Y1,i8 (g:=fun i=>A i k0)]
 ·simp only[a0o,and_self,if_true];omega
 ·intro i hi;refine a4L (.inl ?_);rintro rfl
  rcases List.mem_append.1 hi with h|h
  ·exact hu h
  ·exact hv h
theorem b1h.minor {A:Nat→Nat→Int} {k0:Nat} {u v:List Nat} (h:b1h A (u++k0::v)) (hu:k0∉u) (hv:k0∉v):b1h A (u++v):=by
 have hm:∀i∈u++v,i∈u++k0::v:=fun i hi=>by
  simp only[List.mem_append,List.mem_cons]at hi ⊢;rcases hi with h|h<;>simp[h]
 refine⟨fun i hi k hk hne=>h.1 i (hm i hi) k (hm k hk) hne,fun k hk=>?_⟩;have h1:=h.2 k (hm k hk);rw[Y1]at h1;have h2:=h.1 k0 (by simp) k (hm k hk) (by
  rintro rfl
  rcases List.mem_append.1 hk with h|h
  ·exact hu h
  ·exact hv h)
 omega
theorem b1h.less {A:Nat→Nat→Int} {k0:Nat} {u v:List Nat} (h:b1h A (u++k0::v)) (hu:k0∉u) (hv:k0∉v) {s:Int} (hs:s=sm (fun i=>A i k0) (u++k0::v)):
  b1h (a0o A k0 s) (u++k0::v)∧sm (fun i=>a0o A k0 s i k0) (u++k0::v)=0∧∀k,k≠k0→sm (fun i=>a0o A k0 s i k) (u++k0::v)=sm (fun i=>A i k) (u++k0::v):=by
 have h0:=b2n (A:=A) (s:=s) hu hv;have h1:∀k,k≠k0→sm (fun i=>a0o A k0 s i k) (u++k0::v)=sm (fun i=>A i k) (u++k0::v):=fun k hk=>i8 fun i _=>a4L (.inr hk);refine⟨⟨fun i hi k hk hne=>?_,fun k hk=>?_⟩,by omega,h1⟩
 ·rw[a4L (.inl hne)];exact h.1 i hi k hk hne
 ·by_cases e:k=k0
  ·subst e;omega
  ·rw[h1 k e];exact h.2 k hk
theorem B5 {u v:List Nat} {k:Nat} (h:(u++k::v).Nodup):k∉u∧k∉v∧(u++v).Nodup:=by
 simp only[List.nodup_append,List.nodup_cons,List.mem_cons]at h ⊢;obtain⟨h1,⟨h2,h3⟩,h4⟩:=h;refine⟨fun hk=>h4 k hk k (.inl rfl) rfl,h2,h1,h3,fun a ha b hb=>h4 a ha b (.inr hb)⟩
theorem c2W:∀(n:Nat) {ns:List Nat} {A:Nat→Nat→Int},ns.length=n→ns.Nodup→b1h A ns→0≤D A ns
 |0,ns,A,hn,_,_=>by
  rw[List.length_eq_zero_iff]at hn;subst hn;simp[D,det]
 | n +1,ns,A,hn,hd,hc=>by
  have key:∀(w:List Nat) (A:Nat→Nat→Int),b1h A ns→(∀k∈ns,k∉w→sm (fun i=>A i k) ns=0)→0≤D A ns:=by
   intro w
   induction w with
   | nil=>
    intro A _ h0
    cases ns with
    |nil=>simp at hn
    | cons i is=>
     have:D A (i::is)=0:=b5g fun c hc=>by
      obtain⟨k,hk,rfl⟩:=List.mem_map.1 hc;exact h0 k hk (by simp)
     omega
   | cons k0 w ih=>
    intro A hc h0
    by_cases hk0:k0∈ns
    ·obtain⟨u,v,rfl⟩:=List.append_of_mem hk0;obtain⟨hu,hv,hd'⟩:=B5 hd;obtain⟨c1,c2,c3⟩:=hc.less hu hv rfl;rw[b7b (sm (fun i=>A i k0) (u++k0::v)) hu hv];have i1:=ih _ c1 fun k hk hkw=>by
      by_cases e:k=k0
      ·subst e;exact c2
      ·rw[c3 k e];exact h0 k hk (by simp[e,hkw])
     have i2:=c2W n (by simp only[List.length_append,List.length_cons]at hn ⊢;omega) hd' (hc.minor hu hv);have:=Int.mul_nonneg (hc.2 k0 hk0) i2;omega
    ·exact ih A hc fun k hk hkw=>h0 k hk (by
      simp only[List.mem_cons,not_or];exact⟨fun e=>hk0 (e▸hk),hkw⟩)
  exact key ns A hc fun k hk hkn=>absurd hk hkn
def b7L (A:Nat→Nat→Int) (ns:List Nat):Prop:=∀U:List Nat,U.Nodup→U≠[]→(∀k∈U,k∈ns)→∃k∈U,0<sm (fun i=>A i k) U
theorem b9L:∀(n:Nat) {ns:List Nat} {A:Nat→Nat→Int},ns.length=n→ns.Nodup→b1h A ns→b7L A ns→0<D A ns
 |0,ns,A,hn,_,_,_=>by
  rw[List.length_eq_zero_iff]at hn;subst hn;simp[D,det]
 | n+1,ns,A,hn,hd,hc,hl=>by
  obtain⟨k0,hk0,hs⟩:=hl ns hd (by intro e;rw[e]at hn;simp at hn) fun _ h=>h;obtain⟨u,v,rfl⟩:=List.append_of_mem hk0;obtain⟨hu,hv,hd'⟩:=B5 hd;rw[b7b (sm (fun i=>A i k0) (u++k0::v)) hu hv];have i1:=c2W (n+1) hn hd (hc.less hu hv rfl).1;have i2:=b9L n (ns:=u++v) (A:=A) (by simp only[List.length_append,List.length_cons]at hn ⊢;omega) hd' (hc.minor hu hv) fun U h1 h2 h3=>hl U h1 h2 fun k hk=>by
   have:=h3 k hk;simp only[List.mem_append,List.mem_cons]at this ⊢
   rcases this with h|h<;>simp[h]
  have:=Int.mul_pos hs i2;omega
end Go.Cur
end
section
namespace Go.Cur
theorem a3Y {x:Nat→Int}:∀{ns:List Nat},ns≠[]→∃k∈ns,∀i∈ns,x k≤x i
 |[],h=>absurd rfl h
 |[a],_=>⟨a,by simp,by simp⟩
 | a::b::l,_=>by
  obtain⟨k,hk,hm⟩:=a3Y (x:=x) (ns:=b::l) (by simp)
  by_cases h:x a≤x k
  ·exact⟨a,by simp,fun i hi=>by
    rcases List.mem_cons.1 hi with rfl|hi
    ·exact Int.le_refl _
    ·have:=hm i hi;omega⟩
  ·exact⟨k,List.mem_cons_of_mem _ hk,fun i hi=>by
    rcases List.mem_cons.1 hi with rfl|hi
    ·omega
    ·exact hm i hi⟩
theorem b0e {f:Nat→Int}:∀{u:List Nat},(∀i∈u,0≤f i)→(∃i∈u,0<f i)→0<sm f u
 |[],_,⟨_,h,_⟩=>by simp at h
 |a::u,h,⟨i,hi,hp⟩=>by
  have h1:=h a (by simp);have h2:=a5j (f:=f) (u:=u) fun k hk=>h k (by simp[hk]);rw[sm]
  rcases List.mem_cons.1 hi with rfl|hi
  ·omega
  ·have:=b0e (f:=f) (u:=u) (fun k hk=>h k (by simp[hk])) ⟨i,hi,hp⟩;omega
theorem a3b {f:Nat→Int} {p:Nat→Bool}:∀{u:List Nat},sm f u=sm f (u.filter p)+sm f (u.filter fun k=> !p k)
 |[]=>rfl
 |a::u=>by
  have:=a3b (f:=f) (p:=p) (u:=u)
  by_cases h:p a
  ·simp only[List.filter_cons,h,if_true,Bool.not_true,sm];simp only[Bool.false_eq_true,if_false];omega
  ·simp only[List.filter_cons,h,sm];simp only[Bool.false_eq_true,if_false,Bool.not_false,if_true,sm];omega
theorem b3P {f:Nat→Int} {ns U:List Nat} (hn:ns.Nodup) (hU:U.Nodup) (hs:∀k∈U,k∈ns) (h:∀k∈ns,k∉U→f k≤0):sm f ns≤sm f U:=by
 induction U generalizing ns with
 |nil=>
  rw[sm];have:=a5j (f:=fun k=>-f k) (u:=ns) fun k hk=>by have:=h k hk (by simp);omega
  have h2:=n8 (f:=f) (-1) (u:=ns);simp only[Int.neg_mul,Int.one_mul]at h2;omega
 | cons a U ih=>
  obtain⟨u,v,rfl⟩:=List.append_of_mem (hs a (by simp));obtain⟨hu,hv,hd⟩:=B5 hn;rw[List.nodup_cons]at hU;rw[Y1,sm];have:=ih hd hU.2 (fun k hk=>by
   have:=hs k (by simp[hk]);simp only[List.mem_append,List.mem_cons]at this ⊢
   rcases this with h|rfl|h
   ·simp[h]
   ·exact absurd hk hU.1
   ·simp[h]) fun k hk hkU=>h k (by
    simp only[List.mem_append,List.mem_cons]at hk ⊢;rcases hk with h|h<;>simp[h]) (by
    simp only[List.mem_cons,not_or];refine⟨?_,hkU⟩;rintro rfl
    rcases List.mem_append.1 hk with h|h
    ·exact hu h
    ·exact hv h)
  omega
theorem Y9 {A:Nat→Nat→Int} {ns:List Nat} {x:Nat→Int} (hd:ns.Nodup) (hoff:∀i∈ns,∀k∈ns,i≠k→A i k≤0) (hrow:∀i∈ns,0≤sm (fun k=>A i k) ns) (hcol:∀k∈ns,0≤sm (fun i=>A i k) ns) (hl:b7L A ns)
  (hx:∀i∈ns,0≤sm (fun k=>A i k*x k) ns):∀k∈ns,0≤x k:=by
 intro k0 hk0;obtain⟨km,hkm,hmin⟩:=a3Y (x:=x) (ns:=ns) (by rintro rfl;simp at hk0)
 suffices h:0≤x km by have:=hmin k0 hk0;omega
 refine Int.not_lt.1 fun hneg=>?_
 let p:Nat→Bool:=fun k=>decide (x k=x km)
 let U:=ns.filter p
 let V:=ns.filter fun k=> !p k
 let sig:Nat→Int:=fun k=>sm (fun i=>A i k) U
 have hU:∀k∈U,k∈ns∧x k=x km:=fun k hk=>by simpa [U,p]using hk
 have hV:∀k∈V,k∈ns∧x km+1≤x k∧∀i∈U,i≠k:=fun k hk=>by
  have:k∈ns∧¬x k=x km:=by simpa [V,p]using hk
  have h2:=hmin k this.1;exact⟨this.1,by omega,fun i hi e=>this.2 (e▸(hU i hi).2)⟩
 have hUd:U.Nodup:=hd.filter _;have hUn:U≠[]:=List.ne_nil_of_mem (a:=km) (by simp[U,p,hkm]);have h1:0≤sm (fun i=>sm (fun k=>A i k*x k) ns) U:=a5j fun i hi=>hx i (hU i hi).1;rw[W3]at h1;have h2:sm (fun k=>sm (fun i=>A i k*x k) U) ns=sm (fun k=>x k*sig k) ns:=i8 fun k _=>by
  rw[←n8];exact i8 fun i _=>Int.mul_comm _ _
 rw[h2,a3b (p:=p)]at h1;have h3:sm (fun k=>x k*sig k) U=x km*sm sig U:=by
  rw[←n8];exact i8 fun k hk=>by rw[(hU k hk).2]
 have hsV:∀k∈V,sig k≤0:=fun k hk=>by
  have:=a5j (f:=fun i=>-A i k) (u:=U) fun i hi=>by
   have:=hoff i (hU i hi).1 k (hV k hk).1 ((hV k hk).2.2 i hi);omega
  have h2:=n8 (f:=fun i=>A i k) (-1) (u:=U);simp only[Int.neg_mul,Int.one_mul]at h2;show sm (fun i=>A i k) U≤0;omega
 have h4:sm (fun k=>x k*sig k) V≤sm (fun k=>(x km+1)*sig k) V:=b0z fun k hk=>by
  have a:=hsV k hk;have b:=(hV k hk).2.1;exact Int.mul_le_mul_of_nonpos_right b a
 rw[n8]at h4;have h5:sm sig U+sm sig V=sm (fun i=>sm (fun k=>A i k) ns) U:=by
  have:=a3b (f:=sig) (p:=p) (u:=ns);have h6:=W3 (f:=A) (u:=U) (v:=ns);show sm sig (ns.filter p)+sm sig (ns.filter fun k=> !p k)=_;rw[←this,h6]
 have h6:0≤sm (fun i=>sm (fun k=>A i k) ns) U:=a5j fun i hi=>hrow i (hU i hi).1;have h7:0<sm sig U:=by
  refine b0e (fun k hk=>?_) (hl U hUd hUn fun k hk=>(hU k hk).1);have:=hcol k (hU k hk).1;have h8:=b3P (f:=fun i=>A i k) hd hUd (fun k hk=>(hU k hk).1) fun i hi hiU=>hoff i hi k (hU k hk).1 (by rintro rfl;exact hiU hk);show 0≤sm (fun i=>A i k) U;omega
 have h8:sm sig V≤0:=by
  have:=b0z (f:=sig) (g:=fun _=>0) (u:=V) hsV;rw[y3 fun _ _=>rfl]at this;exact this
 change 0≤sm (fun k=>x k*sig k) U+sm (fun k=>x k*sig k) V at h1;rw[h3]at h1;have h9:x km*(sm sig U+sm sig V)≤0:=by
  rw[h5];exact Int.mul_nonpos_of_nonpos_of_nonneg (by omega) h6
 rw[Int.mul_add]at h9;rw[Int.add_mul,Int.one_mul]at h4;have h10:sm sig V=0:=by omega
 have h11:x km*(sm sig U+sm sig V)<0:=Int.mul_neg_of_neg_of_pos hneg (by omega);rw[Int.mul_add]at h11;omega
end Go.Cur
end
section
namespace Go.Cur
def num (A:Nat→Nat→Int) (b:Nat→Int) (ns:List Nat) (k:Nat):Int:=det ns (ns.map fun j i=>if j=k then b i else A i j)
theorem b2L {A:Nat→Nat→Int} {b:Nat→Int} {i:Nat} {is:List Nat}:∀{post pre:List Nat},(pre++post).Nodup→
  rep i is b (pre.map fun k i=>A i k) (post.map fun k i=>A i k)=sm (fun k=>A i k*det is ((pre++post).map fun j i=>if j=k then b i else A i j)) post
 |[],_,_=>rfl
 | k::post,pre,h=>by
  have ih:=b2L (A:=A) (b:=b) (i:=i) (is:=is) (post:=post) (pre:=pre++[k]) (by simpa using h);obtain⟨h1,h2,_⟩:=B5 h;have hc:∀w:List Nat,k∉w→(w.map fun j i=>if j=k then b i else A i j)=w.map fun k i=>A i k:=fun w hw=>List.map_congr_left fun j hj=>by
   funext i
   rw[if_neg];rintro rfl;exact hw hj
  simp only[List.map_append,List.map_cons,List.map_nil,List.append_assoc,List.cons_append,List.nil_append]at ih;rw[List.map_cons,rep,sm,ih];rw[List.map_append,List.map_cons];rw[hc pre h1,hc post h2];simp
theorem a3M {A:Nat→Nat→Int} {b:Nat→Int} {ns:List Nat} (hd:ns.Nodup) {i:Nat} (hi:i∈ns):sm (fun k=>A i k*num A b ns k) ns=D A ns*b i:=by
 have h1:=c0z (i:=i) (is:=ns) (b:=b) (cs:=ns.map fun k i=>A i k) hi;have h2:=b2L (A:=A) (b:=b) (i:=i) (is:=ns) (post:=ns) (pre:=[]) hd;simp only[List.map_nil,List.nil_append]at h2;rw[h2]at h1;exact h1
structure o5 where
 ns:List Nat
 L:Nat→Nat→Int
 u:Nat→Int
 fs:List Nat
 p:Nat→Nat
 s:Nat→Int
 V:Nat→Int
def o5.at_ (P:o5) (S:Nat→Bool) (c:Nat→Int) (i:Nat):Int:=sm (fun b=>if S b=true∧P.p b=i then c b else 0) P.fs
def o5.A (P:o5) (S:Nat→Bool):Nat→Nat→Int:=fun i k=>P.L i k+if i=k then P.at_ S P.s i else 0
def o5.b (P:o5) (S:Nat→Bool):Nat→Int:=fun i=>-P.u i+P.at_ S (fun b=>P.s b*P.V b) i
def o5.num (P:o5) (S:Nat→Bool) (k:Nat):Int:=Cur.num (P.A S) (P.b S) P.ns k
def o5.den (P:o5) (S:Nat→Bool):Int:=D (P.A S) P.ns
structure o5.Ok (P:o5):Prop where
 nd:P.ns.Nodup
 off:∀i∈P.ns,∀k∈P.ns,i≠k→P.L i k≤0
 col:∀k∈P.ns,sm (fun i=>P.L i k) P.ns=0
 row:∀i∈P.ns,sm (fun k=>P.L i k) P.ns=0
 lead:∀U:List Nat,U.Nodup→U≠[]→(∀k∈U,k∈P.ns)→(∃k∈P.ns,k∉U)→∃k∈U,0<sm (fun i=>P.L i k) U
 pin:∀b∈P.fs,P.p b∈P.ns
 spos:∀b∈P.fs,0<P.s b
theorem c2i {P:o5} {S:Nat→Bool} {c:Nat→Int}:∀{U:List Nat},U.Nodup→sm (P.at_ S c) U=sm (fun b=>if S b=true∧P.p b∈U then c b else 0) P.fs:=by
 intro U hU;unfold o5.at_;rw[W3];refine i8 fun b _=>?_
 induction U with
 |nil=>simp[sm]
 | cons a U ih=>
  rw[List.nodup_cons]at hU;rw[sm,ih hU.2]
  by_cases hS:S b=true
  ·by_cases ha:P.p b=a
   ·subst ha;simp[hS,hU.1]
   ·simp[hS,ha]
  ·simp[hS]
theorem b2e {f:Nat→Int} {g:Nat→Nat→Int} {k:Nat}:∀{U:List Nat},U.Nodup→k∈U→sm (fun i=>g i k+if i=k then f i else 0) U=sm (fun i=>g i k) U+f k
 |[],_,h=>by simp at h
 | a::U,hU,h=>by
  rw[List.nodup_cons]at hU;rw[sm,sm]
  rcases List.mem_cons.1 h with rfl|hm
  ·rw[i8 (u:=U) (g:=fun i=>g i k) fun i hi=>by
    rw[if_neg]; · omega
    ·rintro rfl;exact hU.1 hi]
   rw[if_pos rfl];omega
  ·rw[b2e hU.2 hm,if_neg]
   ·omega
   ·rintro rfl;exact hU.1 hm
theorem a4p {f:Nat→Int} {g:Nat→Int} {k:Nat}:∀{U:List Nat},U.Nodup→k∈U→sm (fun i=>g i+if k=i then f k else 0) U=sm g U+f k
 |[],_,h=>by simp at h
 | a::U,hU,h=>by
  rw[List.nodup_cons]at hU;rw[sm,sm]
  rcases List.mem_cons.1 h with rfl|hm
  ·rw[i8 (u:=U) (g:=g) fun i hi=>by
    rw[if_neg]; · omega
    ·rintro rfl;exact hU.1 hi]
   rw[if_pos rfl];omega
  ·rw[a4p hU.2 hm,if_neg]
   ·omega
   ·rintro rfl;exact hU.1 hm
theorem b6k {P:o5} (ho:P.Ok) {S:Nat→Bool} {i:Nat}:0≤P.at_ S P.s i:=a5j fun b hb=>by
 have:=ho.spos b hb
 split<;>omega
theorem b9b {P:o5} (ho:P.Ok) {S:Nat→Bool}:∀i∈P.ns,∀k∈P.ns,i≠k→P.A S i k≤0:=fun i hi k hk h=>by
 have:=ho.off i hi k hk h;unfold o5.A;rw[if_neg h];omega
theorem b6t {P:o5} (ho:P.Ok) {S:Nat→Bool} {k:Nat} {U:List Nat} (hU:U.Nodup) (hk:k∈U):sm (fun i=>P.A S i k) U=sm (fun i=>P.L i k) U+P.at_ S P.s k:=b2e hU hk
theorem c0D {P:o5} (ho:P.Ok) {S:Nat→Bool} {i:Nat} (hi:i∈P.ns):sm (fun k=>P.A S i k) P.ns=P.at_ S P.s i:=by
 have:=a4p (f:=fun i=>P.at_ S P.s i) (g:=fun k=>P.L i k) ho.nd hi;rw[ho.row i hi]at this;unfold o5.A;omega
theorem b1q {P:o5} (ho:P.Ok) {S:Nat→Bool}:b1h (P.A S) P.ns:=⟨b9b ho,fun k hk=>by
 rw[b6t ho ho.nd hk,ho.col k hk];have:=b6k ho (S:=S) (i:=k);omega⟩
theorem a7x {P:o5} (ho:P.Ok) {S:Nat→Bool} (hS:∃b∈P.fs,S b=true):b7L (P.A S) P.ns:=fun U hU hn hs=>by
 by_cases hall:∃k∈P.ns,k∉U
 ·obtain⟨k,hk,h⟩:=ho.lead U hU hn hs hall;refine⟨k,hk,?_⟩;rw[b6t ho hU hk];have:=b6k ho (S:=S) (i:=k);omega
 ·obtain⟨b,hb,hSb⟩:=hS;have hpU:P.p b∈U:=by
   by_cases h:P.p b∈U
   ·exact h
   ·exact absurd ⟨_,ho.pin b hb,h⟩ hall
  refine⟨P.p b,hpU,?_⟩;rw[b6t ho hU hpU];have h1:sm (fun i=>P.L i (P.p b)) P.ns≤sm (fun i=>P.L i (P.p b)) U:=b3P ho.nd hU hs fun i hi hiU=>absurd ⟨i,hi,hiU⟩ hall;rw[ho.col _ (ho.pin b hb)]at h1;have h2:0<P.at_ S P.s (P.p b):=b0e (fun c hc=>by
   have:=ho.spos c hc
   split<;>omega) ⟨b,hb,by rw[if_pos ⟨hSb,rfl⟩];exact ho.spos b hb⟩
  omega
theorem a0p {P:o5} (ho:P.Ok) {S:Nat→Bool} (hS:∃b∈P.fs,S b=true):0<P.den S:=b9L _ rfl ho.nd (b1q ho) (a7x ho hS)
theorem a9I {P:o5} (ho:P.Ok) {S:Nat→Bool} {i:Nat} (hi:i∈P.ns):sm (fun k=>P.A S i k*P.num S k) P.ns=P.den S*P.b S i:=a3M ho.nd hi
end Go.Cur
end
section
namespace Go.Cur
theorem S7 {f g:Nat→Int} {u:List Nat}:sm (fun i=>f i-g i) u=sm f u-sm g u:=by
 have h1:=G1 (f:=f) (g:=fun i=>-1*g i) (u:=u);rw[n8]at h1;rw[show(fun i=>f i-g i)=fun i=>f i+ -1*g i from funext fun i=>by omega,h1];omega
theorem a0w {f:Nat→Int} {k:Nat}:∀{U:List Nat},U.Nodup→k∈U→sm (fun i=>if k=i then f i else 0) U=f k
 |U,hU,hk=>by
  have:=a4p (f:=f) (g:=fun _=>0) hU hk;rw[y3 (f:=fun _=>0) fun _ _=>rfl]at this;rw[i8 (g:=fun i=>0+if k=i then f k else 0) fun i _=>by by_cases h:k=i<;>simp[h],this];omega
theorem b2z {P:o5} {S S':Nat→Bool} (hs:∀b,S' b=true→S b=true) (c:Nat→Int) (i:Nat):P.at_ S c i=P.at_ S' c i+P.at_ (fun b=>S b&& !S' b) c i:=by
 unfold o5.at_;rw[←G1];refine i8 fun b _=>?_
 by_cases h:S' b=true
 ·simp[h,hs b h]
 ·simp[h]
theorem c3g {P:o5} (ho:P.Ok) {S S':Nat→Bool} (hs:∀b,S' b=true→S b=true) (hn:∃b∈P.fs,S' b=true) (hr:∀b∈P.fs,S b=true→S' b=false→P.V b*P.den S≤P.num S (P.p b)):
  ∀k∈P.ns,P.num S k*P.den S'≤P.num S' k*P.den S:=by
 have hn':∃b∈P.fs,S b=true:=by obtain⟨b,hb,h⟩:=hn;exact⟨b,hb,hs b h⟩
 have d1:=a0p ho hn;have d2:=a0p ho hn';have key:=Y9 (A:=P.A S') (x:=fun k=>P.num S' k*P.den S-P.num S k*P.den S') ho.nd (b9b ho) (fun i hi=>by rw[c0D ho hi];exact b6k ho) (b1q ho).2 (a7x ho hn) fun i hi=>by
  have e1:sm (fun k=>P.A S' i k*(P.num S' k*P.den S-P.num S k*P.den S')) P.ns=P.den S*sm (fun k=>P.A S' i k*P.num S' k) P.ns-P.den S'*sm (fun k=>P.A S' i k*P.num S k) P.ns:=by
   rw[←n8,←n8,←S7];refine i8 fun k _=>?_;rw[Int.mul_sub,Int.mul_comm (P.den S),Int.mul_comm (P.den S'),Int.mul_assoc,Int.mul_assoc]
  have e2:sm (fun k=>P.A S i k*P.num S k) P.ns=sm (fun k=>P.A S' i k*P.num S k) P.ns+P.at_ (fun b=>S b&& !S' b) P.s i*P.num S i:=by
   have e3:=a0w (f:=fun k=>P.at_ (fun b=>S b&& !S' b) P.s k*P.num S k) ho.nd hi;rw[←e3,←G1];refine i8 fun k _=>?_;unfold o5.A
   by_cases h:i=k
   ·subst h;simp only[if_true];rw[b2z hs P.s i,←Int.add_assoc,Int.add_mul]
   ·simp[h]
  rw[a9I ho hi]at e2;have e4:P.b S i=P.b S' i+P.at_ (fun b=>S b&& !S' b) (fun b=>P.s b*P.V b) i:=by
   unfold o5.b;rw[b2z hs (fun b=>P.s b*P.V b) i];omega
  have e5:0≤P.at_ (fun b=>S b&& !S' b) P.s i*P.num S i-P.den S*P.at_ (fun b=>S b&& !S' b) (fun b=>P.s b*P.V b) i:=by
   unfold o5.at_;rw[Int.mul_comm (sm _ _) (P.num S i),←n8,←n8,←S7];refine a5j fun b hb=>?_
   by_cases h:(S b&& !S' b)=true∧P.p b=i
   ·rw[if_pos h,if_pos h];simp only[Bool.and_eq_true,Bool.not_eq_true']at h;obtain⟨⟨h1,h2⟩,h3⟩:=h;have:=hr b hb h1 h2;rw[h3]at this;have h4:=Int.mul_le_mul_of_nonneg_left this (Int.le_of_lt (ho.spos b hb));rw[Int.mul_comm (P.num S i),Int.mul_left_comm (P.den S),Int.mul_comm (P.den S)];omega
   ·rw[if_neg h,if_neg h];simp
  rw[e1,a9I ho hi];have e6:P.den S*(P.den S'*P.b S' i)-P.den S'*sm (fun k=>P.A S' i k*P.num S k) P.ns=P.den S'*(P.at_ (fun b=>S b&& !S' b) P.s i*P.num S i-P.den S*P.at_ (fun b=>S b&& !S' b) (fun b=>P.s b*P.V b) i):=by
   rw[e4,Int.mul_add]at e2;have:sm (fun k=>P.A S' i k*P.num S k) P.ns=P.den S*P.b S' i+P.den S*P.at_ (fun b=>S b&& !S' b) (fun b=>P.s b*P.V b) i-P.at_ (fun b=>S b&& !S' b) P.s i*P.num S i:=by omega
   rw[this,Int.mul_left_comm (P.den S),←Int.mul_sub]
   congr 1
   omega
  rw[e6];exact Int.mul_nonneg (Int.le_of_lt d1) e5
 intro k hk;have:=key k hk;omega
theorem b4M {P:o5} (ho:P.Ok) (S:Nat→Bool):sm (fun b=>if S b=true then P.s b*(P.V b*P.den S-P.num S (P.p b))else 0) P.fs=P.den S*sm P.u P.ns:=by
 have h1:sm (fun i=>sm (fun k=>P.A S i k*P.num S k) P.ns) P.ns=sm (fun i=>P.den S*P.b S i) P.ns:=i8 fun i hi=>a9I ho hi;rw[W3,n8]at h1;have h2:sm (fun k=>sm (fun i=>P.A S i k*P.num S k) P.ns) P.ns=sm (fun k=>P.at_ S P.s k*P.num S k) P.ns:=i8 fun k hk=>by
  have:sm (fun i=>P.A S i k*P.num S k) P.ns=sm (fun i=>P.num S k*P.A S i k) P.ns:=i8 fun i _=>Int.mul_comm _ _;rw[this,n8,b6t ho ho.nd hk,ho.col k hk,Int.zero_add,Int.mul_comm]
 have h3:sm (fun k=>P.at_ S P.s k*P.num S k) P.ns=sm (fun b=>if S b=true then P.s b*P.num S (P.p b)else 0) P.fs:=by
  have:sm (fun k=>P.at_ S P.s k*P.num S k) P.ns=sm (fun k=>sm (fun b=>if S b=true∧P.p b=k then P.s b*P.num S k else 0) P.fs) P.ns:=i8 fun k _=>by
   unfold o5.at_;rw[Int.mul_comm,←n8];refine i8 fun b _=>?_
   by_cases h:S b=true∧P.p b=k
   ·rw[if_pos h,if_pos h,Int.mul_comm]
   ·rw[if_neg h,if_neg h,Int.mul_zero]
  rw[this,W3];refine i8 fun b hb=>?_
  by_cases h:S b=true
  ·have:=a0w (f:=fun k=>P.s b*P.num S k) ho.nd (ho.pin b hb);rw[if_pos h,←this];exact i8 fun k _=>by simp[h]
  ·rw[if_neg h];exact y3 fun k _=>by simp[h]
 have h4:sm (P.b S) P.ns=-sm P.u P.ns+sm (fun b=>if S b=true then P.s b*P.V b else 0) P.fs:=by
  unfold o5.b;rw[G1,c2i ho.nd]
  congr 1
  ·have:=n8 (f:=P.u) (-1) (u:=P.ns);simpa using this
  ·refine i8 fun b hb=>?_
   by_cases h:S b=true<;>simp[h,ho.pin b hb]
 rw[h2,h3,h4]at h1;have h5:sm (fun b=>if S b=true then P.s b*(P.V b*P.den S-P.num S (P.p b))else 0) P.fs=P.den S*sm (fun b=>if S b=true then P.s b*P.V b else 0) P.fs-sm (fun b=>if S b=true then P.s b*P.num S (P.p b)else 0) P.fs:=by
  rw[←n8,←S7];refine i8 fun b _=>?_
  by_cases h:S b=true
  ·simp only[h,if_true];rw[Int.mul_sub,Int.mul_comm (P.V b),Int.mul_left_comm]
  ·simp[h]
 rw[h5,h1,Int.mul_add,Int.mul_neg];omega
def b3l (P:o5) (S:Nat→Bool):Prop:=(∃b∈P.fs,S b=true)∧∀b∈P.fs,(S b=true→P.num S (P.p b)≤P.V b*P.den S)∧(S b=false→P.V b*P.den S≤P.num S (P.p b))
theorem b0B {P:o5} (ho:P.Ok) (hsum:0<sm P.u P.ns) (hf:P.fs≠[]):∃S,b3l P S:=by
 have go:∀(n:Nat) (S:Nat→Bool),(P.fs.filter S).length≤n→(∃b∈P.fs,S b=true)→(∀b∈P.fs,S b=false→P.V b*P.den S≤P.num S (P.p b))→∃S,b3l P S:=by
  intro n
  induction n with
  |zero=>
   intro S h ⟨b,hb,hS⟩ _;have:b∈P.fs.filter S:=List.mem_filter.2 ⟨hb,hS⟩;rw[List.length_eq_zero_iff.1 (Nat.le_zero.1 h)]at this;simp at this
  | succ n ih=>
   intro S h hn hout
   let S':Nat→Bool:=fun b=>S b&&decide (P.num S (P.p b)≤P.V b*P.den S)
   have hs:∀b,S' b=true→S b=true:=fun b hb=>by simp only[S',Bool.and_eq_true]at hb;exact hb.1
   have hd:=a0p ho hn
   by_cases hall:∀b∈P.fs,S b=true→P.num S (P.p b)≤P.V b*P.den S
   ·exact⟨S,hn,fun b hb=>⟨hall b hb,hout b hb⟩⟩
   ·have hn':∃b∈P.fs,S' b=true:=by
     refine Classical.byContradiction fun hno=>?_;have hneg:∀b∈P.fs,S b=true→P.V b*P.den S-P.num S (P.p b)≤0:=fun b hb hS=>by
      have:¬P.num S (P.p b)≤P.V b*P.den S:=fun hle=>hno ⟨b,hb,by simp[S',hS,hle]⟩;omega
     have h1:=b4M ho S;have h2:sm (fun b=>if S b=true then P.s b*(P.V b*P.den S-P.num S (P.p b))else 0) P.fs≤sm (fun _=>0) P.fs:=b0z fun b hb=>by
      split
      ·exact Int.mul_nonpos_of_nonneg_of_nonpos (Int.le_of_lt (ho.spos b hb)) (hneg b hb (by assumption))
      ·exact Int.le_refl _
     rw[y3 (f:=fun _=>0) fun _ _=>rfl,h1]at h2;have:=Int.mul_pos hd hsum;omega
    have hrise:=c3g ho hs hn' fun b hb h1 h2=>by
     simp only[S',h1,Bool.true_and,decide_eq_false_iff_not]at h2;omega
    have hd':=a0p ho hn';refine ih S' ?_ hn' fun b hb hb'=>?_
    ·simp only[Classical.not_forall]at hall;obtain⟨b,hb,hSb,hgt⟩:=hall;have h1:P.fs.filter S'=(P.fs.filter S).filter S':=by
      rw[List.filter_filter];refine List.filter_congr fun a _=>?_;simp only[S']
      cases S a<;>simp
     have h2:((P.fs.filter S).filter S').length<(P.fs.filter S).length:=by
      refine List.length_filter_lt_length_iff_exists.2 ⟨b,List.mem_filter.2 ⟨hb,hSb⟩,?_⟩;simp only[S',hSb,Bool.true_and,decide_eq_true_eq];exact hgt
     rw[h1];omega
    ·have h1:P.V b*P.den S≤P.num S (P.p b):=by
      by_cases hS:S b=true
      ·simp only[S',hS,Bool.true_and,decide_eq_false_iff_not]at hb';omega
      ·exact hout b hb (by simpa using hS)
     have h2:=hrise _ (ho.pin b hb);have h3:=Int.mul_le_mul_of_nonneg_right h1 (Int.le_of_lt hd');have h4:(P.V b*P.den S')*P.den S≤P.num S' (P.p b)*P.den S:=by
      rw[Int.mul_assoc,Int.mul_comm (P.den S'),←Int.mul_assoc];omega
     exact Int.le_of_mul_le_mul_right h4 hd
 refine go _ (fun _=>true) (Nat.le_refl _) ?_ fun b _ h=>by simp at h
 obtain⟨b,l,hl⟩:=List.exists_cons_of_ne_nil hf;exact⟨b,by simp[hl],rfl⟩
end Go.Cur
end
section
namespace Go.Cur
def nmE (f:Nat→Nat) (e:Nat×Nat):Nat→Nat:=fun k=>if k=e.1∨k=e.2 then min (f e.1) (f e.2)else f k
def nmR (E:List (Nat×Nat)) (f:Nat→Nat):Nat→Nat:=E.foldl nmE f
def nmT (E:List (Nat×Nat)):Nat→Nat→Nat
 |0=>id
 |t+1=>nmR E (nmT E t)
def a2l (E:List (Nat×Nat)) (U:Nat→Prop):Prop:=∀e∈E,(U e.1↔U e.2)
theorem c1I {f:Nat→Nat} {e:Nat×Nat} {k:Nat}:nmE f e k≤f k:=by
 unfold nmE
 split
 ·rename_i h;rcases h with rfl|rfl
  ·exact Nat.min_le_left _ _
  ·exact Nat.min_le_right _ _
 ·exact Nat.le_refl _
theorem a1l:∀{E:List (Nat×Nat)} {f:Nat→Nat} {k:Nat},nmR E f k≤f k
 |[],f,k=>Nat.le_refl _
 |e::E,f,k=>Nat.le_trans (a1l (E:=E) (f:=nmE f e)) c1I
theorem b7e {E:List (Nat×Nat)}:∀{t k:Nat},nmT E t k≤k
 |0,k=>Nat.le_refl _
 |t+1,k=>Nat.le_trans a1l (b7e (t:=t))
theorem b7u {E:List (Nat×Nat)} {U:Nat→Prop}:∀{E':List (Nat×Nat)} {f:Nat→Nat},(∀e∈E',(U e.1↔U e.2))→(∀k,U (f k)↔U k)→∀k,U (nmR E' f k)↔U k
 |[],f,_,h,k=>h k
 | e::E',f,hE,h,k=>b7u (E:=E) (E':=E') (f:=nmE f e) (fun e he=>hE e (by simp[he])) (fun k=>by
   have he:=hE e (by simp);unfold nmE
   split
   ·rename_i hk;have hm:min (f e.1) (f e.2)=f e.1∨min (f e.1) (f e.2)=f e.2:=by omega
    have h1:=h e.1;have h2:=h e.2
    rcases hm with hm|hm<;>rw[hm]<;>rcases hk with rfl|rfl
    ·exact h1
    ·exact h1.trans he
    ·exact h2.trans he.symm
    ·exact h2
   ·exact h k) k
theorem b3W {E:List (Nat×Nat)} {U:Nat→Prop} (hU:a2l E U):∀{t:Nat} (k:Nat),U (nmT E t k)↔U k
 |0,k=>Iff.rfl
 |t+1,k=>b7u (E:=E) hU (b3W hU (t:=t)) k
theorem a9X {m:Nat}:∀{E:List (Nat×Nat)} {f:Nat→Nat},(∀e∈E,(f e.1≤m↔f e.2≤m))→∀k,nmR E f k≤m↔f k≤m
 |[],f,_,k=>Iff.rfl
 | e::E,f,h,k=>by
  have h0:=h e (by simp);have h1:∀k,nmE f e k≤m↔f k≤m:=fun k=>by
   unfold nmE
   split
   ·rename_i hk
    rcases hk with rfl|rfl<;>omega
   ·exact Iff.rfl
  have:=a9X (m:=m) (E:=E) (f:=nmE f e) (fun e' he=>by rw[h1,h1];exact h e' (by simp[he])) k;exact this.trans (h1 k)
theorem b5d {m:Nat} {E:List (Nat×Nat)} {f:Nat→Nat} {e:Nat×Nat} (he:e∈E) (h:f e.1≤m∨f e.2≤m):nmR E f e.1≤m∧nmR E f e.2≤m:=by
 obtain⟨u,v,rfl⟩:=List.append_of_mem he;have hc:nmR (u++e::v) f=nmR v (nmE (nmR u f) e):=by simp[nmR,List.foldl_append]
 rw[hc];have h1:nmR u f e.1≤f e.1:=a1l;have h2:nmR u f e.2≤f e.2:=a1l;have h3:nmE (nmR u f) e e.1=min (nmR u f e.1) (nmR u f e.2):=by simp[nmE]
 have h4:nmE (nmR u f) e e.2=min (nmR u f e.1) (nmR u f e.2):=by simp[nmE]
 have h5:=a1l (E:=v) (f:=nmE (nmR u f) e) (k:=e.1);have h6:=a1l (E:=v) (f:=nmE (nmR u f) e) (k:=e.2);rw[h3]at h5;rw[h4]at h6;omega
def b6C (n m:Nat) (f:Nat→Nat):Nat:=((List.range n).filter fun k=>decide (f k≤m)).length
theorem a6Q {n m:Nat} {f g:Nat→Nat} (h:∀k,g k≤f k) {j:Nat} (hj:j<n) (h1:¬f j≤m) (h2:g j≤m):b6C n m f<b6C n m g:=by
 unfold b6C;have:(List.range n).filter (fun k=>decide (f k≤m))=((List.range n).filter fun k=>decide (g k≤m)).filter fun k=>decide (f k≤m):=by
  rw[List.filter_filter];refine List.filter_congr fun k _=>?_;have:=h k
  by_cases hf:f k≤m
  ·have:g k≤m:=by omega
   simp[hf,this]
  ·simp[hf]
 rw[this];exact List.length_filter_lt_length_iff_exists.2 ⟨j,List.mem_filter.2 ⟨List.mem_range.2 hj,by simpa using h2⟩,by simpa using h1⟩
theorem b9i {n m:Nat} {f:Nat→Nat}:b6C n m f≤n:=by
 have:=List.length_filter_le (fun k=>decide (f k≤m)) (List.range n);simpa [b6C]using this
theorem a3N {E:List (Nat×Nat)} {n:Nat} (hE:∀e∈E,e.1<n∧e.2<n) (m:Nat):∀e∈E,(nmT E n e.1≤m↔nmT E n e.2≤m):=by
 have key:∀t,(∀e∈E,(nmT E t e.1≤m↔nmT E t e.2≤m))∨t+1≤b6C n m (nmT E t):=by
  intro t
  induction t with
  | zero=>
   by_cases hn:n=0
   ·left;intro e he;have:=hE e he;omega
   ·right
    have:0∈(List.range n).filter fun k=>decide (nmT E 0 k≤m):=List.mem_filter.2 ⟨List.mem_range.2 (by omega),by simp[nmT]⟩;exact List.length_pos_of_mem this
  | succ t ih=>
   by_cases hc:∀e∈E,(nmT E t e.1≤m↔nmT E t e.2≤m)
   ·left
    intro e he;have:=a9X (m:=m) (E:=E) (f:=nmT E t) hc;rw[nmT,this,this];exact hc e he
   ·right
    have ih:=ih.resolve_left hc;simp only[Classical.not_forall]at hc;obtain⟨e,he,hne⟩:=hc;have hor:nmT E t e.1≤m∨nmT E t e.2≤m:=by omega
    have hm:=b5d (f:=nmT E t) he hor;have hb:=hE e he;have:b6C n m (nmT E t)<b6C n m (nmT E (t+1)):=by
     rcases(by omega:¬nmT E t e.1≤m∨¬nmT E t e.2≤m)with h|h
     ·exact a6Q (fun k=>a1l) hb.1 h hm.1
     ·exact a6Q (fun k=>a1l) hb.2 h hm.2
    omega
 rcases key n with h|h
 ·exact h
 ·have:=b9i (n:=n) (m:=m) (f:=nmT E n);omega
def nm (E:List (Nat×Nat)) (n:Nat):Nat→Nat:=nmT E n
section
variable {E:List (Nat×Nat)} {n:Nat}
theorem b8P {k:Nat}:nm E n k≤k:=b7e
theorem b4w (hE:∀e∈E,e.1<n∧e.2<n) {e:Nat×Nat} (he:e∈E):nm E n e.1=nm E n e.2:=by
 have h1:=(a3N hE (nm E n e.1) e he).1 (Nat.le_refl _);have h2:=(a3N hE (nm E n e.2) e he).2 (Nat.le_refl _);unfold nm at*
 omega
theorem b1Y (hE:∀e∈E,e.1<n∧e.2<n) (i:Nat):a2l E fun k=>nm E n k=i:=fun e he=>by
 show nm E n e.1=i↔nm E n e.2=i;rw[b4w hE he]
theorem c0C (hE:∀e∈E,e.1<n∧e.2<n) (k:Nat):nm E n (nm E n k)=nm E n k:=(b3W (t:=n) (b1Y hE (nm E n k)) k).2 rfl
theorem c0h {U:Nat→Prop} (hU:a2l E U) (k:Nat):U (nm E n k)↔U k:=b3W hU k
def cp (E:List (Nat×Nat)) (n i:Nat):List Nat:=(List.range n).filter fun k=>decide (nm E n k=i)
theorem E4 {i k:Nat}:k∈cp E n i↔k<n∧nm E n k=i:=by simp[cp]
theorem I8 {i:Nat}:(cp E n i).Nodup:=List.nodup_range.filter _
theorem b2H {i:Nat}:(cp E n i).Pairwise (· < ·):=List.Pairwise.filter _ List.pairwise_lt_range
theorem a5M {U:Nat→Prop} (hU:a2l E U) {i k j:Nat} (hk:k∈cp E n i) (h:U k) (hj:j∈cp E n i):U j:=by
 rw[E4]at hk hj;have h1:=(c0h (n:=n) hU k).2 h;rw[hk.2]at h1;exact(c0h (n:=n) hU j).1 (by rw[hj.2];exact h1)
theorem b7z (hE:∀e∈E,e.1<n∧e.2<n) {U:List Nat} {i k j:Nat} (hs:∀x∈U,x∈cp E n i) (hk:k∈U) (hj:j∈cp E n i) (hn:j∉U):∃e∈E,(e.1∈U∧e.2∉U∧e.2∈cp E n i)∨(e.2∈U∧e.1∉U∧e.1∈cp E n i):=by
 by_cases hc:a2l E (fun x=>x∈U)
 ·exact absurd (a5M hc (hs k hk) hk hj) hn
 ·simp only[a2l,Classical.not_forall]at hc;obtain⟨e,he,h⟩:=hc;refine⟨e,he,?_⟩;have h1:=b4w hE he;have hb:=hE e he
  by_cases h3:e.1∈U
  ·left
   refine⟨h3,fun h4=>h ⟨fun _=>h4,fun _=>h3⟩,?_⟩;have:=E4.1 (hs _ h3);exact E4.2 ⟨hb.2,by rw[←h1];exact this.2⟩
  ·have h4:e.2∈U:=by
    refine Classical.byContradiction fun h4=>h ⟨fun h5=>absurd h5 h3,fun h5=>absurd h5 h4⟩
   right
   refine⟨h4,h3,?_⟩;have:=E4.1 (hs _ h4);exact E4.2 ⟨hb.1,by rw[h1];exact this.2⟩
def W9 (E:List (Nat×Nat)) (n:Nat):List Nat:=(List.range n).filter fun i=>decide (nm E n i=i)
def b7v (E:List (Nat×Nat)) (n:Nat):List (List Nat):=(W9 E n).map (cp E n)
theorem a2w {i:Nat}:i∈W9 E n↔i<n∧nm E n i=i:=by simp[W9]
theorem a4I {i:Nat} (h:i∈W9 E n):i∈cp E n i:=by
 rw[a2w]at h;exact E4.2 h
theorem b9A (hE:∀e∈E,e.1<n∧e.2<n) {k:Nat} (hk:k<n):nm E n k∈W9 E n:=a2w.2 ⟨Nat.lt_of_le_of_lt b8P hk,c0C hE k⟩
theorem b5M {i:Nat} {p:List Nat} (hi:i∈W9 E n) (h1:i∈p) (hc:a2l E fun x=>x∈p) {j:Nat} (hj:j∈cp E n i):j∈p:=a5M hc (a4I hi) h1 hj
end
end Go.Cur
end
section
namespace Go.Cur
structure Wn where
 a:Nat
 b:Nat
 s:Int
def Wn.e (w:Wn):Nat×Nat:=(w.a,w.b)
def ew (w:Wn) (i:Nat):Int:=(if i=w.a then 1 else 0)-(if i=w.b then 1 else 0)
def lw:List Wn→Nat→Nat→Int
 |[],_,_=>0
 |w::W,i,k=>w.s*(ew w i*ew w k)+lw W i k
def OkW (W:List Wn) (n:Nat):Prop:=∀w∈W,w.a<n∧w.b<n∧w.a≠w.b∧0<w.s
def U3 (W:List Wn):List (Nat×Nat):=W.map Wn.e
theorem a2r {i k:Nat}:∀{u v:List Wn},lw (u++v) i k=lw u i k+lw v i k
 |[],v=>by simp[lw]
 |w::u,v=>by rw[List.cons_append,lw,lw,a2r];omega
theorem b2u {i k:Nat}:∀{W:List Wn},lw W i k=lw W k i
 |[]=>rfl
 |w::W=>by rw[lw,lw,b2u,Int.mul_comm (ew w i)]
theorem b2N {w:Wn}:∀{U:List Nat},U.Nodup→sm (ew w) U=(if w.a∈U then 1 else 0)-(if w.b∈U then 1 else 0)
 |[],_=>by simp[sm]
 | x::U,h=>by
  rw[List.nodup_cons]at h;rw[sm,b2N h.2];unfold ew
  by_cases ha:x=w.a
  ·by_cases hb:x=w.b
   ·have h1:w.a∉U:=ha▸h.1;have h2:w.b∉U:=hb▸h.1;have h3:w.b=w.a:=by omega
    subst ha;simp[h3]
   ·have h1:w.a∉U:=ha▸h.1;have h2:¬w.b=x:=fun e=>hb e.symm;subst ha;simp[h1,hb,h2];omega
  ·have h2:¬w.a=x:=fun e=>ha e.symm
   by_cases hb:x=w.b
   ·have h1:w.b∉U:=hb▸h.1;subst hb;simp[h1,ha,h2];omega
   ·have h3:¬w.b=x:=fun e=>hb e.symm;simp[ha,hb,h2,h3]
def lwU:List Wn→List Nat→Nat→Int
 |[],_,_=>0
 |w::W,U,k=>w.s*(ew w k*((if w.a∈U then 1 else 0)-(if w.b∈U then 1 else 0)))+lwU W U k
theorem a6q {k:Nat} {U:List Nat} (hU:U.Nodup):∀{W:List Wn},sm (fun i=>lw W i k) U=lwU W U k
 |[]=>by simp only[lw,lwU];exact y3 fun _ _=>rfl
 |w::W=>by
  simp only[lw,lwU];rw[G1,a6q hU,←b2N hU]
  congr 1
  rw[n8]
  congr 1
  rw[←n8];exact i8 fun i _=>Int.mul_comm _ _
theorem c0c {w:Wn} {i k:Nat} (h:i≠k):ew w i*ew w k≤0:=by
 unfold ew
 by_cases h1:i=w.a
 ·have h3:¬k=w.a:=by omega
  by_cases h2:i=w.b
  ·have h4:¬k=w.b:=by omega
   simp[h1,h3,h4]
  ·rw[if_pos h1,if_neg h2,if_neg h3]
   split<;>omega
 ·by_cases h2:i=w.b
  ·have h4:¬k=w.b:=by omega
   rw[if_neg h1,if_pos h2,if_neg h4]
   split<;>omega
  ·rw[if_neg h1,if_neg h2];omega
theorem b7o {n i k:Nat} (h:i≠k):∀{W:List Wn},OkW W n→lw W i k≤0
 |[],_=>Int.le_refl _
 |w::W,hW=>by
  have h1:=b7o h (W:=W) fun w hw=>hW w (by simp[hw]);have h2:=c0c (w:=w) h;have h3:=(hW w (by simp)).2.2.2;have:=Int.mul_nonpos_of_nonneg_of_nonpos (Int.le_of_lt h3) h2;rw[lw];omega
theorem b1C {n k:Nat} {U:List Nat} (hk:k∈U):∀{W:List Wn},OkW W n→0≤lwU W U k
 |[],_=>Int.le_refl _
 | w ::W,hW=>by
  have h1:=b1C hk (W:=W) fun w hw=>hW w (by simp[hw]);have h3:=(hW w (by simp)).2.2.2;have h2:0≤ew w k*((if w.a∈U then 1 else 0)-(if w.b∈U then 1 else 0)):=by
   unfold ew
   by_cases e1:k=w.a
   ·have h5:=(hW w (by simp)).2.2.1;rw[if_pos e1,if_neg (by omega),←e1,if_pos hk]
    split<;>omega
   ·by_cases e2:k=w.b
    ·rw[if_neg e1,if_pos e2,←e2,if_pos hk]
     split<;>omega
    ·rw[if_neg e1,if_neg e2];omega
  have:=Int.mul_nonneg (Int.le_of_lt h3) h2;rw[lwU];omega
theorem a8A {n k:Nat} {U:List Nat} (hk:k∈U):∀{W:List Wn},OkW W n→(∃w∈W,(k=w.a∧w.b∉U)∨(k=w.b∧w.a∉U))→0<lwU W U k
 |[],_,⟨_,h,_⟩=>by simp at h
 | w::W,hW,⟨x,hx,h⟩=>by
  have hW':OkW W n:=fun w hw=>hW w (by simp[hw])
  rcases List.mem_cons.1 hx with rfl|hx
  ·have h1:=b1C hk hW';have h3:=(hW x (by simp)).2.2.2;have h2:ew x k*((if x.a∈U then 1 else 0)-(if x.b∈U then 1 else 0))=1:=by
    have h5:=(hW x (by simp)).2.2.1;unfold ew
    rcases h with⟨e,h⟩|⟨e,h⟩
    ·rw[if_pos e,if_neg (by omega),←e,if_pos hk,if_neg h];rfl
    ·rw[if_neg (by omega),if_pos e,←e,if_pos hk,if_neg h];rfl
   rw[lwU,h2];omega
  ·have h1:=a8A hk hW' ⟨x,hx,h⟩;have h2:=b1C hk (W:=[w]) fun y hy=>hW y (by simp only[List.mem_singleton]at hy;subst hy;simp);simp only[lwU]at h2 ⊢;omega
theorem b4v {n i k:Nat} {E:List (Nat×Nat)} (hE:∀e∈E,e.1<n∧e.2<n):∀{W:List Wn},(∀w∈W,w.e∈E)→lwU W (cp E n i) k=0
 |[],_=>rfl
 | w::W,hW=>by
  have h1:=b4w hE (hW w (by simp));have hb:=hE _ (hW w (by simp));have h2:w.a∈cp E n i↔w.b∈cp E n i:=by
   rw[E4,E4];simp only[Wn.e]at h1 hb;rw[h1];exact⟨fun h=>⟨hb.2,h.2⟩,fun h=>⟨hb.1,h.2⟩⟩
  rw[lwU,b4v hE fun w hw=>hW w (by simp[hw])]
  by_cases h:w.a∈cp E n i
  ·rw[if_pos h,if_pos (h2.1 h)];simp
  ·rw[if_neg h,if_neg fun e=>h (h2.2 e)];simp
theorem a1C {W:List Wn} {n:Nat} (hW:OkW W n):∀e∈U3 W,e.1<n∧e.2<n:=fun e he=>by
 obtain⟨w,hw,rfl⟩:=List.mem_map.1 he;have:=hW w hw;exact⟨this.1,this.2.1⟩
def prt (W:List Wn) (n i:Nat) (u:Nat→Int) (fs:List Nat) (p:Nat→Nat) (s V:Nat→Int):o5:=⟨cp (U3 W) n i,lw W,u,fs,p,s,V⟩
theorem c0e {W:List Wn} {n i:Nat} {u:Nat→Int} {fs:List Nat} {p:Nat→Nat} {s V:Nat→Int} (hW:OkW W n) (hp:∀b∈fs,p b∈cp (U3 W) n i) (hs:∀b∈fs,0<s b):(prt W n i u fs p s V).Ok where
 nd:=I8
 off:=fun i _ k _ h=>b7o h hW
 col:=fun k _=>by
  show sm (fun i=>lw W i k) (cp (U3 W) n i)=0;rw[a6q I8,b4v (a1C hW) fun w hw=>List.mem_map.2 ⟨w,hw,rfl⟩]
 row:=fun k _=>by
  show sm (fun i=>lw W k i) (cp (U3 W) n i)=0;rw[i8 (g:=fun i=>lw W i k) fun i _=>b2u,a6q I8,b4v (a1C hW) fun w hw=>List.mem_map.2 ⟨w,hw,rfl⟩]
 lead:=fun U hU hn hs ⟨j,hj,hjU⟩=>by
  obtain⟨k0,hk0⟩:=List.exists_mem_of_ne_nil U hn;obtain⟨e,he,h⟩:=b7z (a1C hW) hs hk0 hj hjU;obtain⟨w,hw,rfl⟩:=List.mem_map.1 he
  rcases h with⟨h1,h2,_⟩|⟨h1,h2,_⟩
  ·refine⟨w.a,h1,?_⟩;show 0<sm (fun i=>lw W i w.a) U;rw[a6q hU];exact a8A h1 hW ⟨w,hw, .inl ⟨rfl,h2⟩⟩
  ·refine⟨w.b,h1,?_⟩;show 0<sm (fun i=>lw W i w.b) U;rw[a6q hU];exact a8A h1 hW ⟨w,hw, .inr ⟨rfl,h2⟩⟩
 pin:=hp
 spos:=hs
end Go.Cur
end
section
namespace Go.Cur
theorem c0T {P:o5} (ho:P.Ok) {S:Nat→Bool} {x:Nat→Int} {i:Nat} (hi:i∈P.ns):sm (fun k=>P.A S i k*x k) P.ns=sm (fun k=>P.L i k*x k) P.ns+P.at_ S P.s i*x i:=by
 have e3:=a0w (f:=fun k=>P.at_ S P.s k*x k) ho.nd hi;rw[←e3,←G1];refine i8 fun k _=>?_;unfold o5.A
 by_cases h:i=k
 ·subst h;simp only[if_true];rw[Int.add_mul]
 ·simp[h]
theorem c1k {P:o5} (ho:P.Ok) {S:Nat→Bool} (hn:∃b∈P.fs,S b=true) {y z:Nat→Int} {e d:Int} (h:∀i∈P.ns,d*sm (fun k=>P.A S i k*y k) P.ns≤e*sm (fun k=>P.A S i k*z k) P.ns):∀k∈P.ns,d*y k≤e*z k:=by
 intro k hk;have:=Y9 (A:=P.A S) (x:=fun k=>e*z k-d*y k) ho.nd (b9b ho) (fun i hi=>by rw[c0D ho hi];exact b6k ho) (b1q ho).2 (a7x ho hn) (fun i hi=>by
  have e1:sm (fun k=>P.A S i k*(e*z k-d*y k)) P.ns=e*sm (fun k=>P.A S i k*z k) P.ns-d*sm (fun k=>P.A S i k*y k) P.ns:=by
   rw[←n8,←n8,←S7];refine i8 fun k _=>?_;rw[Int.mul_sub,Int.mul_left_comm,Int.mul_left_comm _ d]
  rw[e1];have:=h i hi;omega) k hk
 have h2:0≤e*z k-d*y k:=this;omega
def o5.give (P:o5) (x:Nat→Int) (d:Int) (i:Nat):Int:=sm (fun b=>if P.p b=i then P.s b*max 0 (P.V b*d-x i)else 0) P.fs
structure b1H (P:o5) (x:Nat→Int) (d:Int):Prop where
 pos:0<d
 eq:∀i∈P.ns,sm (fun k=>P.L i k*x k) P.ns=P.give x d i-d*P.u i
def o5.withU (P:o5) (u:Nat→Int):o5:={P with u:=u}
structure Sol (P:o5) (S:Nat→Bool) (x:Nat→Int) (d:Int):Prop where
 pos:0<d
 eq:∀i∈P.ns,sm (fun k=>P.A S i k*x k) P.ns=d*P.b S i
theorem b1s {P:o5} (ho:P.Ok) {S:Nat→Bool} (hn:∃b∈P.fs,S b=true):Sol P S (P.num S) (P.den S):=⟨a0p ho hn,fun i hi=>a9I ho hi⟩
theorem b9e {P:o5} (ho:P.Ok) {u':Nat→Int} (hu:∀i∈P.ns,P.u i≤u' i) {S:Nat→Bool} (hn:∃b∈P.fs,S b=true) {x y:Nat→Int} {d e:Int} (hx:b1H P x d) (hy:Sol (P.withU u') S y e):∀k∈P.ns,d*y k≤e*x k:=by
 refine c1k ho hn fun i hi=>?_;have h1:sm (fun k=>P.A S i k*y k) P.ns=e*(P.withU u').b S i:=hy.eq i hi;rw[h1,c0T ho hi,hx.eq i hi,Int.mul_left_comm];refine Int.mul_le_mul_of_nonneg_left ?_ (Int.le_of_lt hy.pos);have h2:(P.withU u').b S i=-u' i+P.at_ S (fun b=>P.s b*P.V b) i:=rfl;have h3:d*P.at_ S (fun b=>P.s b*P.V b) i-P.at_ S P.s i*x i≤P.give x d i:=by
  unfold o5.at_ o5.give;rw[Int.mul_comm (sm _ _) (x i),←n8,←n8,←S7];refine b0z fun b hb=>?_;have hs:=ho.spos b hb
  by_cases hp:P.p b=i
  ·rw[if_pos hp];have hm:P.s b*(P.V b*d-x i)≤P.s b*max 0 (P.V b*d-x i):=Int.mul_le_mul_of_nonneg_left (Int.le_max_right _ _) (Int.le_of_lt hs);have h0:0≤P.s b*max 0 (P.V b*d-x i):=Int.mul_nonneg (Int.le_of_lt hs) (Int.le_max_left _ _)
   by_cases hS:S b=true
   ·rw[if_pos ⟨hS,hp⟩,if_pos ⟨hS,hp⟩];have e1:P.s b*(P.V b*d-x i)=d*(P.s b*P.V b)-x i*P.s b:=by
     rw[Int.mul_sub,Int.mul_comm (x i),←Int.mul_assoc,Int.mul_comm d]
    show d*(P.s b*P.V b)-x i*P.s b≤_;omega
   ·rw[if_neg (fun h=>hS h.1),if_neg (fun h=>hS h.1)];omega
  ·rw[if_neg (fun h=>hp h.2),if_neg (fun h=>hp h.2),if_neg hp];omega
 have h4:=Int.mul_le_mul_of_nonneg_left (hu i hi) (Int.le_of_lt hx.pos);rw[h2,Int.mul_add,Int.mul_neg];omega
theorem b3j {P:o5} (ho:P.Ok) {S:Nat→Bool} {x:Nat→Int} {d:Int} (hx:Sol P S x d) (hf:∀b∈P.fs,(S b=true→x (P.p b)≤P.V b*d)∧(S b=false→P.V b*d≤x (P.p b))):b1H P x d:=by
 refine⟨hx.pos,fun i hi=>?_⟩;have h1:=hx.eq i hi;rw[c0T ho hi]at h1;have h2:P.b S i=-P.u i+P.at_ S (fun b=>P.s b*P.V b) i:=rfl;have h3:d*P.at_ S (fun b=>P.s b*P.V b) i-P.at_ S P.s i*x i=P.give x d i:=by
  unfold o5.at_ o5.give;rw[Int.mul_comm (sm _ _) (x i),←n8,←n8,←S7];refine i8 fun b hb=>?_;have hfb:=hf b hb
  by_cases hp:P.p b=i
  ·rw[if_pos hp];rw[hp]at hfb
   by_cases hS:S b=true
   ·rw[if_pos ⟨hS,hp⟩,if_pos ⟨hS,hp⟩,Int.max_eq_right (by have:=hfb.1 hS;omega),Int.mul_sub,Int.mul_comm (x i),←Int.mul_assoc (P.s b),Int.mul_comm d]
   ·rw[if_neg (fun h=>hS h.1),if_neg (fun h=>hS h.1),Int.max_eq_left (by have:=hfb.2 (by simpa using hS);omega)];simp
  ·rw[if_neg (fun h=>hp h.2),if_neg (fun h=>hp h.2),if_neg hp];simp
 rw[h2,Int.mul_add,Int.mul_neg]at h1;omega
theorem b0x {P:o5} (ho:P.Ok) {S:Nat→Bool} (hf:b3l P S):b1H P (P.num S) (P.den S):=b3j ho (b1s ho hf.1) hf.2
theorem b3o {P:o5} {S S':Nat→Bool} (h:∀b∈P.fs,S b=S' b):P.num S=P.num S'∧P.den S=P.den S':=by
 have ha:∀c,P.at_ S c=P.at_ S' c:=fun c=>funext fun i=>i8 fun b hb=>by rw[h b hb]
 have hA:P.A S=P.A S':=by funext i k;unfold o5.A;rw[ha]
 have hb:P.b S=P.b S':=by funext i;unfold o5.b;rw[ha]
 refine⟨?_,?_⟩
 ·funext k;unfold o5.num;rw[hA,hb]
 ·unfold o5.den;rw[hA]
end Go.Cur
end
section
namespace Go.Cur
def ps (t:Nat→Int):Nat→Int
 |0=>0
 |j+1=>ps t j+t j
theorem a9O {t u:Nat→Int}:∀{n:Nat},(∀j,j<n→t j=u j)→ps t n=ps u n
 |0,_=>rfl
 |n+1,h=>by rw[ps,ps,a9O fun j hj=>h j (by omega),h n (by omega)]
theorem a8N {t:Nat→Int}:∀{n:Nat},ps t (n+1)=t 0+ps (fun j=>t (j+1)) n
 |0=>by simp[ps]
 |n+1=>by rw[ps,a8N,ps];omega
theorem b2M {t:Nat→Int} (a:Int):∀{n:Nat},ps (fun j=>a*t j) n=a*ps t n
 |0=>by simp[ps]
 |n+1=>by rw[ps,ps,b2M,Int.mul_add]
theorem c0r {t:Nat→Int} {n:Nat}:ps (fun j=>-t j) n=-ps t n:=by
 have:=b2M (t:=t) (-1) (n:=n);simpa using this
theorem c2R {α:Type} [Inhabited α]:∀{cs:List α} {f:α→List α→Int},E f cs=ps (fun j=>sg j*f (cs[j]?.getD default) (cs.eraseIdx j)) cs.length
 |[],_=>rfl
 | c::cs,f=>by
  rw[E,c2R,List.length_cons,a8N];have:ps (fun j=>sg (j+1)*f ((c::cs)[j+1]?.getD default) ((c::cs).eraseIdx (j+1))) cs.length=-ps (fun j=>sg j*f (cs[j]?.getD default) (c::cs.eraseIdx j)) cs.length:=by
   rw[←c0r];refine a9O fun j hj=>?_;simp only[sg,List.getElem?_cons_succ,List.eraseIdx_cons_succ,Int.neg_mul]
  rw[this];simp[sg];omega
def minor (a:Nat→Nat→Int) (rows cols:List Nat):Int:=det rows (cols.map fun k i=>a i k)
theorem b0I {a:Nat→Nat→Int} {r:Nat} {rows cols:List Nat}:minor a (r::rows) cols=ps (fun j=>sg j*(a r (cols[j]?.getD 0)*minor a rows (cols.eraseIdx j))) cols.length:=by
 unfold minor;rw[a0r,c2R]
 rfl
theorem a6y {f:Nat→Nat}:∀{is:List Nat} {cs:List (Nat→Int)},det (is.map f) cs=det is (cs.map fun c i=>c (f i))
 |[],[]=>rfl
 |[],_::_=>rfl
 |i::is,cs=>by
  rw[List.map_cons,det,det,b7G];exact H5 fun c l _ _ _=>by rw[a6y]
theorem a2q {a:Nat→Nat→Int} {f g:Nat→Nat} {rows cols:List Nat}:minor a (rows.map f) (cols.map g)=minor (fun i k=>a (f i) (g k)) rows cols:=by
 unfold minor;rw[a6y,List.map_map,List.map_map]
 rfl
theorem W6 {a b:Nat→Nat→Int} {rows cols:List Nat} (h:∀i∈rows,∀k∈cols,a i k=b i k):minor a rows cols=minor b rows cols:=Z0 h
theorem M2 {p:List Nat}:p=(List.range p.length).map fun j=>p.getD j 0:=by
 refine List.ext_getElem (by simp) fun j h1 h2=>?_;simp[h1]
theorem b2X {A:Nat→Nat→Int} {p:List Nat}:D A p=minor (fun i k=>A (p.getD i 0) (p.getD k 0)) (List.range p.length) (List.range p.length):=by
 have h:D A p=minor A p p:=rfl;rw[h]
 conv=>lhs;rw[M2 (p:=p)]
 exact a2q
theorem O6 {p:List Nat} (hp:p.Nodup) {i j:Nat} (hi:i<p.length) (hj:j<p.length) (h:p.getD i 0=p.getD j 0):i=j:=by
 simp only[List.getD_eq_getElem?_getD,List.getElem?_eq_getElem hi,List.getElem?_eq_getElem hj,Option.getD_some]at h;exact(List.getElem_inj hp).1 h
theorem a6M {A:Nat→Nat→Int} {b:Nat→Int} {p:List Nat} (hp:p.Nodup) {k:Nat} (hk:k<p.length):num A b p (p.getD k 0)=minor (fun i j=>if j=k then b (p.getD i 0)else A (p.getD i 0) (p.getD j 0)) (List.range p.length) (List.range p.length):=by
 have h:num A b p (p.getD k 0)=minor (fun i j=>if j=p.getD k 0 then b i else A i j) p p:=rfl;rw[h]
 conv=>lhs;rw[M2 (p:=p)]
 rw[a2q];refine W6 fun i hi j hj=>?_;rw[List.mem_range]at hi hj;have e:((List.range p.length).map fun j=>p.getD j 0)=p:=M2.symm;rw[e]
 by_cases h:j=k
 ·subst h;simp
 ·rw[if_neg h,if_neg fun e=>h (O6 hp hj hk e)]
def sa (f:Nat→Nat):List Nat→Nat
 |[]=>0
 |i::is=>f i+sa f is
theorem S2 {f:Nat→Nat}:∀{u v:List Nat},sa f (u++v)=sa f u+sa f v
 |[],v=>by simp[sa]
 |i::u,v=>by rw[List.cons_append,sa,sa,S2];omega
theorem a5p {f g:Nat→Nat}:∀{u:List Nat},(∀i∈u,f i≤g i)→sa f u≤sa g u
 |[],_=>Nat.le_refl _
 |i::u,h=>by
  have h1:=h i (by simp);have h2:=a5p (f:=f) (g:=g) (u:=u) fun k hk=>h k (by simp[hk]);rw[sa,sa];omega
theorem b2Y {f:Nat→Nat} (a:Nat):∀{u:List Nat},sa (fun i=>f i*a) u=sa f u*a
 |[]=>by simp[sa]
 |i::u=>by rw[sa,sa,b2Y,Nat.add_mul]
theorem b8G:∀{cs:List Nat} {f:Nat→List Nat→Int} {g:Nat→Nat},(∀u c v,cs=u++c::v→(f c (u++v)).natAbs≤g c)→(E f cs).natAbs≤sa g cs
 |[],f,g,_=>by simp[E,sa]
 |c::cs,f,g,h=>by
  have h1:=h [] c cs rfl;have h2:=b8G (cs:=cs) (f:=fun d l=>f d (c::l)) (g:=g) fun u d v e=>h (c::u) d v (by rw[e];rfl);rw[E,sa];simp only[List.nil_append]at h1;omega
theorem a2A {a:Nat→Nat→Int} {R:Nat}:∀{rows cols:List Nat},(∀i∈rows,sa (fun k=>(a i k).natAbs) cols≤R)→(minor a rows cols).natAbs≤R^rows.length
 |[],cols,_=>by
  unfold minor
  cases cols<;>simp[det]
 |i::rows,cols,h=>by
  have hm:minor a (i::rows) cols=E (fun k l=>a i k*minor a rows l) cols:=a0r;rw[hm];refine Nat.le_trans (b8G (g:=fun k=>(a i k).natAbs*R^rows.length) fun u c v e=>?_) ?_
  ·rw[Int.natAbs_mul];refine Nat.mul_le_mul_left _ (a2A fun j hj=>?_);have:=h j (by simp[hj]);rw[e,S2,sa]at this;rw[S2];omega
  ·rw[b2Y,List.length_cons,Nat.pow_succ,Nat.mul_comm];exact Nat.mul_le_mul_left _ (h i (by simp))
def bnd (R B:Nat):Nat→Nat
 |0=>0
 |n+1=>B*R^n+R*bnd R B n
theorem X7 {f:Nat→Nat} {u v:List Nat} {k:Nat}:sa f (u++k::v)=f k+sa f (u++v):=by
 rw[S2,S2,sa];omega
theorem a3E {a:Nat→Nat→Int} {R B k0:Nat}:∀{rows cols:List Nat},cols.Nodup→k0∈cols→(∀i∈rows,(a i k0).natAbs≤B)→(∀i∈rows,sa (fun k=>if k=k0 then 0 else(a i k).natAbs) cols≤R)→(minor a rows cols).natAbs≤bnd R B rows.length
 |[],cols,_,hk,_,_=>by
  unfold minor
  cases cols with
  |nil=>simp at hk
  |cons c cs=>simp[det]
 | i ::rows,cols,hn,hk,hB,hR=>by
  have hm:minor a (i::rows) cols=E (fun k l=>a i k*minor a rows l) cols:=a0r;rw[hm,List.length_cons,bnd];refine Nat.le_trans (b8G (g:=fun k=>if k=k0 then B*R^rows.length else(a i k).natAbs*bnd R B rows.length) fun u c v e=>?_) ?_
  ·rw[Int.natAbs_mul];subst e;obtain⟨hu,hv,hd⟩:=B5 hn
   by_cases hc:c=k0
   ·rw[if_pos hc];subst hc;refine Nat.mul_le_mul (hB i (by simp)) (a2A fun j hj=>?_);have:=hR j (by simp[hj]);rw[X7,if_pos rfl,Nat.zero_add]at this;refine Nat.le_trans (Nat.le_of_eq ?_) this;have hne:∀x∈u++v,x≠c:=fun x hx=>by
     rintro rfl
     rcases List.mem_append.1 hx with h|h
     ·exact hu h
     ·exact hv h
    refine Nat.le_antisymm (a5p fun x hx=>by rw[if_neg (hne x hx)];exact Nat.le_refl _) (a5p fun x hx=>by rw[if_neg (hne x hx)];exact Nat.le_refl _)
   ·rw[if_neg hc];refine Nat.mul_le_mul_left _ (a3E hd ?_ (fun j hj=>hB j (by simp[hj])) fun j hj=>?_)
    ·simp only[List.mem_append,List.mem_cons]at hk ⊢
     rcases hk with h|rfl|h
     ·exact .inl h
     ·exact absurd rfl hc
     ·exact .inr h
    ·have:=hR j (by simp[hj]);rw[X7]at this;omega
  ·obtain⟨u,v,rfl⟩:=List.append_of_mem hk;obtain⟨hu,hv,hd⟩:=B5 hn;have hne:∀x∈u++v,x≠k0:=fun x hx=>by
    rintro rfl
    rcases List.mem_append.1 hx with h|h
    ·exact hu h
    ·exact hv h
   rw[X7,if_pos rfl];refine Nat.add_le_add_left ?_ _;have h1:=hR i (by simp);rw[X7,if_pos rfl,Nat.zero_add]at h1;refine Nat.le_trans (Nat.le_of_eq (Nat.le_antisymm (a5p (g:=fun k=>(if k=k0 then 0 else(a i k).natAbs)*bnd R B rows.length) fun x hx=>by rw[if_neg (hne x hx),if_neg (hne x hx)];exact Nat.le_refl _) (a5p fun x hx=>by rw[if_neg (hne x hx),if_neg (hne x hx)];exact Nat.le_refl _))) ?_;rw[b2Y];exact Nat.mul_le_mul_right _ h1
end Go.Cur
end
section
namespace Go.Cur
def o5.A0 (P:o5) (i0:Nat):Nat→Nat→Int:=fun i k=>if i=i0 then(if k=i0 then 1 else 0)else P.L i k
def o5.b0 (P:o5) (i0:Nat):Nat→Int:=fun i=>if i=i0 then 0 else-P.u i
def o5.num0 (P:o5) (i0:Nat) (k:Nat):Int:=Cur.num (P.A0 i0) (P.b0 i0) P.ns k
def o5.den0 (P:o5) (i0:Nat):Int:=D (P.A0 i0) P.ns
theorem b0g {P:o5} (ho:P.Ok) {i0:Nat} {tl:List Nat} (hn:P.ns=i0::tl):0<P.den0 i0:=by
 have hnd:=ho.nd;rw[hn,List.nodup_cons]at hnd;have h1:P.den0 i0=D P.L tl:=by
  unfold o5.den0 D;rw[hn,a0r,E,a3W]
  ·have e:(P.A0 i0) i0 i0=1:=by simp[o5.A0]
   rw[e,Int.one_mul,Int.sub_zero];exact Z0 fun i hi k hk=>by
    have:¬i=i0:=by rintro rfl;exact hnd.1 hi
    simp[o5.A0,this]
  ·intro c l hc _ _;have:¬c=i0:=by rintro rfl;exact hnd.1 hc
   simp[o5.A0,this]
 rw[h1];have hmem:∀k∈tl,k∈P.ns:=fun k hk=>by rw[hn];simp[hk]
 refine b9L _ rfl hnd.2 ?_ ?_
 ·have hc:b1h P.L P.ns:=⟨ho.off,fun k hk=>by rw[ho.col k hk];exact Int.le_refl _⟩;rw[hn]at hc;exact b1h.minor (u:=[]) hc (by simp) hnd.1
 ·intro U hU hne hs;exact ho.lead U hU hne (fun k hk=>hmem k (hs k hk)) ⟨i0,by rw[hn];simp,fun h=>hnd.1 (hs _ h)⟩
theorem b8p {P:o5} (ho:P.Ok) {i0:Nat} {tl:List Nat} (hn:P.ns=i0::tl) (hsum:sm P.u P.ns=0):∀i∈P.ns,sm (fun k=>P.L i k*P.num0 i0 k) P.ns=- (P.den0 i0*P.u i):=by
 have hnd:=ho.nd;rw[hn,List.nodup_cons]at hnd;have htl:∀i∈tl,sm (fun k=>P.L i k*P.num0 i0 k) P.ns=- (P.den0 i0*P.u i):=fun i hi=>by
  have hi0:¬i=i0:=by rintro rfl;exact hnd.1 hi
  have h1:=a3M (A:=P.A0 i0) (b:=P.b0 i0) ho.nd (i:=i) (by rw[hn];simp[hi]);have h2:sm (fun k=>P.A0 i0 i k*num (P.A0 i0) (P.b0 i0) P.ns k) P.ns=sm (fun k=>P.L i k*P.num0 i0 k) P.ns:=i8 fun k _=>by
   simp only[o5.A0,if_neg hi0];rfl
  rw[h2]at h1;rw[h1];show P.den0 i0*P.b0 i0 i=_;unfold o5.b0;rw[if_neg hi0,Int.mul_neg]
 intro i hi
 by_cases e:i=i0
 ·subst e;have h1:sm (fun j=>sm (fun k=>P.L j k*P.num0 i k) P.ns) P.ns=0:=by
   rw[W3];refine y3 fun k hk=>?_;have:sm (fun j=>P.L j k*P.num0 i k) P.ns=sm (fun j=>P.num0 i k*P.L j k) P.ns:=i8 fun _ _=>Int.mul_comm _ _;rw[this,n8,ho.col k hk,Int.mul_zero]
  have h2:sm (fun j=>sm (fun k=>P.L j k*P.num0 i k) P.ns) P.ns=sm (fun k=>P.L i k*P.num0 i k) P.ns+sm (fun j=>sm (fun k=>P.L j k*P.num0 i k) P.ns) tl:=by
   conv=>lhs;arg 2;rw[hn]
   rfl
  have h3:sm (fun j=>sm (fun k=>P.L j k*P.num0 i k) P.ns) tl=sm (fun j=>-P.den0 i*P.u j) tl:=i8 fun j hj=>by rw[htl j hj,Int.neg_mul]
  rw[h2,h3,n8]at h1;rw[hn,sm]at hsum;have h4:sm P.u tl=-P.u i:=by omega
  rw[h4,Int.neg_mul_neg]at h1;omega
 ·rw[hn]at hi
  rcases List.mem_cons.1 hi with h|h
  ·exact absurd h e
  ·exact htl i h
theorem c2k {P:o5} (ho:P.Ok) {i0:Nat} {tl:List Nat} (hn:P.ns=i0::tl) (hsum:sm P.u P.ns=0) {r:Int} (hr:∀b∈P.fs,P.V b*P.den0 i0-P.num0 i0 (P.p b)≤r):b1H P (fun k=>P.num0 i0 k+r) (P.den0 i0):=by
 refine⟨b0g ho hn,fun i hi=>?_⟩;have h1:sm (fun k=>P.L i k*(P.num0 i0 k+r)) P.ns=sm (fun k=>P.L i k*P.num0 i0 k) P.ns+r*sm (fun k=>P.L i k) P.ns:=by
  rw[←n8,←G1];exact i8 fun k _=>by rw[Int.mul_add,Int.mul_comm r]
 have h2:P.give (fun k=>P.num0 i0 k+r) (P.den0 i0) i=0:=y3 fun b hb=>by
  split
  ·rename_i h;have:=hr b hb;rw[h]at this;show P.s b*max 0 (P.V b*P.den0 i0-(P.num0 i0 i+r))=0;rw[Int.max_eq_left (by omega),Int.mul_zero]
  ·rfl
 rw[h1,b8p ho hn hsum i hi,ho.row i hi,h2];omega
def dg (W:List Wn) (i:Nat):Nat:=(W.filter fun w=>decide (w.a=i)||decide (w.b=i)).length
theorem b3D {i n:Nat}:∀{W:List Wn},OkW W n→(∀w∈W,w.s≤4)→0≤lw W i i∧lw W i i≤4*dg W i
 |[],_,_=>by simp[lw,dg]
 | w ::W,hW,h4=>by
  have ih:=b3D (i:=i) (W:=W) (fun w hw=>hW w (by simp[hw])) fun w hw=>h4 w (by simp[hw]);obtain⟨_,_,hne,hs⟩:=hW w (by simp);have hs4:=h4 w (by simp);rw[lw];unfold dg at ih ⊢;rw[List.filter_cons]
  by_cases ha:w.a=i
  ·have hb:¬w.b=i:=by omega
   have e:ew w i*ew w i=1:=by
    unfold ew;rw[if_pos ha.symm,if_neg fun e=>hb e.symm];rfl
   rw[e,if_pos (by simp[ha]),List.length_cons];omega
  ·by_cases hb:w.b=i
   ·have e:ew w i*ew w i=1:=by
     unfold ew;rw[if_neg fun e=>ha e.symm,if_pos hb.symm];rfl
    rw[e,if_pos (by simp[hb]),List.length_cons];omega
   ·have e:ew w i*ew w i=0:=by
     unfold ew;rw[if_neg fun e=>ha e.symm,if_neg fun e=>hb e.symm];rfl
    rw[e,if_neg (by simp[ha,hb])];omega
theorem c1C {f:Nat→Int}:∀{U:List Nat},(∀k∈U,f k≤0)→(sa (fun k=>(f k).natAbs) U:Int)=-sm f U
 |[],_=>rfl
 |k::U,h=>by
  have h1:=h k (by simp);have h2:=c1C (f:=f) (U:=U) fun k hk=>h k (by simp[hk]);rw[sa,sm];omega
theorem b9K {P:o5} (ho:P.Ok) {i:Nat} (hi:i∈P.ns) (h0:0≤P.L i i):(sa (fun k=>(P.L i k).natAbs) P.ns:Int)=2*P.L i i:=by
 obtain⟨u,v,e⟩:=List.append_of_mem hi;have hnd:=ho.nd;have hr:=ho.row i hi;rw[e]at hnd hr ⊢;obtain⟨hu,hv,_⟩:=B5 hnd;rw[X7];rw[Y1]at hr;have h1:=c1C (f:=fun k=>P.L i k) (U:=u++v) fun k hk=>ho.off i hi k (by
  rw[e];simp only[List.mem_append,List.mem_cons]at hk ⊢;rcases hk with h|h<;>simp[h]) (by
  rintro rfl
  rcases List.mem_append.1 hk with h|h
  ·exact hu h
  ·exact hv h)
 omega
end Go.Cur
end
section
namespace Go.Cur
open Go.AM Go.Proofs
abbrev wr (n:Int):Int:=IntKind.i64.wrap n
theorem b2C (n:Int):wr n=if n % 18446744073709551616≥9223372036854775808 then n % 18446744073709551616-18446744073709551616 else n % 18446744073709551616:=by
 simp[IntKind.wrap,IntKind.bits,IntKind.signed]
theorem b3h (n:Int):wr n % 18446744073709551616=n % 18446744073709551616:=by
 rw[b2C];split<;>omega
theorem c1n {a b:Int} (h:a % 18446744073709551616=b % 18446744073709551616):wr a=wr b:=by rw[b2C,b2C,h]
theorem a9j (a b:Int):wr (wr a+b)=wr (a+b):=c1n (by rw[Int.add_emod,b3h,←Int.add_emod])
theorem a7z (a b:Int):wr (a+wr b)=wr (a+b):=by rw[Int.add_comm,a9j,Int.add_comm]
theorem b7s (a b:Int):wr (wr a*b)=wr (a*b):=c1n (by rw[Int.mul_emod,b3h,←Int.mul_emod])
theorem b9N (a b:Int):wr (a*wr b)=wr (a*b):=by rw[Int.mul_comm,b7s,Int.mul_comm]
theorem b6i {n:Int} (h1:-9223372036854775808≤n) (h2:n≤9223372036854775807):wr n=n:=f7 h1 h2
theorem b7Q (x y:Nat) (hx:x<4294967296) (hy:y<4294967296):bits .or .i64 x y=((x|||y:Nat):Int):=by
 have hb:x|||y<4294967296:=Nat.or_lt_two_pow (n:=32) (by omega) (by omega);show IntKind.i64.wrap ((BitVec.ofInt 64 x|||BitVec.ofInt 64 y).toNat:Int)=_;have h:(BitVec.ofInt 64 x|||BitVec.ofInt 64 y).toNat=x|||y:=by
  simp only[BitVec.toNat_or,BitVec.ofInt_natCast,BitVec.toNat_ofNat];rw[Nat.mod_eq_of_lt (by omega),Nat.mod_eq_of_lt (by omega)]
 rw[h];exact f7 (by omega) (by omega)
theorem b1P (x:Nat) (hx:x<4294967296):bits .and .i64 x 1=((x % 2:Nat):Int):=by
 show IntKind.i64.wrap ((BitVec.ofInt 64 x&&&BitVec.ofInt 64 (1:Nat)).toNat:Int)=_;have h:(BitVec.ofInt 64 x&&&BitVec.ofInt 64 (1:Nat)).toNat=x % 2:=by
  simp only[BitVec.toNat_and,BitVec.ofInt_natCast,BitVec.toNat_ofNat];rw[Nat.mod_eq_of_lt (by omega),Nat.mod_eq_of_lt (by omega),Nat.and_one_is_mod]
 rw[h];exact f7 (by omega) (by omega)
theorem a8c (x k:Nat) (hx:x<4294967296):bits .and .i64 ((x:Int)/2^((k:Int).toNat)) 1=if x.testBit k then 1 else 0:=by
 have e:(x:Int)/2^((k:Int).toNat)=((x/2^k:Nat):Int):=by
  rw[Int.toNat_natCast,Int.natCast_ediv];simp
 rw[e,b1P _ (Nat.lt_of_le_of_lt (Nat.div_le_self _ _) hx)];rw[Nat.testBit_eq_decide_div_mod_eq];have:x/2^k % 2=0∨x/2^k % 2=1:=by omega
 rcases this with h|h<;>simp[h]
theorem c2H (k:Nat) (hk:k≤20):IntKind.i64.wrap (1*2^((k:Int).toNat))=((2^k:Nat):Int):=by
 have h1:2^k≤2^20:=Nat.pow_le_pow_right (by omega) hk;have e:(1:Int)*2^((k:Int).toNat)=((2^k:Nat):Int):=by rw[Int.toNat_natCast,Int.one_mul];simp
 rw[e];generalize 2^k=m at h1;exact f7 (by omega) (by omega)
def unu (n used:Nat):List Nat:=(List.range n).filter fun k=> !used.testBit k
theorem a4j (k used:Nat):unu (k+1) used=unu k used++if used.testBit k then []else [k]:=by
 unfold unu;rw[List.range_succ,List.filter_append]
 cases h:used.testBit k<;>simp[h]
theorem b9G {n used k:Nat}:k∈unu n used↔k<n∧used.testBit k=false:=by simp[unu]
theorem b2f {n used:Nat}:(unu n used).Nodup:=List.nodup_range.filter _
theorem a6T {n used k:Nat} (hk:k<n) (h:used.testBit k=false):∃v,unu n used=unu k used++k::v:=by
 have:∀d,∃v,unu (k+1+d) used=unu k used++k::v:=by
  intro d
  induction d with
  |zero=>exact⟨[],by rw[Nat.add_zero,a4j,h];simp⟩
  |succ d ih=>
   obtain⟨v,hv⟩:=ih;refine⟨v++if used.testBit (k+1+d)then []else [k+1+d],?_⟩;rw[←Nat.add_assoc,a4j,hv,List.append_assoc]
   rfl
 have:=this (n-(k+1))
 rwa [show k+1+(n-(k+1))=n by omega]at this
theorem b4x {n used k:Nat} (hk:k<n) (h:used.testBit k=false):unu n (used|||2^k)=(unu n used).eraseIdx (unu k used).length:=by
 obtain⟨v,hv⟩:=a6T hk h;have hnd:=b2f (n:=n) (used:=used);have h1:unu n (used|||2^k)=(unu n used).filter fun x=>decide (x≠k):=by
  unfold unu;rw[List.filter_filter];refine List.filter_congr fun x _=>?_;rw[Nat.testBit_or,Nat.testBit_two_pow]
  by_cases e:x=k
  ·subst e;simp
  ·have e':¬k=x:=fun h=>e h.symm;simp[e,e']
 rw[hv]at hnd;obtain⟨hu,hv',_⟩:=B5 hnd;rw[h1,hv,List.eraseIdx_append_of_length_le (Nat.le_refl _),Nat.sub_self,List.eraseIdx_cons_zero,List.filter_append,List.filter_cons,if_neg (by simp)]
 congr 1
 ·refine List.filter_eq_self.2 fun x hx=>?_;have:x≠k:=by rintro rfl;exact hu hx
  simp[this]
 ·refine List.filter_eq_self.2 fun x hx=>?_;have:x≠k:=by rintro rfl;exact hv' hx
  simp[this]
theorem b7d {n used k:Nat} (hk:k<n) (h:used.testBit k=false):(unu n used)[(unu k used).length]?=some k:=by
 obtain⟨v,hv⟩:=a6T hk h;rw[hv,List.getElem?_append_right (Nat.le_refl _),Nat.sub_self];rfl
theorem a4x {n used k:Nat} (hk:k<n) (h:used.testBit k=false):(unu n (used|||2^k)).length+1=(unu n used).length:=by
 have h1:=(List.getElem?_eq_some_iff.1 (b7d hk h)).1;rw[b4x hk h,List.length_eraseIdx_of_lt h1];omega
theorem b3y {n used k:Nat} (hu:used<2^n) (hk:k<n):used|||2^k<2^n:=Nat.or_lt_two_pow hu (Nat.pow_lt_pow_right (by omega) hk)
abbrev Kvs:=List (List KC×Value)
def L8 (call:Nat→Kvs→Int×Kvs) (a:Nat→Nat→Int) (row used:Nat) (st:Int×Int×Kvs) (k:Nat):Int×Int×Kvs:=
 if used.testBit k then st
 else if a row k=0 then(st.1,wr (-st.2.1),st.2.2)
 else(wr (st.1+wr (wr (st.2.1*a row k)*(call (used|||2^k) st.2.2).1)),wr (-st.2.1),(call (used|||2^k) st.2.2).2)
def D2 (a:Nat→Nat→Int) (n:Nat):Nat→Nat→Nat→Kvs→Int×Kvs
 |0,_,used,s=>(igt s used,s)
 | d+1,row,used,s=>
  if (t5 s (ik used)).isSome then(igt s used,s)
  else(((List.range n).foldl (L8 (D2 a n d (row+1)) a row used) (0,1,s)).1,
   y5 ((List.range n).foldl (L8 (D2 a n d (row+1)) a row used) (0,1,s)).2.2 (ik used) (.int .i64 ((List.range n).foldl (L8 (D2 a n d (row+1)) a row used) (0,1,s)).1))
def b1g (a:Nat→Nat→Int) (n used:Nat):Int:=wr (minor a ((List.range n).drop (n-(unu n used).length)) (unu n used))
structure Kn (a:Nat→Nat→Int) (n:Nat) (s:Kvs):Prop where
 ok:∀(u:Nat) v,t5 s (ik u)=some v→v= .int .i64 (b1g a n u)
 int:a1i s
 full:(t5 s (ik ((2^n-1:Nat):Int))).isSome
theorem Kn.igt {a:Nat→Nat→Int} {n:Nat} {s:Kvs} (h:Kn a n s) {u:Nat} (hu:(t5 s (ik u)).isSome):igt s u=b1g a n u:=by
 obtain⟨v,hv⟩:=Option.isSome_iff_exists.1 hu;have:=h.ok u v hv;unfold Cur.igt;rw[hv,this]
theorem Kn.set {a:Nat→Nat→Int} {n:Nat} {s:Kvs} (h:Kn a n s) (u:Nat):Kn a n (y5 s (ik u) (.int .i64 (b1g a n u))):=by
 refine⟨fun x v hx=>?_,h.int.set _ _,?_⟩
 ·rw[a3T]at hx
  split at hx
  ·rename_i e;have:=P6.1 e;have e2:x=u:=by omega
   simp only[Option.some.injEq]at hx;rw[←hx,e2]
  ·exact h.ok x v hx
 ·rw[a3T]
  split
  ·rfl
  ·exact h.full
theorem b1W {n used:Nat} (hu:used<2^n) (h:unu n used=[]):used=2^n-1:=by
 refine Nat.eq_of_testBit_eq fun k=>?_;rw[Nat.testBit_two_pow_sub_one]
 by_cases hk:k<n
 ·have:¬k∈unu n used:=by rw[h];simp
  rw[b9G]at this;have:used.testBit k=true:=by
   cases hb:used.testBit k with
   |true=>rfl
   |false=>exact absurd ⟨hk,hb⟩ this
  simp[this,hk]
 ·have:used.testBit k=false:=Nat.testBit_lt_two_pow (Nat.lt_of_lt_of_le hu (Nat.pow_le_pow_right (by omega) (by omega)));simp[this,hk]
theorem c0i (j:Nat):wr (-sg j)=sg (j+1):=by
 have:sg j=1∨sg j=-1:=by
  induction j with
  |zero=>exact Or.inl rfl
  |succ j ih=>rcases ih with h|h<;>simp[sg,h]
 rw[sg]
 rcases this with h|h<;>rw[h]<;>rfl
theorem a4w {a:Nat→Nat→Int} {n:Nat}:∀(d row used:Nat) (s:Kvs),row+d=n→used<2^n→(unu n used).length=d→Kn a n s→(D2 a n d row used s).1=b1g a n used∧Kn a n (D2 a n d row used s).2
 |0,row,used,s,hr,hu,hl,hk=>by
  have:=b1W hu (List.length_eq_zero_iff.1 hl);subst this;exact⟨hk.igt hk.full,hk⟩
 | d + 1,row,used,s,hr,hu,hl,hk=>by
  rw[D2]
  by_cases hs:(t5 s (ik used)).isSome
  ·rw[if_pos hs];exact⟨hk.igt hs,hk⟩
  ·rw [if_neg hs]
   let t:Nat→Int:=fun j=>sg j*(a row ((unu n used)[j]?.getD 0)*minor a ((List.range n).drop (row+1)) ((unu n used).eraseIdx j))
   have key:∀k,k≤n→((List.range k).foldl (L8 (D2 a n d (row+1)) a row used) (0,1,s)).1=wr (ps t (unu k used).length)∧((List.range k).foldl (L8 (D2 a n d (row+1)) a row used) (0,1,s)).2.1=sg (unu k used).length∧Kn a n ((List.range k).foldl (L8 (D2 a n d (row+1)) a row used) (0,1,s)).2.2:=by
    intro k
    induction k with
    |zero=>intro _;exact⟨rfl,rfl,hk⟩
    | succ k ih=>
     intro hkn;obtain⟨i1,i2,i3⟩:=ih (by omega);rw[List.range_succ,List.foldl_append];simp only[List.foldl_cons,List.foldl_nil];generalize (List.range k).foldl (L8 (D2 a n d (row+1)) a row used) (0,1,s)=st at i1 i2 i3 ⊢;obtain⟨sum,sign,s1⟩:=st;simp only at i1 i2 i3 ⊢;unfold L8;rw[a4j]
     by_cases hb:used.testBit k=true
     ·rw[if_pos hb,if_pos hb,List.append_nil];exact⟨i1,i2,i3⟩
     ·have hb':used.testBit k=false:=by simpa using hb
      rw[if_neg hb,if_neg hb,List.length_append,List.length_singleton];have hat:=b7d (n:=n) (by omega) hb';have ht:t (unu k used).length=sg (unu k used).length*(a row k*minor a ((List.range n).drop (row+1)) (unu n (used|||2^k))):=by
       show sg _*(a row ((unu n used)[(unu k used).length]?.getD 0)*minor a ((List.range n).drop (row+1)) ((unu n used).eraseIdx (unu k used).length))=_;rw[hat,b4x (by omega) hb'];rfl
      by_cases h0:a row k=0
      ·rw[if_pos h0,ps,ht,h0,Int.zero_mul,Int.mul_zero,Int.add_zero,i2];exact⟨i1,c0i _,i3⟩
      ·rw[if_neg h0];obtain⟨c1,c2⟩:=a4w d (row+1) (used|||2^k) s1 (by omega) (b3y hu (by omega)) (by have:=a4x (n:=n) (by omega) hb';omega) i3;refine⟨?_,?_,c2⟩
       ·simp only;rw[c1,i1,i2,ps,ht];have hlen:=a4x (n:=n) (by omega) hb';have hm:b1g a n (used|||2^k)=wr (minor a ((List.range n).drop (row+1)) (unu n (used|||2^k))):=by
         unfold b1g;rw[show n-(unu n (used|||2^k)).length=row+1 by omega]
        rw[hm,a9j,b7s,b9N,a7z,Int.mul_assoc]
       ·simp only;rw[i2];exact c0i _
   obtain⟨k1,k2,k3⟩:=key n (Nat.le_refl _);have hv:wr (ps t (unu n used).length)=b1g a n used:=by
    unfold b1g;have hrow:(List.range n).drop (n-(unu n used).length)=row::(List.range n).drop (row+1):=by
     rw[hl,show n-(d+1)=row by omega,List.drop_eq_getElem_cons (by simp;omega)];simp
    rw[hrow,b0I]
   rw[hv]at k1;rw[k1];exact⟨rfl,k3.set used⟩
end Go.Cur
end
section
namespace Go.Cur
open Go.AM Go.Proofs
def mAt (m:List (List Int)) (i k:Nat):Int:=at0 (M7 m i) k
abbrev mL (m:List (List Int)):AV:= .lst 1 (m.map a8H)
structure Sq (m:List (List Int)) (n:Nat):Prop where
 len:m.length=n
 rows:∀r∈m,r.length=n
theorem Sq.row {m:List (List Int)} {n i:Nat} (h:Sq m n) (hi:i<n):m[i]?=some (M7 m i)∧(M7 m i).length=n:=by
 have h1:=b1p (m:=m) (k:=i) (by rw[h.len];exact hi);exact⟨h1,h.rows _ (List.mem_of_getElem? h1)⟩
theorem Sq.get {m:List (List Int)} {n i k:Nat} (h:Sq m n) (hi:i<n) (hk:k<n):(M7 m i)[k]?=some (mAt m i k):=C3 (by rw[(h.row hi).2];exact hk)
def dB (m:List (List Int)):Nat→AV
 |0=> .vptr [.any]
 |d+1=> .vptr [.clo 115 [.ptr 0 0 0, .vptr [mL m],dB m d]]
theorem b3k (m:List (List Int)) (G:List (Option Nat)) (h0:l4 G 0=some 0):∀d k,2*d+1≤k→m9 G k (dB m d)=dB m d
 |0,k,h=>by
  obtain⟨k,rfl⟩:∃m,k=m+1:=⟨k-1,by omega⟩;show AV.vptr [m9 G k .any]=_
  cases k<;>rfl
 | d+1,k,h=>by
  obtain⟨k,rfl⟩:∃m,k=m+2:=⟨k-2,by omega⟩;have ih:=b3k m G h0 d k (by omega);have p0:m9 G k (.ptr 0 0 0)= .ptr 0 0 0:=by
   have e:m9 G k (.ptr 0 0 0)=match l4 G 0 with|some q=> .ptr q 0 0|none=> .any:=by cases k<;>rfl
   rw[e,h0]
  have p1:m9 G k (.vptr [mL m])= .vptr [mL m]:=by
   obtain⟨k,rfl⟩:∃m,k=m+1:=⟨k-1,by omega⟩;show AV.vptr [m9 G k (mL m)]=_
   cases k<;>rfl
  show AV.vptr [.clo 115 [m9 G k (.ptr 0 0 0),m9 G k (.vptr [mL m]),m9 G k (dB m d)]]=_;rw[ih,p0,p1];rfl
abbrev b5F (m:List (List Int)) (row used:Nat) (B:AV):List AV:=[I row,I used, .ptr 0 0 0, .vptr [mL m],B]
abbrev a5d (s:Kvs):Option l7:=some (.map false [.i .i64] s)
theorem b3s (m:List (List Int)) (row used:Nat) (s:Kvs) (B:AV) (hI:a1i s) (hs:(t5 s (ik used)).isSome=true):
  g6 Try.prog 115 (b5F m row used B) [some (.els 1 [[.mp 1]])] [a5d s] (I (igt s used)) [some (.els 1 [[.mp 1]])] [a5d s]:=by
 refine g6.of_bodyG [2] Try.func115 rfl (by decide) (by simp[Try.ntmps115]) rfl rfl ?_;intro J hJ;simp only[Try.ntmps115,Try.results115];refine gS fun K hK=>?_;simp -dsimp;apply hK;clear hK K;refine b9 fun K1 hK1=>?_;refine gS fun K hK=>?_;simp -dsimp [p7 hI,hs];refine o4 (_) (fun hm=>rfl) ?_;simp -dsimp [p7 hI,hs];apply hK;clear hK K;refine gS fun K hK=>?_;simp -dsimp;apply hK;clear hK K;refine d9 rfl (fun hc0=>?_) (fun hc0=>?_)
 ·refine gS fun K hK=>?_;simp -dsimp;apply hK;clear hK K;exact j6 ⟨[some 0,some 1],rfl,by simp,by simp,by simp,by simp[C2,n6]⟩
 ·simp at hc0
theorem c0L (m:List (List Int)) (n d row used:Nat) (s:Kvs) (hq:Sq m n) (hn:n≤10) (hr:row+(d+1)=n) (hu:used<2^n) (hl:(unu n used).length=d+1) (hk:Kn (mAt m) n s) (hs:(t5 s (ik used)).isSome=false)
  (hb:∀row used s,row+d=n→used<2^n→(unu n used).length=d→Kn (mAt m) n s→g6 Try.prog 115 (b5F m row used (dB m d)) [some (.els 1 [[.mp 1]])] [a5d s] (I (D2 (mAt m) n d row used s).1) [some (.els 1 [[.mp 1]])] [a5d (D2 (mAt m) n d row used s).2]):
  g6 Try.prog 115 (b5F m row used (dB m (d+1))) [some (.els 1 [[.mp 1]])] [a5d s] (I (D2 (mAt m) n (d+1) row used s).1) [some (.els 1 [[.mp 1]])] [a5d (D2 (mAt m) n (d+1) row used s).2]:=by
 have hI:=hk.int;have hdn:d≤10:=by omega
 have hB1:∀k,36≤k→m9 [some 0,some 1] k (dB m d)=dB m d:=fun k hk=>b3k m _ rfl d k (by omega);have hB2:∀k,36≤k→m9 [some 0,some 2] k (dB m d)=dB m d:=fun k hk=>b3k m _ rfl d k (by omega);have hpow:(2:Nat)^n≤2^10:=Nat.pow_le_pow_right (by omega) hn;have hu2:used<4294967296:=by omega
 have hok:=fun s=>a4w (a:=mAt m) (n:=n) d (row+1) s;have e0:D2 (mAt m) n (d+1) row used s=(((List.range n).foldl (L8 (D2 (mAt m) n d (row+1)) (mAt m) row used) (0,1,s)).1,
   y5 ((List.range n).foldl (L8 (D2 (mAt m) n d (row+1)) (mAt m) row used) (0,1,s)).2.2 (ik used) (.int .i64 ((List.range n).foldl (L8 (D2 (mAt m) n d (row+1)) (mAt m) row used) (0,1,s)).1)):=by
  rw[D2,if_neg (by simp[hs])]
 rw[e0];have hml:=hq.len;have gr:=(hq.row (i:=row) (by omega)).1;have wrow:IntKind.i64.wrap ((row:Int)+1)=((row+1:Nat):Int):=by rw[f7 (by omega) (by omega)];omega
 show g6 Try.prog 115 [I row,I used, .ptr 0 0 0, .vptr [mL m], .vptr [.clo 115 [.ptr 0 0 0, .vptr [mL m],dB m d]]] _ _ _ _ _;generalize dB m d=B at hb hB1 hB2 ⊢;refine g6.of_bodyG [2] Try.func115 rfl (by decide) (by simp[Try.ntmps115]) rfl rfl ?_;intro J hJ;simp only[Try.ntmps115,Try.results115];refine gS fun K hK=>?_;simp -dsimp;apply hK;clear hK K;refine b9 fun K1 hK1=>?_;refine gS fun K hK=>?_;simp -dsimp [p7 hI,hs];refine o4 (_) (fun hm=>rfl) ?_;simp -dsimp [p7 hI,hs];apply hK;clear hK K;refine gS fun K hK=>?_;simp -dsimp;apply hK;clear hK K;refine d9 rfl (fun hc0=>?_) (fun hc0=>?_)
 ·simp at hc0
 ·refine f6 ?_;simp only[zT,reduceIte,Nat.reduceEqDiff];refine hK1 _ _ ?_;refine b6 [0,1,2,3,4] (Or.inr (by simp)) ?_;simp only[zP,Nat.reduceEqDiff,reduceIte];refine gS fun K hK=>?_;simp -dsimp;apply hK;clear hK K;refine b9 fun K2 hK2=>?_;refine gS fun K hK=>?_;simp -dsimp;apply hK;clear hK K;refine d7 ?_;refine b6 [0,1,2,3,4,10,11,23,24] (Or.inr (by simp)) ?_;simp only[zP,Nat.reduceEqDiff,reduceIte];refine g9 [0,1,2,3,4,23] (α:=Nat×(Int×Int×Kvs)) (fun x=>[(10,I x.2.1),(11,I x.2.2.1),(24,I x.1)]) (fun x=>[some (.els 1 [[.mp 1]]),a5d x.2.2.2]) (fun x=>x.1≤n∧x.2=(List.range x.1).foldl (L8 (D2 (mAt m) n d (row+1)) (mAt m) row used) (0,1,s)∧Kn (mAt m) n x.2.2.2) (fun x=>n-x.1) (0,0,1,s) ?_ ?_ ?_
  ·exact⟨Nat.zero_le _,rfl,hk⟩
  ·exact o1 (e9 [some 0,some 1] rfl (by simp[hB1]) (by simp)) (by simp)
  rintro⟨k,sum,sign,s1⟩ ⟨k1,k2,k3⟩;simp only at k1 k2 k3 ⊢;simp only[zP,Nat.reduceEqDiff,reduceIte];refine gS fun K hK=>?_;simp -dsimp;apply hK;clear hK K;refine b9 fun K3 hK3=>?_;refine d9 rfl (fun hc1=>?_) (fun hc1=>?_)
  ·have hkn:k<n:=by rw[←hml];simpa using hc1
   have wk:=zW k (by omega);have hbit:bits .and .i64 ((used:Int)/2^k) 1=if used.testBit k then 1 else 0:=by have:=a8c used k hu2;rwa [Int.toNat_natCast]at this
   have hb64:k≤IntKind.i64.bits:=Nat.le_trans (show k≤10 by omega) (by decide);have gk:=hq.get (i:=row) (by omega) hkn;have hst:(List.range (k+1)).foldl (L8 (D2 (mAt m) n d (row+1)) (mAt m) row used) (0,1,s)=L8 (D2 (mAt m) n d (row+1)) (mAt m) row used (sum,sign,s1) k:=by rw[List.range_succ,List.foldl_append,←k2];rfl
   refine f6 ?_;simp only[zT,reduceIte,Nat.reduceEqDiff];refine hK3 _ _ ?_;refine b6 [0,1,2,3,4,10,11,23,24] (Or.inr (by simp)) ?_;simp only[zP,Nat.reduceEqDiff,reduceIte];refine b9 fun K4 hK4=>?_;refine d7 ?_;refine gS fun K hK=>?_;simp -dsimp;apply hK;clear hK K;refine b9 fun K5 hK5=>?_;refine gS fun K hK=>?_;simp -dsimp [hbit,hb64];apply hK;clear hK K;refine d9 rfl (fun hc2=>?_) (fun hc2=>?_)
   ·have hbt:used.testBit k=true:=by
     cases h:used.testBit k with
     |true=>rfl
     |false=>rw[h]at hc2;simp at hc2
    refine i6 ?_;simp only[zT,reduceIte,Nat.reduceEqDiff];refine hK4 _ _ ?_;refine b6 [0,1,2,3,4,10,11,23,24] (Or.inr (by simp)) ?_;simp only[zP,Nat.reduceEqDiff,reduceIte];refine gR fun K hK=>?_;simp -dsimp [wk];apply hK;clear hK K;simp only[zT,reduceIte,Nat.reduceEqDiff];have hf:L8 (D2 (mAt m) n d (row+1)) (mAt m) row used (sum,sign,s1) k=(sum,sign,s1):=by unfold L8;rw[if_pos hbt]
    rw[hf]at hst;exact⟨(k+1,sum,sign,s1),⟨by simp only;omega,hst.symm,k3⟩,by simp only;omega,o1 (e9 [some 0,some 1] rfl (by simp[hB1]) (by simp)) (by simp)⟩
   ·have hbt:used.testBit k=false:=by
     cases h:used.testBit k with
     |false=>rfl
     |true=>rw[h]at hc2;simp at hc2
    refine f6 ?_;simp only[zT,reduceIte,Nat.reduceEqDiff];refine hK5 _ _ ?_;refine b6 [0,1,2,3,4,10,11,12,23,24] (Or.inr (by simp)) ?_;simp only[zP,Nat.reduceEqDiff,reduceIte];refine b9 fun K6 hK6=>?_;refine gS fun K hK=>?_;simp -dsimp [gr,gk];apply hK;clear hK K;refine gS fun K hK=>?_;simp -dsimp;apply hK;clear hK K;refine d9 rfl (fun hc3=>?_) (fun hc3=>?_)
    ·skip
     try simp at hc3
     have hor:bits .or .i64 (used:Int) (2^k)=((used|||2^k:Nat):Int):=by have:=b7Q used (2^k) hu2 (Nat.lt_of_le_of_lt (Nat.pow_le_pow_right (by omega) (show k≤10 by omega)) (by decide));rwa [Int.natCast_pow]at this
     have hsh:IntKind.i64.wrap (2^k)=2^k:=by have:=c2H k (by omega);rw[Int.toNat_natCast,Int.one_mul,Int.natCast_pow]at this;exact this
     have hk3:=hok (used|||2^k) s1 (by omega) (b3y hu hkn) (by have:=a4x hkn hbt;omega) k3;have hcall:=hb (row+1) (used|||2^k) s1 (by omega) (b3y hu hkn) (by have:=a4x hkn hbt;omega) k3;refine o8 l9 rfl (by decide) rfl rfl fun K hK=>?_;simp -dsimp [wrow,hor,hsh,hb64];refine k9 [0] [1] [some 0,none,some 1] (hcall) (by decide) rfl (by simp[hB1]) (by simp[hB1]) rfl (by simp) ?_;simp -dsimp [wrow,hor,hsh,hb64];refine hK _ _ _ (by decide+kernel) ?_;clear hK K;simp only[zT,reduceIte,Nat.reduceEqDiff];refine hK6 _ _ ?_;refine b6 [0,1,2,3,4,10,11,23,24] (Or.inr (by simp)) ?_;simp only[zP,Nat.reduceEqDiff,reduceIte];refine gR fun K hK=>?_;simp -dsimp;apply hK;clear hK K;simp only[zT,reduceIte,Nat.reduceEqDiff];refine hK4 _ _ ?_;refine b6 [0,1,2,3,4,10,11,23,24] (Or.inr (by simp)) ?_;simp only[zP,Nat.reduceEqDiff,reduceIte];refine gR fun K hK=>?_;simp -dsimp [wk];apply hK;clear hK K;simp only[zT,reduceIte,Nat.reduceEqDiff];have hf:L8 (D2 (mAt m) n d (row+1)) (mAt m) row used (sum,sign,s1) k=(wr (sum+wr (wr (sign*mAt m row k)*(D2 (mAt m) n d (row+1) (used|||2^k) s1).1)),wr (-sign),(D2 (mAt m) n d (row+1) (used|||2^k) s1).2):=by unfold L8;rw[if_neg (by simp[hbt]),if_neg hc3]
     rw[hf]at hst;exact⟨(k+1,_),⟨by simp only;omega,hst.symm,hk3.2⟩,by simp only;omega,o1 (e9 [some 0,some 2] rfl (by simp[hB2]) (by simp)) (by simp)⟩
    ·skip
     try simp at hc3
     refine f6 ?_;simp only[zT,reduceIte,Nat.reduceEqDiff];refine hK6 _ _ ?_;refine b6 [0,1,2,3,4,10,11,23,24] (Or.inr (by simp)) ?_;simp only[zP,Nat.reduceEqDiff,reduceIte];refine gR fun K hK=>?_;simp -dsimp;apply hK;clear hK K;simp only[zT,reduceIte,Nat.reduceEqDiff];refine hK4 _ _ ?_;refine b6 [0,1,2,3,4,10,11,23,24] (Or.inr (by simp)) ?_;simp only[zP,Nat.reduceEqDiff,reduceIte];refine gR fun K hK=>?_;simp -dsimp [wk];apply hK;clear hK K;simp only[zT,reduceIte,Nat.reduceEqDiff];have hf:L8 (D2 (mAt m) n d (row+1)) (mAt m) row used (sum,sign,s1) k=(sum,wr (-sign),s1):=by unfold L8;rw[if_neg (by simp[hbt]),if_pos hc3]
     rw[hf]at hst;exact⟨(k+1,_),⟨by simp only;omega,hst.symm,k3⟩,by simp only;omega,o1 (e9 [some 0,some 1] rfl (by simp[hB1]) (by simp)) (by simp)⟩
  ·have hkl:¬k<m.length:=by simpa using hc1
   have hkn:k=n:=by omega
   rw[hkn]at k2;refine i6 ?_;simp only[zT,reduceIte,Nat.reduceEqDiff];refine hK2 _ _ ?_;refine b6 [1,2,10] (Or.inr (by simp)) ?_;simp only[zP,Nat.reduceEqDiff,reduceIte];refine gS fun K hK=>?_;simp -dsimp;apply hK;clear hK K;refine gS fun K hK=>?_;simp -dsimp;apply hK;clear hK K;have k4:=k2.symm;exact j6 ⟨[some 0,some 1],rfl,by simp,by simp[k4],by simp,by simp[C2,n6,k4]⟩
theorem b7q (m:List (List Int)) (n:Nat) (hq:Sq m n) (hn:n≤10):∀(d row used:Nat) (s:Kvs),row+d=n→used<2^n→(unu n used).length=d→Kn (mAt m) n s→
  g6 Try.prog 115 (b5F m row used (dB m d)) [some (.els 1 [[.mp 1]])] [a5d s] (I (D2 (mAt m) n d row used s).1) [some (.els 1 [[.mp 1]])] [a5d (D2 (mAt m) n d row used s).2]
 |0,row,used,s,hr,hu,hl,hk=>by
  have:=b1W hu (List.length_eq_zero_iff.1 hl);subst this;exact b3s m row _ s _ hk.int hk.full
 | d+1,row,used,s,hr,hu,hl,hk=>by
  cases hs:(t5 s (ik used)).isSome with
  |true=>
   rw[D2,if_pos hs];exact b3s m row used s _ hk.int hs
  |false=>exact c0L m n d row used s hq hn hr hu hl hk hs (b7q m n hq hn d)
abbrev b5l:Option l7:=some (.els 1 [[.clo 115 [.ptr 0 0 0, .ptr 3 0 0, .ptr 2 0 0]]])
abbrev b1Z (m:List (List Int)):Option l7:=some (.els 1 [[mL m]])
theorem b2k (m:List (List Int)) (H:Nat→Option l7) (h3:H 3=b1Z m) (k:Nat):U9 H [0,1] (k+1) (.ptr 3 0 0)= .vptr [mL m]:=by
 have e:l4 ([0,1].map some) 3=none:=by decide
 have e2:∀k,U9 H [0,1] k (mL m)=mL m:=fun k=>by cases k<;>rfl
 simp only[U9,e,h3];simp[e2]
theorem b7g (m:List (List Int)) (H:Nat→Option l7) (h2:H 2=b5l) (h3:H 3=b1Z m):∀d,U9 H [0,1] (2*d+1) (.ptr 2 0 0)=dB m d
 |0=>by
  have e:l4 ([0,1].map some) 2=none:=by decide
  simp only[U9,e,h2];rfl
 | d+1=>by
  have e:l4 ([0,1].map some) 2=none:=by decide
  have ih:=b7g m H h2 h3 d;have e3:=b2k m H h3 (2*d);have e0:U9 H [0,1] (2*d+1) (.ptr 0 0 0)= .ptr 0 0 0:=rfl;rw[show 2*(d+1)+1=(2*d+1)+1+1 by omega];have:U9 H [0,1] (2*d+1+1+1) (.ptr 2 0 0)= .vptr [.clo 115 [U9 H [0,1] (2*d+1) (.ptr 0 0 0),U9 H [0,1] (2*d+1) (.ptr 3 0 0),U9 H [0,1] (2*d+1) (.ptr 2 0 0)]]:=by
   conv=>lhs;simp only[U9,e,h2]
   rfl
  rw[this,ih,e0,e3];rfl
def b2I (m:List (List Int)):Int:=minor (mAt m) (List.range m.length) (List.range m.length)
theorem a9B (n:Nat):unu n 0=List.range n:=by
 unfold unu;rw[List.filter_eq_self];intro x _;simp
theorem b6e (a:Nat→Nat→Int) (n:Nat):Kn a n (y5 [] (ik ((2^n-1:Nat):Int)) (.int .i64 1)):=by
 have hu:unu n (2^n-1)=[]:=by
  unfold unu;rw[List.filter_eq_nil_iff];intro x hx;rw[List.mem_range]at hx;rw[Nat.testBit_two_pow_sub_one];simp[hx]
 have hv:b1g a n (2^n-1)=1:=by
  unfold b1g;rw[hu];simp only[List.length_nil,Nat.sub_zero];rw[List.drop_of_length_le (by simp)]
  rfl
 refine⟨fun u v h=>?_,a1i.nil.set _ _,by rw[a3T];simp⟩;rw[a3T]at h
 split at h
 ·rename_i e;have:=P6.1 e;have e2:u=2^n-1:=by omega
  simp only[Option.some.injEq]at h;rw[←h,e2,hv]
 ·cases h
theorem b9F (m:List (List Int)) (n:Nat) (hq:Sq m n) (hn:n≤10) (s:Kvs) (hk:Kn (mAt m) n s):
  g6 Try.prog 115 [I 0,I 0, .ptr 0 0 0, .ptr 3 0 0, .ptr 2 0 0] [some (.els 1 [[.mp 1]])] ([a5d s]++[b5l,b1Z m]) (I (wr (b2I m))) [some (.els 1 [[.mp 1]])] [a5d (D2 (mAt m) n n 0 0 s).2]:=by
 have hl:(unu n 0).length=n:=by rw[a9B];simp
 have h:=b7q m n hq hn n 0 0 s (by omega) (Nat.two_pow_pos n) hl hk;have hv:=(a4w (a:=mAt m) (n:=n) n 0 0 s (by omega) (Nat.two_pow_pos n) hl hk).1;have hd:b1g (mAt m) n 0=wr (b2I m):=by
  unfold b1g b2I;rw[hl,a9B,hq.len,Nat.sub_self,List.drop_zero]
 rw[hv,hd]at h;refine g6.eat2 (2*n+1) 2 rfl ?_ ?_ h
 ·simp[List.range,List.range.loop]
 ·have e2:=b7g m (m6 ([some (.els 1 [[.mp 1]])]++([a5d s]++[b5l,b1Z m]))) rfl rfl n;have e3:=b2k m (m6 ([some (.els 1 [[.mp 1]])]++([a5d s]++[b5l,b1Z m]))) rfl (2*n);show [U9 _ [0,1] (2*n+1) (I 0),U9 _ [0,1] (2*n+1) (I 0),U9 _ [0,1] (2*n+1) (.ptr 0 0 0),U9 _ [0,1] (2*n+1) (.ptr 3 0 0),U9 _ [0,1] (2*n+1) (.ptr 2 0 0)]=_;rw[e2,e3]
  rfl
theorem Y2 (m:List (List Int)) (n:Nat) (hq:Sq m n) (hn:n≤10):d6 Try.prog 102 [mL m] (I (wr (b2I m))):=by
 have h:=b9F m n hq hn _ (b6e (mAt m) n);have hml:=hq.len;have hb64:n≤IntKind.i64.bits:=Nat.le_trans (show n≤10 by omega) (by decide);have hpow:(1:Nat)≤2^n∧(2:Nat)^n≤2^10:=⟨Nat.one_le_two_pow,Nat.pow_le_pow_right (by omega) hn⟩;have hsh:IntKind.i64.wrap (2^n)=2^n:=by have:=c2H n (by omega);rw[Int.toNat_natCast,Int.one_mul,Int.natCast_pow]at this;exact this
 have hw1:IntKind.i64.wrap (2^n-1)=((2^n-1:Nat):Int):=by
  have e:((2:Int)^n)=((2^n:Nat):Int):=by simp
  rw[e];generalize 2^n=q at hpow;rw[f7 (by omega) (by omega)];omega
 refine d6.of_bodyG Try.func102 rfl (by decide) (by simp[Try.ntmps102]) ?_;intro J hJ;simp only[Try.ntmps102,Try.results102];refine gS fun K hK=>?_;simp -dsimp;apply hK;clear hK K;refine gS fun K hK=>?_;simp -dsimp [hml,hb64,hsh,hw1];apply hK;clear hK K;refine gS fun K hK=>?_;simp -dsimp;apply hK;clear hK K;refine gS fun K hK=>?_;simp -dsimp;apply hK;clear hK K;refine gS fun K hK=>?_;simp -dsimp;refine k9 [2] [1,3,0] [none,none,some 0,none,some 1] (h) (by decide) rfl (by simp) (by simp) rfl (by simp) ?_;simp -dsimp;apply hK;clear hK K;exact j6 (by simp[C2,n6])
end Go.Cur
end
section
namespace Go.Cur
open Go.AM Go.Proofs
theorem c2d (t:List Int) (hne:t≠[]) (hn:t.length≤1000):O1 Try.prog 61 [iL t] 0 t.length 1 (t.map j0):=by
 have f1:I9 t.length 9:=m8 (by omega) (by omega);refine O1.of_body Try.func61 rfl (by decide) (by simp[Try.ntmps61]) (by simp) (by simpa using hne) ?_;simp only[Try.ntmps61,Try.results61];refine aS fun K hK=>?_;simp -dsimp;apply hK;clear hK K;refine b8 fun K1 hK1=>?_;refine aS fun K hK=>?_;simp -dsimp [hne];apply hK;clear hK K;refine d8 rfl (fun hc0=>?_) (fun hc0=>?_)
 ·simp at hc0
 ·refine f5 ?_;simp only[zT,reduceIte,Nat.reduceEqDiff];refine hK1 _ _ ?_;refine b7 [0] ?_;simp only[zP,Nat.reduceEqDiff,reduceIte];refine aS fun K hK=>?_;simp -dsimp [hne,f1];apply hK;clear hK K;exact g7 ⟨2,0,rfl,by simp,by simp⟩
def b0o (m:List (List Int)) (b:List Int) (k:Nat):List (List Int):=(List.range m.length).map fun(i:Nat)=>(M7 m i).set k (at0 b i)
theorem a1R {m:List (List Int)} {b:List Int} {k:Nat}:(b0o m b k).length=m.length:=by simp[b0o]
theorem a4i {m:List (List Int)} {b:List Int} {k i:Nat} (hi:i<m.length):(b0o m b k)[i]?=some ((M7 m i).set k (at0 b i)):=by
 unfold b0o;rw[List.getElem?_map,List.getElem?_range hi];rfl
theorem b8b {m:List (List Int)} {b:List Int} {n k:Nat} (h:Sq m n):Sq (b0o m b k) n:=by
 refine⟨by rw[a1R];exact h.len,fun r hr=>?_⟩;obtain⟨i,hi⟩:=List.getElem?_of_mem hr;have hl:=(List.getElem?_eq_some_iff.1 hi).1;rw[a1R]at hl;rw[a4i hl]at hi;simp only[Option.some.injEq]at hi;rw[←hi,List.length_set];exact(h.row (by rw[←h.len];exact hl)).2
theorem b7I {m:List (List Int)} {b:List Int} {n k i j:Nat} (h:Sq m n) (hi:i<n) (hj:j<n):mAt (b0o m b k) i j=if j=k then at0 b i else mAt m i j:=by
 have h1:M7 (b0o m b k) i=(M7 m i).set k (at0 b i):=a9M (a4i (by rw[h.len];exact hi));have hl:=(h.row hi).2;unfold mAt;rw[h1]
 by_cases e:j=k
 ·subst e;rw[if_pos rfl];exact J4 (by rw[List.getElem?_set_self (by omega)])
 ·rw[if_neg e];have:((M7 m i).set k (at0 b i))[j]?=some (at0 (M7 m i) j):=by
   rw[List.getElem?_set_ne (fun h=>e h.symm)];exact C3 (by omega)
  exact J4 this
def b1b (m:List (List Int)) (b:List Int):List Int:=(List.range m.length).map fun k=>wr (b2I (b0o m b k))
theorem a9x (m:List (List Int)) (b:List Int) (n:Nat) (hq:Sq m n) (h1:1≤n) (hn:n≤10) (hb:b.length=n):g6 Try.prog 88 [mL m,iL b] [] [] (.tup [.row 0 0 n,I (wr (b2I m))]) [] [some (.els 1 ((b1b m b).map j0))]:=by
 have hml:=hq.len;have hdet:=Y2 m n hq hn;refine g6.of_bodyG [] Try.func88 rfl (by decide) (by simp[Try.ntmps88]) rfl rfl ?_;intro J hJ;simp only[Try.ntmps88,Try.results88];refine gS fun K hK=>?_;simp -dsimp;apply hK;clear hK K;refine gS fun K hK=>?_;simp -dsimp;apply hK;clear hK K;refine b9 fun K1 hK1=>?_;refine gS fun K hK=>?_;simp -dsimp;apply hK;clear hK K;refine d7 ?_;refine b6 [0,1,6,12,13] (Or.inr (by simp)) ?_;simp only[zP,Nat.reduceEqDiff,reduceIte];refine g9 [0,1,12] (α:=Nat) (fun k=>[(6, .row 0 0 k),(13,I k)]) (fun k=>[some (.els 1 (((b1b m b).take k).map j0))]) (fun k=>k≤n) (fun k=>n-k) 0 ?_ ?_ ?_
 ·exact Nat.zero_le _
 ·exact o1 ((H4 6 1 (by simp)).trans (j9 (by simp))) (by simp)
 rintro k k1;simp only[zP,Nat.reduceEqDiff,reduceIte];refine gS fun K hK=>?_;simp -dsimp;apply hK;clear hK K;refine b9 fun K2 hK2=>?_;refine d9 rfl (fun hc0=>?_) (fun hc0=>?_)
 ·have hkn:k<n:=by rw[←hml];simpa using hc0
  have wk:=zW k (by omega);have gsk:(b1b m b)[k]?=some (wr (b2I (b0o m b k))):=by
   unfold b1b;rw[List.getElem?_map,List.getElem?_range (by omega)];rfl
  have hsl:min k (b1b m b).length=k:=by simp only[b1b,List.length_map,List.length_range];omega
  have hdk:=Y2 (b0o m b k) n (b8b hq) hn;have hrl:=a1R (m:=m) (b:=b) (k:=k);have hrg:=fun i (hi:i<n)=>a4i (m:=m) (b:=b) (k:=k) (i:=i) (by omega);generalize b0o m b k=M at gsk hdk hrl hrg;refine f6 ?_;simp only[zT,reduceIte,Nat.reduceEqDiff];refine hK2 _ _ ?_;refine b6 [0,1,6,12,13] (Or.inr (by simp)) ?_;simp only[zP,Nat.reduceEqDiff,reduceIte];refine b9 fun K3 hK3=>?_;refine d7 ?_;refine gS fun K hK=>?_;simp -dsimp;apply hK;clear hK K;refine gS fun K hK=>?_;simp -dsimp;apply hK;clear hK K;refine b9 fun K4 hK4=>?_;refine gS fun K hK=>?_;simp -dsimp;apply hK;clear hK K;refine d7 ?_;refine b6 [0,1,6,7,8,12,13,16,17,18] (Or.inr (by simp)) ?_;simp only[zP,Nat.reduceEqDiff,reduceIte];refine g9 [0,1,6,7,12,13,16,17] (α:=Nat) (fun i=>[(8, .row 1 0 i),(18,I i)]) (fun i=>[some (.els 1 (((b1b m b).take k).map j0)),some (.els 1 ((M.take i).map a8H))]) (fun i=>i≤n) (fun i=>n-i) 0 ?_ ?_ ?_
  ·exact Nat.zero_le _
  ·exact o1 ((H4 8 1 (by simp)).trans (e9 [some 0,some 1] rfl (by simp) (by simp))) (by simp)
  rintro i i1;simp only[zP,Nat.reduceEqDiff,reduceIte];refine gS fun K hK=>?_;simp -dsimp;apply hK;clear hK K;refine b9 fun K5 hK5=>?_;refine d9 rfl (fun hc1=>?_) (fun hc1=>?_)
  ·have hin:i<n:=by rw[←hml];simpa using hc1
   have wi:=zW i (by omega);obtain⟨gr,hrn⟩:=hq.row hin;have gb:=C3 (l:=b) (k:=i) (by omega);have hgi:=hrg i hin;have hMt:M.take (i+1)=M.take i++[(M7 m i).set k (at0 b i)]:=by rw[List.take_add_one,hgi];rfl
   have hMl:(M.take i).length=i:=by rw[List.length_take];omega
   have hmin:min i M.length=i:=by omega
   have hne:M7 m i≠[]:=by intro e;rw[e]at hrn;simp at hrn;omega
   have hcl:=c2d (M7 m i) hne (by omega);generalize M7 m i=r at gr hrn hMt hcl hgi;have f1:I9 (i+1) 25:=m8 (by omega) (by omega);have htr:List.take n ((r.map j0).set k [I (at0 b (i:Int))])=(r.map j0).set k [I (at0 b (i:Int))]:=List.take_of_length_le (by simp;omega);refine f6 ?_;simp only[zT,reduceIte,Nat.reduceEqDiff];refine hK5 _ _ ?_;refine b6 [0,1,6,7,8,12,13,16,17,18] (Or.inr (by simp)) ?_;simp only[zP,Nat.reduceEqDiff,reduceIte];refine b9 fun K6 hK6=>?_;refine d7 ?_;refine gS fun K hK=>?_;simp -dsimp [gr];apply hK;clear hK K;refine gS fun K hK=>?_;simp -dsimp;refine L6 (hcl) ?_;simp -dsimp;apply hK;clear hK K;refine gS fun K hK=>?_;simp -dsimp [gb,hrn,hkn];apply hK;clear hK K;refine gR fun K hK=>?_;simp -dsimp [f1,hmin];apply hK;clear hK K;simp only[zT,reduceIte,Nat.reduceEqDiff];refine hK6 _ _ ?_;refine b6 [0,1,6,7,8,12,13,16,17,18] (Or.inr (by simp)) ?_;simp only[zP,Nat.reduceEqDiff,reduceIte];refine gR fun K hK=>?_;simp -dsimp [wi];apply hK;clear hK K;simp only[zT,reduceIte,Nat.reduceEqDiff];exact⟨i+1,by omega,by omega,o1 (D5 [some 0,some 4] rfl (by simp[hmin,hrn]) (by simp[hmin,hrn,List.take_add_one,hgi,List.map_set,htr])) (by simp)⟩
  ·have hil:¬i<m.length:=by simpa using hc1
   have hin:i=n:=by omega
   have htk:List.take i (M.map a8H)=M.map a8H:=List.take_of_length_le (by simp;omega);have hmin:min i M.length=i:=by omega
   have hle:i≤M.length:=by omega
   have f2:I9 (k+1) 9:=m8 (by omega) (by omega);refine i6 ?_;simp only[zT,reduceIte,Nat.reduceEqDiff];refine hK4 _ _ ?_;refine b6 [0,1,6,8,12,13] (Or.inr (by simp)) ?_;simp only[zP,Nat.reduceEqDiff,reduceIte];refine gR fun K hK=>?_;simp -dsimp [hmin,hle,htk,hsl,f2];refine d5 _ (hdk) (by simp) ?_;simp -dsimp [hmin,hle,htk,hsl,f2];apply hK;clear hK K;simp only[zT,reduceIte,Nat.reduceEqDiff];refine hK3 _ _ ?_;refine b6 [0,1,6,12,13] (Or.inr (by simp)) ?_;simp only[zP,Nat.reduceEqDiff,reduceIte];refine gR fun K hK=>?_;simp -dsimp [wk];apply hK;clear hK K;simp only[zT,reduceIte,Nat.reduceEqDiff];exact⟨k+1,by omega,by omega,o1 (e9 [some 2] rfl (by simp[hsl]) (by simp[hsl,List.take_add_one,gsk])) (by simp)⟩
 ·have hkl:¬k<m.length:=by simpa using hc0
  have hkn:k=n:=by omega
  refine i6 ?_;simp only[zT,reduceIte,Nat.reduceEqDiff];refine hK1 _ _ ?_;refine b6 [0,6] (Or.inr (by simp)) ?_;simp only[zP,Nat.reduceEqDiff,reduceIte];refine gS fun K hK=>?_;simp -dsimp;refine d5 _ (hdet) (by simp) ?_;simp -dsimp;apply hK;clear hK K;have hsn:k=(b1b m b).length:=by simp[b1b];omega
  have htk:List.take k ((b1b m b).map j0)=(b1b m b).map j0:=List.take_of_length_le (by simp;omega);exact j6 ⟨[some 0],rfl,by simp,by simp[htk],by simp,by simp[C2,n6,hkn]⟩
end Go.Cur
end
section
namespace Go.AM
def b6H (l:List Oper):List (Nat×Nat):=(List.range l.length).flatMap fun k=>((List.range k).filter fun j=> !((b0U l []).getD k 0).testBit j).map fun j=>(j,k)
theorem E7 {l:List Oper} {tr:List Tr} (ps:List (Nat×Nat)) (hb:b2R l 0=true) (hu:b6H l=ps) (hp:∀p∈ps,a0l (tr.getD p.1 ([],[])) (tr.getD p.2 ([],[]))=false):a3p l tr=true:=by
 subst hu;unfold a3p;rw[hb,Bool.true_and,List.all_eq_true];intro k hk;rw[List.all_eq_true];intro j hj
 cases hq:((b0U l []).getD k 0).testBit j with
 |true=>simp
 | false=>
  have:=hp (j,k) (by
   unfold b6H;rw[List.mem_flatMap];exact⟨k,hk,List.mem_map.2 ⟨j,List.mem_filter.2 ⟨hj,by rw[hq];rfl⟩,rfl⟩⟩)
  simp only at this;rw[this];rfl
def a3r (f:Nat→Nat→Int) (n i:Nat):Option l7:=some (.els 1 ((List.range n).map fun j=>[I (f i j)]))
def q9 (f:Nat→Nat→Int) (m n:Nat):Hp:=(List.range m).map (a3r f n)
def Q0 (c m n:Nat):List (List AV):=(List.range m).map fun i=>[.row (i+c) 0 n]
def a3q (f:Nat→Nat→Int) (i j:Nat) (v:Int):Nat→Nat→Int:=fun i' j'=>if i'=i∧j'=j then v else f i' j'
@[simp] theorem a0Y (f:Nat→Nat→Int) (m n:Nat):(q9 f m n).length=m:=by simp[q9]
@[simp] theorem b8N (c m n:Nat):(Q0 c m n).length=m:=by simp[Q0]
@[simp] theorem c0f (c m n:Nat):List.take m (Q0 c m n)=Q0 c m n:=List.take_of_length_le (by simp)
theorem a6u (c m n:Nat):Q0 c (m+1) n=Q0 c m n++[[.row (m+c) 0 n]]:=by simp[Q0,List.range_succ]
theorem G2 {c m n i:Nat} (h:i<m):(Q0 c m n)[i]?=some [.row (i+c) 0 n]:=by
 unfold Q0;rw[List.getElem?_map,List.getElem?_range h];rfl
@[simp] theorem c0V {c m n i:Nat} (h:i<(Q0 c m n).length):(Q0 c m n)[i]=[.row (i+c) 0 n]:=by simp[Q0]
theorem a0c {f:Nat→Nat→Int} {n i j:Nat} (h:j<n):((List.range n).map fun j=>[I (f i j)])[j]?=some [I (f i j)]:=by
 rw[List.getElem?_map,List.getElem?_range h];rfl
theorem N4 {f g:Nat→Nat→Int} {m n:Nat} (h:∀i,i<m→∀j,j<n→f i j=g i j):q9 f m n=q9 g m n:=by
 unfold q9 a3r;refine List.map_congr_left fun i hi=>?_;rw[List.mem_range]at hi
 congr 2
 refine List.map_congr_left fun j hj=>?_;rw[List.mem_range]at hj;rw[h i hi j hj]
theorem a3D:∀{M X:Hp} {i:Nat},i<M.length→m6 (M++X) i=m6 M i
 |[],X,i,h=>by simp at h
 |x::M,X,0,h=>rfl
 |x::M,X,i+1,h=>a3D (M:=M) (by simpa using h)
theorem a3U:∀{M X:Hp} {q:Nat},m6 (M++X) (M.length+q)=m6 X q
 |[],X,q=>by simp
 |x::M,X,q=>by
  rw[List.cons_append,List.length_cons,show M.length+1+q=(M.length+q)+1 by omega];exact a3U (M:=M)
theorem a3C:∀{M X:Hp} {i:Nat} {o:Option l7},i<M.length→D9 (M++X) i o=D9 M i o++X
 |[],X,i,o,h=>by simp at h
 |x::M,X,0,o,h=>rfl
 |x::M,X,i+1,o,h=>by
  show x::D9 (M++X) i o=x::(D9 M i o++X);rw[a3C (M:=M) (by simpa using h)]
theorem a3K:∀{M X:Hp} {q:Nat} {o:Option l7},D9 (M++X) (M.length+q) o=M++D9 X q o
 |[],X,q,o=>by simp
 |x::M,X,q,o=>by
  rw[List.cons_append,List.length_cons,show M.length+1+q=(M.length+q)+1 by omega];show x::D9 (M++X) (M.length+q) o=_;rw[a3K (M:=M)];rfl
theorem a9G:∀{M:Hp} {i:Nat} {o:Option l7},i<M.length→D9 M i o=M.set i o
 |[],i,o,h=>by simp at h
 |x::M,0,o,h=>rfl
 |x::M,i+1,o,h=>by
  show x::D9 M i o=x::M.set i o;rw[a9G (M:=M) (by simpa using h)]
theorem y7 {f:Nat→Nat→Int} {m n i:Nat} (h:i<m):m6 (q9 f m n) i=a3r f n i:=by
 unfold q9;rw[A6,List.getElem?_range h]
theorem z7 {f:Nat→Nat→Int} {m n i:Nat} {X:Hp} (h:i<m):m6 (q9 f m n++X) i=a3r f n i:=by
 rw[a3D (by simpa using h),y7 h]
@[simp] theorem b0l {f:Nat→Nat→Int} {m n q:Nat} {X:Hp}:m6 (q9 f m n++X) (m+q)=m6 X q:=by
 have:=a3U (M:=q9 f m n) (X:=X) (q:=q)
 rwa [a0Y]at this
@[simp] theorem a1Z {f:Nat→Nat→Int} {m n:Nat} {X:Hp}:m6 (q9 f m n++X) m=m6 X 0:=b0l (q:=0)
@[simp] theorem b0y {f:Nat→Nat→Int} {m n q:Nat} {X:Hp} {o:Option l7}:D9 (q9 f m n++X) (m+q) o=q9 f m n++D9 X q o:=by
 have:=a3K (M:=q9 f m n) (X:=X) (q:=q) (o:=o)
 rwa [a0Y]at this
@[simp] theorem a8w {f:Nat→Nat→Int} {m n:Nat} {X:Hp} {o:Option l7}:D9 (q9 f m n++X) m o=q9 f m n++D9 X 0 o:=b0y (q:=0)
@[simp] theorem c1d {f:Nat→Nat→Int} {m n:Nat} {o:Option l7}:D9 (q9 f m n) m o=q9 f m n++[o]:=by
 have:=a8w (f:=f) (m:=m) (n:=n) (X:=[]) (o:=o);rw[List.append_nil]at this;exact this
theorem b7S {f:Nat→Int} {n j:Nat} {v:Int}:((List.range n).map fun j=>[I (f j)]).set j [I v]=(List.range n).map fun j'=>[I (if j'=j then v else f j')]:=by
 refine List.ext_getElem? fun j'=>?_
 by_cases hn:j'<n
 ·rw[List.getElem?_map,List.getElem?_range hn]
  by_cases hj:j'=j
  ·subst hj;rw[List.getElem?_set_self (by simpa using hn)];simp
  ·rw[List.getElem?_set_ne (fun e=>hj e.symm),List.getElem?_map,List.getElem?_range hn];simp[hj]
 ·rw[List.getElem?_eq_none (by simp;omega),List.getElem?_eq_none (by simp;omega)]
theorem b2o {f:Nat→Nat→Int} {m n i j:Nat} {v:Int} (hi:i<m):(q9 f m n).set i (some (.els 1 (((List.range n).map fun j=>[I (f i j)]).set j [I v])))=q9 (a3q f i j v) m n:=by
 rw[b7S (f:=f i)];refine List.ext_getElem? fun i'=>?_
 by_cases hm:i'<m
 ·unfold q9;rw[List.getElem?_map,List.getElem?_range hm]
  by_cases h:i'=i
  ·subst h;rw[List.getElem?_set_self (by simpa using hm)];simp[a3r,a3q]
  ·rw[List.getElem?_set_ne (fun e=>h e.symm),List.getElem?_map,List.getElem?_range hm];simp[a3r,a3q,h]
 ·rw[List.getElem?_eq_none (by simp;omega),List.getElem?_eq_none (by simp;omega)]
theorem a8g {f:Nat→Nat→Int} {m n i j:Nat} {v:Int} (hi:i<m):D9 (q9 f m n) i (some (.els 1 (((List.range n).map fun j=>[I (f i j)]).set j [I v])))=q9 (a3q f i j v) m n:=by
 rw[a9G (by simpa using hi),b2o hi]
theorem M1 {f:Nat→Nat→Int} {m n i j:Nat} {v:Int} {X:Hp} (hi:i<m):D9 (q9 f m n++X) i (some (.els 1 (((List.range n).map fun j=>[I (f i j)]).set j [I v])))=q9 (a3q f i j v) m n++X:=by
 rw[a3C (by simpa using hi),a8g hi]
theorem H7 {gf:List (Option Nat)} {m c i:Nat} (hi:i<m) (hout:some (i+c)∉gf):l4 (gf++(List.range m).map fun i=>some (i+c)) (i+c)=some (i+gf.length):=by
 unfold l4;rw[List.findIdx?_append];have h1:gf.findIdx? (fun x=>x==some (i+c))=none:=by
  rw[List.findIdx?_eq_none_iff];intro x hx;simp only[beq_eq_false_iff_ne,ne_eq];rintro rfl;exact hout hx
 have h2:((List.range m).map fun i=>some (i+c)).findIdx? (fun x=>x==some (i+c))=some i:=by
  rw[List.findIdx?_eq_some_iff_getElem];refine⟨by simpa using hi,by simp,fun j hj=>?_⟩;simp;omega
 rw[h1,h2];rfl
theorem Y5 {g:List (Option Nat)} {c c' m n:Nat} (hg:∀i,i<m→l4 g (i+c)=some (i+c')):((Q0 c m n).map fun e=>e.map (m9 g 3))=Q0 c' m n:=by
 unfold Q0;rw[List.map_map];refine List.map_congr_left fun i hi=>?_;rw[List.mem_range]at hi;show [m9 g 3 (.row (i+c) 0 n)]=_;have e:m9 g 3 (.row (i+c) 0 n)=match l4 g (i+c)with|some q=> .row q 0 n|none=> .any:=rfl
 rw[e,hg i hi]
theorem a9e {g:List (Option Nat)} {f:Nat→Nat→Int} {n i:Nat}:(a3r f n i).map (v7 g)=a3r f n i:=by
 unfold a3r;simp only[Option.map_some,v7,List.map_map]
 congr 2
theorem a3B {gf:List (Option Nat)} {m c:Nat} (h:C7 gf=true) (hout:∀i,i<m→some (i+c)∉gf):∀(i j q:Nat),(gf++(List.range m).map fun i=>some (i+c))[i]?=some (some q)→(gf++(List.range m).map fun i=>some (i+c))[j]?=some (some q)→i=j:=by
 intro i j q h1 h2;have hr:∀k,gf.length≤k→(gf++(List.range m).map fun i=>some (i+c))[k]?=some (some q)→k-gf.length<m∧q=k-gf.length+c:=by
  intro k hk hq;rw[List.getElem?_append_right hk,List.getElem?_map]at hq
  by_cases hkm:k-gf.length<m
  ·rw[List.getElem?_range hkm]at hq;simp only[Option.map_some,Option.some.injEq]at hq;exact⟨hkm,hq.symm⟩
  ·rw[List.getElem?_eq_none (by simp;omega)]at hq;cases hq
 by_cases hi:i<gf.length
 ·rw[List.getElem?_append_left hi]at h1
  by_cases hj:j<gf.length
  ·rw[List.getElem?_append_left hj]at h2;exact O5 gf h i j q h1 h2
  ·obtain⟨a,b⟩:=hr j (by omega) h2;subst b;exact absurd (List.mem_of_getElem? h1) (hout _ a)
 ·obtain⟨a,b⟩:=hr i (by omega) h1
  by_cases hj:j<gf.length
  ·rw[List.getElem?_append_left hj]at h2;subst b;exact absurd (List.mem_of_getElem? h2) (hout _ a)
  ·obtain⟨a',b'⟩:=hr j (by omega) h2;omega
def c1W (H:Hp) (g:List (Option Nat)):Option Nat→Option l7
 |some r=>(m6 H r).map (v7 g)
 |none=>none
theorem b5D (H:Hp) (g:List (Option Nat)):b4A H g=g.map (c1W H g):=rfl
attribute [simp] c1W
theorem a2M:∀(g:List (Option Nat)),(∀(i j q:Nat),g[i]?=some (some q)→g[j]?=some (some q)→i=j)→C7 g=true
 |[],_=>rfl
 | x::g,h=>by
  have hg:=a2M g fun i j q h1 h2=>by
   have:=h (i+1) (j+1) q (by simpa using h1) (by simpa using h2);omega
  cases x with
  |none=>exact hg
  |some q=>
   simp only[C7,Bool.and_eq_true,Bool.not_eq_true',List.contains_eq_mem,decide_eq_false_iff_not];refine⟨fun hm=>?_,hg⟩;obtain⟨j,hj⟩:=List.getElem?_of_mem hm;have:=h 0 (j+1) q (by simp) (by simpa using hj);omega
theorem a7V {gf:List (Option Nat)} {m c:Nat} (h:C7 gf=true) (hout:∀i,i<m→some (i+c)∉gf):C7 (gf++(List.range m).map fun i=>some (i+c))=true:=a2M _ (a3B h hout)
theorem a9o {H F':Hp} (gf:List (Option Nat)) (f:Nat→Nat→Int) (m n c:Nat) (hM:∀i,i<m→m6 H (i+c)=a3r f n i) (hF:gf.map (c1W H (gf++(List.range m).map fun i=>some (i+c)))=F'):
  b4A H (gf++(List.range m).map fun i=>some (i+c))=F'++q9 f m n:=by
 rw[b5D,List.map_append,hF]
 congr 1
 unfold q9;rw[List.map_map];refine List.map_congr_left fun i hi=>?_;rw[List.mem_range]at hi;show(m6 H (i+c)).map (v7 _)=_;rw[hM i hi,a9e]
theorem a4y {nt:Nat} {T T':Tm} {H F':Hp} (gf:List (Option Nat)) (f:Nat→Nat→Int) (m n c:Nat) (hn:C7 gf=true) (hout:∀i,i<m→some (i+c)∉gf) (hM:∀i,i<m→m6 H (i+c)=a3r f n i)
  (hT:b7C (gf++(List.range m).map fun i=>some (i+c)) T T') (hF:gf.map (c1W H (gf++(List.range m).map fun i=>some (i+c)))=F'):Sub nt T H T' (F'++q9 f m n):=
 b4d _ (a3B hn hout) hT (a9o gf f m n c hM hF)
def v5:Nat→Hp→List (Nat×Option l7)
 |_,[]=>[]
 |N,x::L=>(N,x)::v5 (N+1) L
theorem a2Y (bg:List (Option Nat)):∀(N:Nat) (L:Hp),A7 bg N L=v5 N (L.map (Option.map (v7 bg)))
 |N,[]=>rfl
 |N,x::L=>by simp only[A7,v5,List.map_cons,a2Y bg (N+1) L]
theorem a9E:∀(H:Hp) (x:Option l7),D9 H H.length x=H++[x]
 |[],x=>rfl
 |y::H,x=>by show y::D9 H H.length x=_;rw[a9E H x];rfl
theorem a5e:∀(L H:Hp),W8 H (v5 H.length L)∧a3g H (v5 H.length L)=H++L
 |[],H=>⟨trivial,by simp[v5,a3g]⟩
 |x::L,H=>by
  have ih:=a5e L (H++[x]);simp only[List.length_append,List.length_cons,List.length_nil,Nat.zero_add]at ih;simp only[v5,W8,a3g];rw[a9E];exact⟨⟨Nat.le_refl _,ih.1⟩,by rw[ih.2];simp⟩
theorem a6J:∀(L:Hp) (N:Nat),E2 (v5 N L)=true∧∀q∈v5 N L,N≤q.1
 |[],N=>⟨rfl,by simp[v5]⟩
 | x::L,N=>by
  obtain⟨h1,h2⟩:=a6J L (N+1);refine⟨?_,fun q hq=>?_⟩
  ·simp only[v5,E2,Bool.and_eq_true,List.all_eq_true,bne_iff_ne,ne_eq];exact⟨fun q hq e=>by have:=h2 q hq;omega,h1⟩
  ·simp only[v5,List.mem_cons]at hq
   rcases hq with rfl|hq
   ·exact Nat.le_refl _
   ·have:=h2 q hq;omega
@[simp] theorem b9O {H L:Hp} {N:Nat} (h:H.length=N):W8 H (v5 N L):=h▸(a5e L H).1
@[simp] theorem b9Z {H L:Hp} {N:Nat} (h:H.length=N):a3g H (v5 N L)=H++L:=h▸(a5e L H).2
@[simp] theorem b7y {L:Hp} {N:Nat}:E2 (v5 N L)=true:=(a6J L N).1
theorem S4 {N n q:Nat} (hq:q<n):l4 (z9 [] N n) q=some (N+q):=by
 unfold l4 z9;rw[List.findIdx?_append];have h1:((List.range N).map fun r=>List.findIdx? (fun x=>x==r) ([]:List Nat)).findIdx? (fun x=>x==some q)=none:=by
  rw[List.findIdx?_eq_none_iff];intro x hx;obtain⟨r,_,rfl⟩:=List.mem_map.1 hx
  rfl
 have h2:((List.range n).map fun j=>some (([]:List Nat).length+j)).findIdx? (fun x=>x==some q)=some q:=by
  rw[List.findIdx?_eq_some_iff_getElem];refine⟨by simpa using hq,by simp,fun j hj=>?_⟩;simp;omega
 rw[h1,h2];simp[Nat.add_comm]
theorem a6A {P:Program} {m:List Bool} {f:FuncId} {args:List AV} {fl:Bool} {rd rd0:List Nat} {raw:List AV} {H:Nat→Option l7} {N:Nat} {K:Eff→Prop} {args':List AV} {n:Nat} {R:List (List AV)} {F:Nat→Nat→Int}
  (h:g6 P f args' [] [] (.tup [.row 0 0 n, .row 1 0 n]) [] ([some (.els 1 (Q0 2 n n)),some (.els 1 R)]++q9 F n n)) (ha:raw.map (m9 [] 40)=args') (hR:∀g,R.map (fun e=>e.map (m9 g 3))=R)
  (hk:K ⟨.tup [.row N 0 n, .row (N+1) 0 n],v5 N ([some (.els 1 (Q0 (N+2) n n)),some (.els 1 R)]++q9 F n n),rd0⟩):a1v P m f args fl rd rd0 raw H N K:=by
 refine k9 [] [] (z9 [] N (n+2)) h (by simp[b8A]) (congrArg (z9 [] N) (by simp<;>omega)) ha rfl rfl rfl ?_;have hM:(q9 F n n).map (Option.map (v7 (z9 [] N (n+2))))=q9 F n n:=by
  unfold q9;rw[List.map_map];exact List.map_congr_left fun i _=>a9e
 have ho:((Q0 2 n n).map fun e=>e.map (m9 (z9 [] N (n+2)) 3))=Q0 (N+2) n n:=by
  unfold Q0;rw[List.map_map];refine List.map_congr_left fun i hi=>?_;rw[List.mem_range]at hi;show [m9 (z9 [] N (n+2)) 3 (.row (i+2) 0 n)]=_;have e:m9 (z9 [] N (n+2)) 3 (.row (i+2) 0 n)=match l4 (z9 [] N (n+2)) (i+2)with|some q=> .row q 0 n|none=> .any:=rfl
  rw[e,S4 (by omega),show N+(i+2)=i+(N+2)by omega]
 have hr:m9 (z9 [] N (n+2)) 3 (.tup [.row 0 0 n, .row 1 0 n])= .tup [.row N 0 n, .row (N+1) 0 n]:=by
  have e0:m9 (z9 [] N (n+2)) 2 (.row 0 0 n)=match l4 (z9 [] N (n+2)) 0 with|some q=> .row q 0 n|none=> .any:=rfl
  have e1:m9 (z9 [] N (n+2)) 2 (.row 1 0 n)=match l4 (z9 [] N (n+2)) 1 with|some q=> .row q 0 n|none=> .any:=rfl
  show AV.tup [m9 (z9 [] N (n+2)) 2 (.row 0 0 n),m9 (z9 [] N (n+2)) 2 (.row 1 0 n)]=_;rw[e0,e1,S4 (by omega),S4 (by omega)];rfl
 have hu:A7 (z9 [] N (n+2)) N ([some (.els 1 (Q0 2 n n)),some (.els 1 R)]++q9 F n n)=v5 N ([some (.els 1 (Q0 (N+2) n n)),some (.els 1 R)]++q9 F n n):=by
  rw[a2Y,List.map_append,hM];simp only[List.map_cons,List.map_nil,Option.map_some,v7,ho,hR]
 rw[hr,hu];simpa [t8,x9]using hk
def b9C (f:Nat→Nat→Int) (m n:Nat):List (List Int):=(List.range m).map fun i=>(List.range n).map fun j=>f i j
theorem a1I {f:Nat→Nat→Int} {m n i:Nat} (h:i<m):(b9C f m n)[i]?=some ((List.range n).map fun j=>f i j):=by
 unfold b9C;rw[List.getElem?_map,List.getElem?_range h];rfl
theorem a8R {H:Nat→Option l7} {r n:Nat} {es:List (List AV)} {M:List (List Int)} (h1:1≤n) (hr:H r=some (.els 1 es)) (he:es.length=n) (hm:M.length=n)
  (hM:∀i,i<n→∃nm l,es[i]?=some [.row nm 0 n]∧M[i]?=some l∧H nm=some (.els 1 (l.map fun x=>[I x]))∧l.length=n):frz H 3 (.row r 0 n)= .lst 1 (M.map fun l=>[.lst 1 (l.map fun x=>[I x])]):=by
 have hp:y6 es=false:=by
  obtain⟨nm,l,g1,_⟩:=hM 0 (by omega);unfold y6;rw[List.all_eq_false];exact⟨_,List.mem_of_getElem? g1,by simp[AV.noRef]⟩
 have hf:(es.map fun e=>e.map (frz H 2))=M.map fun l=>[.lst 1 (l.map fun x=>[I x])]:=by
  refine List.ext_getElem? fun i=>?_
  by_cases hi:i<n
  ·obtain⟨nm,l,g1,g2,g3,g4⟩:=hM i hi;rw[List.getElem?_map,List.getElem?_map,g1,g2];simp only[Option.map_some,List.map_cons,List.map_nil,Option.some.injEq,List.cons.injEq,and_true];have hpl:y6 (l.map fun x=>[I x])=true:=by simp[y6,AV.noRef]
   have ht:List.take n (l.map fun x=>[I x])=l.map fun x=>[I x]:=List.take_of_length_le (by simp;omega);simp only[frz,g3];rw[if_pos (by simp;omega),if_pos hpl,List.drop_zero,ht]
  ·rw[List.getElem?_eq_none (by simp;omega),List.getElem?_eq_none (by simp;omega)]
 have ht:List.take n (es.map fun e=>e.map (frz H 2))=es.map fun e=>e.map (frz H 2):=List.take_of_length_le (by simp;omega);simp only[frz,hr];rw[if_pos (by simp;omega),hp];simp only[Bool.false_eq_true,if_false,List.drop_zero];rw[List.take_of_length_le (by omega),hf]
end Go.AM
end
section
namespace Go.Cur
open Go.AM Go.Proofs
def upN (p:List Nat):List Int:=p.map fun(k:Nat)=>(k:Int)
theorem o9 (p:List Nat):(upN p).length=p.length:=by simp[upN]
theorem E9 {p:List Nat} {k x:Nat} (h:p[k]?=some x):(upN p)[k]?=some (x:Int):=by simp[upN,h]
theorem V5 {p:List Nat} {x:Int}:x∈upN p↔0≤x∧x.toNat∈p:=by
 simp only[upN,List.mem_map];constructor
 ·rintro⟨k,hk,rfl⟩;exact⟨by omega,by simpa using hk⟩
 ·rintro⟨h0,h1⟩;exact⟨x.toNat,h1,by omega⟩
def a5E:List Nat→Nat→Kvs
 |[],_=>[]
 |x::p,n=>(ik x, .int .i64 n)::a5E p (n+1)
theorem a2Z {x:Nat}:∀{p:List Nat} {n:Nat},x∉p→t5 (a5E p n) (ik x)=none
 |[],_,_=>rfl
 |y::p,n,h=>by
  simp only[List.mem_cons,not_or]at h;simp only[a5E,t5];rw[if_neg (fun e=>h.1 (by have:=P6.1 e;omega)),a2Z h.2]
theorem a0d {x:Nat}:∀{p:List Nat} {n:Nat},x∈p→t5 (a5E p n) (ik x)=some (.int .i64 ((p.idxOf x+n:Nat):Int))
 |[],_,h=>by simp at h
 | y::p,n,h=>by
  simp only[a5E,t5]
  by_cases e:x=y
  ·subst e;rw[if_pos rfl];simp
  ·rw[if_neg (fun h=>e (by have:=P6.1 h;omega)),a0d ((List.mem_cons.1 h).resolve_left e)];rw[List.idxOf_cons];have:(y==x)=false:=by simp;exact fun h=>e h.symm
   rw[this];simp only[cond_false]
   congr 3;omega
theorem a6n {x:Nat}:∀{p:List Nat} {n:Nat},x∉p→y5 (a5E p n) (ik x) (.int .i64 ((n+p.length:Nat):Int))=a5E (p++[x]) n
 |[],n,_=>by simp[a5E,y5]
 |y::p,n,h=>by
  simp only[List.mem_cons,not_or]at h;have ih:=a6n (n:=n+1) h.2;simp only[List.cons_append,a5E,y5,List.length_cons];rw[if_neg (fun e=>h.1 (by have:=P6.1 e;omega)),show n+(p.length+1)=n+1+p.length by omega,ih]
theorem E3 {x:Nat}:∀{p:List Nat},x∈p→p[p.idxOf x]?=some x
 |[],h=>by simp at h
 | y::p,h=>by
  rw[List.idxOf_cons]
  by_cases e:y=x
  ·subst e;simp
  ·have:(y==x)=false:=by simpa using e
   rw[this];simp only[cond_false,List.getElem?_cons_succ];exact E3 ((List.mem_cons.1 h).resolve_left (fun h=>e h.symm))
def onW (l:List Wr) (b:List Bool):List Wn:=(l.zip b).filterMap fun q=>if q.2 then some ⟨q.1.A.toNat,q.1.B.toNat,q.1.Siem⟩else none
theorem b0b {l:List Wr} {b:List Bool} {k:Nat} {w:Wr} {x:Bool} (hl:l[k]?=some w) (hb:b[k]?=some x):onW (l.take (k+1)) (b.take (k+1))=onW (l.take k) (b.take k)++if x then [⟨w.A.toNat,w.B.toNat,w.Siem⟩]else []:=by
 have hk:=(List.getElem?_eq_some_iff.1 hl).1;have hk2:=(List.getElem?_eq_some_iff.1 hb).1;unfold onW;rw[List.take_add_one,List.take_add_one,hl,hb,List.zip_append (by simp;omega),List.filterMap_append]
 cases x<;>simp
def rgt (us:Kvs) (p:List Nat):List Int:=p.map fun(k:Nat)=>-igt us k
def Lf (W:List Wn) (p:List Nat):Nat→Nat→Int:=fun i j=>lw W (p.getD i 0) (p.getD j 0)
theorem c1X (n i:Nat):some (l7.els 1 (List.replicate n [I 0]))=a3r (fun _ _=>0) n i:=by
 unfold a3r;rw[List.map_const'];simp
theorem b7f (w:Wn) (i:Nat):(ew w i).natAbs≤1:=by
 unfold ew
 split<;>split<;>omega
theorem b3R {i k:Nat}:∀{W:List Wn},(∀w∈W,w.s.natAbs≤4)→(lw W i k).natAbs≤4*W.length
 |[],_=>by simp[lw]
 | w::W,h=>by
  have ih:=b3R (i:=i) (k:=k) (W:=W) fun w hw=>h w (by simp[hw]);have h1:(w.s*(ew w i*ew w k)).natAbs≤4*(1*1):=by
   rw[Int.natAbs_mul,Int.natAbs_mul];exact Nat.mul_le_mul (h w (by simp)) (Nat.mul_le_mul (b7f w i) (b7f w k))
  rw[lw,List.length_cons];omega
theorem b4k (l:List Wr) (b:List Bool):(onW l b).length≤l.length:=by
 refine Nat.le_trans (List.length_filterMap_le _ _) ?_;rw[List.length_zip];exact Nat.min_le_left _ _
theorem V6 {l:List Wr} {b:List Bool} {x:Wn} (h:x∈onW l b):∃w∈l,x=⟨w.A.toNat,w.B.toNat,w.Siem⟩:=by
 unfold onW at h;rw[List.mem_filterMap]at h;obtain⟨q,hq,h⟩:=h
 split at h
 ·simp only[Option.some.injEq]at h;exact⟨q.1,(List.of_mem_zip hq).1,h.symm⟩
 ·cases h
theorem a1M {l:List Wr} {b:List Bool} {x:Wn} {k:Nat} (h:x∈onW (l.take k) (b.take k)):x∈onW l b:=by
 unfold onW at h ⊢;rw[List.mem_filterMap]at h ⊢;obtain⟨q,hq,h⟩:=h;refine⟨q,?_,h⟩;rw[List.zip_eq_zipWith,←List.take_zipWith]at hq;exact List.mem_of_mem_take hq
theorem a7m (g:Gr) (s:Sta) (p:List Nat) (us:Kvs) (n:Nat) (hpn:p.length=n) (h1:1≤n) (h10:n≤10) (hnd:p.Nodup) (hI:a1i us) (hus:∀x,-40≤igt us x∧igt us x≤40)
  (hsw:s.Wires.length=g.Wires.length) (hwl:g.Wires.length≤80) (hw:∀w∈g.Wires,wrB g w=true) (hcl:∀w∈onW g.Wires s.Wires,w.a∈p↔w.b∈p):
  g6 Try.prog 87 [net g s,iL (upN p), .mpc false [.i .i64] us] [] [] (.tup [.row 0 0 n, .row 1 0 n]) [] ([some (.els 1 (Q0 2 n n)),some (.els 1 ((rgt us p).map j0))]++q9 (Lf (onW g.Wires s.Wires) p) n n):=by
 have hpl:=o9 p;have wneg:∀x,IntKind.i64.wrap (-igt us x)=-igt us x:=fun x=>f7 (by have:=hus x;omega) (by have:=hus x;omega);refine g6.of_bodyG [] Try.func87 rfl (by decide) (by simp[Try.ntmps87]) rfl rfl ?_;intro J hJ;simp only[Try.ntmps87,Try.results87];refine gS fun K hK=>?_;simp -dsimp;apply hK;clear hK K;refine gS fun K hK=>?_;simp -dsimp;apply hK;clear hK K;refine b9 fun K1 hK1=>?_;refine gS fun K hK=>?_;simp -dsimp;apply hK;clear hK K;refine d7 ?_;refine b6 [0,1,2,8,21,22,23] (Or.inr (by simp)) ?_;simp only[zP,Nat.reduceEqDiff,reduceIte];refine g9 [0,1,2,8,21,22] (α:=Nat) (fun k=>[(23,I k)]) (fun k=>[a5d (a5E (p.take k) 0)]) (fun k=>k≤n) (fun k=>n-k) 0 ?_ ?_ ?_
 ·exact Nat.zero_le _
 ·exact o1 (j9 (by simp)) (by simp)
 rintro k k1;simp only[zP,Nat.reduceEqDiff,reduceIte];refine gS fun K hK=>?_;simp -dsimp;apply hK;clear hK K;refine b9 fun K2 hK2=>?_;refine d9 rfl (fun hc0=>?_) (fun hc0=>?_)
 ·skip
  try simp at hc0
  have hkn:k<p.length:=by rw[←hpl];simpa using hc0
  obtain⟨x,hx⟩:∃x,p[k]?=some x:=⟨_,List.getElem?_eq_getElem hkn⟩;have gx:=E9 hx;have hsn:=a6n (p:=p.take k) (n:=0) (x:=x) (by
   intro hm;obtain⟨j,hj⟩:=List.getElem?_of_mem hm;have hjl:=(List.getElem?_eq_some_iff.1 hj).1;rw[List.length_take]at hjl;rw[List.getElem?_take,if_pos (by omega)]at hj;have:=(List.getElem?_inj (by omega) hnd).1 (hj.trans hx.symm);omega)
  have htl:(p.take k).length=k:=by rw[List.length_take];omega
  rw[htl,Nat.zero_add]at hsn;have hts:p.take (k+1)=p.take k++[x]:=by rw[List.take_add_one,hx];rfl
  have wk:=zW k (by omega);refine f6 ?_;simp only[zT,reduceIte,Nat.reduceEqDiff];refine hK2 _ _ ?_;refine b6 [0,1,2,8,21,22,23] (Or.inr (by simp)) ?_;simp only[zP,Nat.reduceEqDiff,reduceIte];refine b9 fun K3 hK3=>?_;refine d7 ?_;refine gS fun K hK=>?_;simp -dsimp [gx];apply hK;clear hK K;refine gR fun K hK=>?_;simp -dsimp [hsn];apply hK;clear hK K;simp only[zT,reduceIte,Nat.reduceEqDiff];refine hK3 _ _ ?_;refine b6 [0,1,2,8,21,22,23] (Or.inr (by simp)) ?_;simp only[zP,Nat.reduceEqDiff,reduceIte];refine gR fun K hK=>?_;simp -dsimp [wk];apply hK;clear hK K;simp only[zT,reduceIte,Nat.reduceEqDiff];exact⟨k+1,by omega,by omega,o1 (e9 [some 0] rfl (by simp) (by simp[hsn,hts])) (by simp)⟩
 ·skip
  try simp at hc0
  have hkp:¬k<p.length:=by rw[←hpl];simpa using hc0
  have htp:p.take k=p:=List.take_of_length_le (by omega);refine i6 ?_;simp only[zT,reduceIte,Nat.reduceEqDiff];refine hK1 _ _ ?_;refine b6 [0,1,2,8] (Or.inr (by simp)) ?_;simp only[zP,Nat.reduceEqDiff,reduceIte];refine gS fun K hK=>?_;simp -dsimp;apply hK;clear hK K;refine gS fun K hK=>?_;simp -dsimp;apply hK;clear hK K;refine b9 fun K4 hK4=>?_;refine gS fun K hK=>?_;simp -dsimp;apply hK;clear hK K;refine d7 ?_;refine b6 [0,1,2,8,11,12,32,33,34] (Or.inr (by simp)) ?_;simp only[zP,Nat.reduceEqDiff,reduceIte];refine g9 [0,1,2,8,32,33] (α:=Nat) (fun k=>[(11, .row 1 0 k),(12, .row 2 0 k),(34,I k)]) (fun k=>[a5d (a5E p 0),some (.els 1 (Q0 3 k n)),some (.els 1 (((rgt us p).take k).map j0))]++q9 (fun _ _=>0) k n) (fun k=>k≤n) (fun k=>n-k) 0 ?_ ?_ ?_
  ·exact Nat.zero_le _
  ·refine o1 ((H4 11 1 (by simp)).trans ((H4 12 1 (by simp)).trans (e9 [some 0,some 1,some 2] rfl (by simp) (by simp[htp,Q0,q9])))) (by simp)
  rintro k k1;simp only[zP,Nat.reduceEqDiff,reduceIte];refine gS fun K hK=>?_;simp -dsimp;apply hK;clear hK K;refine b9 fun K5 hK5=>?_;refine d9 rfl (fun hc1=>?_) (fun hc1=>?_)
  ·skip
   try simp at hc1
   have hkn:k<p.length:=by rw[←hpl];simpa using hc1
   obtain⟨x,hx⟩:∃x,p[k]?=some x:=⟨_,List.getElem?_eq_getElem hkn⟩;have gx:=E9 hx;have wk:=zW k (by omega);have hrl:min k (rgt us p).length=k:=by simp only[rgt,List.length_map];omega
   have gr:(rgt us p)[k]?=some (-igt us x):=by simp[rgt,hx]
   have f1:I9 (k+1) 25:=m8 (by omega) (by omega);have f2:I9 (k+1) 9:=m8 (by omega) (by omega);have f0:I9 n 9:=m8 (by omega) (by omega);refine f6 ?_;simp only[zT,reduceIte,Nat.reduceEqDiff];refine hK5 _ _ ?_;refine b6 [0,1,2,8,11,12,32,33,34] (Or.inr (by simp)) ?_;simp only[zP,Nat.reduceEqDiff,reduceIte];refine b9 fun K6 hK6=>?_;refine d7 ?_;refine gS fun K hK=>?_;simp -dsimp [gx];apply hK;clear hK K;refine gS fun K hK=>?_;simp -dsimp [f0,f1,hpl,hpn,Nat.add_assoc];apply hK;clear hK K;refine gR fun K hK=>?_;simp -dsimp [p7 hI,wneg,f2,hrl,Nat.add_assoc];refine o4 (_) (fun hm=>rfl) ?_;simp -dsimp [p7 hI,wneg,f2,hrl,Nat.add_assoc];apply hK;clear hK K;simp only[zT,reduceIte,Nat.reduceEqDiff];refine hK6 _ _ ?_;refine b6 [0,1,2,8,11,12,32,33,34] (Or.inr (by simp)) ?_;simp only[zP,Nat.reduceEqDiff,reduceIte];refine gR fun K hK=>?_;simp -dsimp [wk];apply hK;clear hK K;simp only[zT,reduceIte,Nat.reduceEqDiff];have hout:∀i,i<k+1→some (i+3)∉ [some 0,some (k+5),some (k+6)]:=fun i hi=>by simp;omega
   have hM:∀i,i<k+1→m6 (q9 (fun _ _=>0) k n++[some (.els 1 (List.replicate n [I 0])),some (.els 1 [[.row (k+3) 0 n]]),some (.els 1 (Q0 3 k n++[[.row (k+3) 0 n]])),some (.els 1 (List.take k ((rgt us p).map j0)++[[I (-igt us x)]]))]) i=a3r (fun _ _=>0) n i:=fun i hi=>by
    rcases Nat.lt_succ_iff_lt_or_eq.1 hi with h|h
    ·exact z7 h
    ·subst h;rw[a1Z];exact c1X _ _
   have hro:=Y5 (g:=some 0::some (k+5)::some (k+6)::(List.range (k+1)).map fun i=>some (i+3)) (c:=3) (c':=3) (m:=k+1) (n:=n) (fun i hi=>H7 (gf:=[some 0,some (k+5),some (k+6)]) hi (hout i hi));rw[a6u]at hro;refine⟨k+1,by omega,by omega,o1 (a4y (F':=[a5d (a5E p 0),some (.els 1 (Q0 3 (k+1) n)),some (.els 1 (((rgt us p).take (k+1)).map j0))]) [some 0,some (k+5),some (k+6)] (fun _ _=>0) (k+1) n 3 (by simp[C7]) hout hM (by simp[hpl,hpn]) ?_) (by simp)⟩;simp[hro,a6u,List.take_add_one,gr]
  ·skip
   try simp at hc1
   have hkp:¬k<p.length:=by rw[←hpl];simpa using hc1
   have hkn:k=n:=by omega
   subst hkn;have hrt:List.take k ((rgt us p).map j0)=(rgt us p).map j0:=List.take_of_length_le (by simp[rgt];omega);rw[hrt];refine i6 ?_;simp only[zT,reduceIte,Nat.reduceEqDiff];refine hK4 _ _ ?_;refine b6 [0,8,11,12] (Or.inr (by simp)) ?_;simp only[zP,Nat.reduceEqDiff,reduceIte];refine b9 fun K7 hK7=>?_;refine gS fun K hK=>?_;simp -dsimp;apply hK;clear hK K;refine d7 ?_;refine b6 [0,8,11,12,56,57,58] (Or.inr (by simp)) ?_;simp only[zP,Nat.reduceEqDiff,reduceIte];refine g9 [0,8,11,12,56,57] (α:=Nat) (fun q=>[(58,I q)]) (fun q=>[a5d (a5E p 0),some (.els 1 (Q0 3 k k)),some (.els 1 ((rgt us p).map j0))]++q9 (Lf (onW (g.Wires.take q) (s.Wires.take q)) p) k k) (fun q=>q≤g.Wires.length) (fun q=>g.Wires.length-q) 0 ?_ ?_ ?_
   ·exact Nat.zero_le _
   ·have hm0:q9 (Lf (onW (g.Wires.take 0) (s.Wires.take 0)) p) k k=q9 (fun _ _=>0) k k:=N4 fun i _ j _=>rfl;rw[hm0];exact o1 (j9 (by simp)) (by simp)
   rintro q q1;simp only[zP,Nat.reduceEqDiff,reduceIte];refine gS fun K hK=>?_;simp -dsimp;apply hK;clear hK K;refine b9 fun K8 hK8=>?_;refine d9 rfl (fun hc2=>?_) (fun hc2=>?_)
   ·skip
    try simp at hc2
    obtain⟨w,hq⟩:∃w,g.Wires[q]?=some w:=⟨_,List.getElem?_eq_getElem hc2⟩;have wq:=zW q (by omega);have hwb:=hw w (List.mem_of_getElem? hq);simp only[wrB,Bool.and_eq_true,t4,Bool.not_eq_true',decide_eq_false_iff_not]at hwb;obtain⟨⟨⟨hwA,hwB⟩,hAB⟩,hwS⟩:=hwb;have gsw:=v9 (l:=s.Wires) (k:=q) (by omega);have hsn:=b0b hq gsw;obtain⟨a,ha⟩:∃a:Nat,w.A=a:=⟨w.A.toNat,by omega⟩;obtain⟨b,hb⟩:∃b:Nat,w.B=b:=⟨w.B.toNat,by omega⟩;have hab:a≠b:=by omega
    obtain⟨wA,wB,wS,wSw⟩:=w;simp only at ha hb hwS hsn;subst ha hb;simp only[Int.toNat_natCast]at hsn;obtain⟨ia,hia⟩:∃ia:Nat,ia=if a∈p then p.idxOf a else 0:=⟨_,rfl⟩;have hA1:(t5 (a5E p 0) (ik (a:Int))).getD (.int .i64 0)= .int .i64 (ia:Int):=by
     by_cases h:a∈p
     ·rw[a0d h,hia,if_pos h];rfl
     ·rw[a2Z h,hia,if_neg h];rfl
    have hA2:(t5 (a5E p 0) (ik (a:Int))).isSome=decide (a∈p):=by
     by_cases h:a∈p
     ·rw[a0d h];simp[h]
     ·rw[a2Z h];simp[h]
    have hfb:∀i j,(Lf (onW (g.Wires.take q) (s.Wires.take q)) p i j).natAbs≤320:=fun i j=>by
     refine Nat.le_trans (b3R fun x hx=>?_) ?_
     ·obtain⟨w',hw',e⟩:=V6 (a1M hx);have:=hw w' hw';simp only[wrB,Bool.and_eq_true,t4]at this;rw[e];simp only;omega
     ·have:=b4k (g.Wires.take q) (s.Wires.take q);rw[List.length_take]at this;omega
    refine f6 ?_;simp only[zT,reduceIte,Nat.reduceEqDiff];refine hK8 _ _ ?_;refine b6 [0,8,11,12,56,57,58] (Or.inr (by simp)) ?_;simp only[zP,Nat.reduceEqDiff,reduceIte];refine b9 fun K9 hK9=>?_;refine d7 ?_;refine gS fun K hK=>?_;simp -dsimp [hq];apply hK;clear hK K;refine gS fun K hK=>?_;simp -dsimp [hA1,hA2,Nat.add_assoc];refine o4 (_) (fun hm=>rfl) ?_;simp -dsimp [hA1,hA2,Nat.add_assoc];apply hK;clear hK K;refine b9 fun K10 hK10=>?_;refine gS fun K hK=>?_;simp -dsimp [gsw];refine l3 (i9 (bAt s.Wires q)) (fun _=>by simp[gsw]) ?_;simp -dsimp [gsw];apply hK;clear hK K;refine d9 rfl (fun hc3=>?_) (fun hc3=>?_)
    ·have hfe:q9 (Lf (onW (g.Wires.take (q+1)) (s.Wires.take (q+1))) p) k k=q9 (Lf (onW (g.Wires.take q) (s.Wires.take q)) p) k k:=by
      rw[hsn]
      cases hx:bAt s.Wires q with
      |false=>simp
      | true=>
       have hna:a∉p:=by simpa [hx]using hc3
       refine N4 fun i hi j hj=>?_;have hxi:p.getD i 0∈p:=by rw[List.getD_eq_getElem?_getD,List.getElem?_eq_getElem (by omega)];simp
       have hmem:(⟨a,b,wS⟩:Wn)∈onW g.Wires s.Wires:=a1M (k:=q+1) (by rw[hsn,hx];simp);have hnb:b∉p:=fun h=>hna ((hcl _ hmem).2 h);have e0:ew ⟨a,b,wS⟩ (p.getD i 0)=0:=by
        have n1:p.getD i 0≠a:=fun e=>hna (by rw[←e];exact hxi);have n2:p.getD i 0≠b:=fun e=>hnb (by rw[←e];exact hxi);unfold ew;rw[if_neg n1,if_neg n2];rfl
       unfold Lf;rw[if_pos rfl,a2r];show _+(wS*(ew ⟨a,b,wS⟩ (p.getD i 0)*ew ⟨a,b,wS⟩ (p.getD j 0))+0)=_;rw[e0,Int.zero_mul,Int.mul_zero];omega
     refine i6 ?_;simp only[zT,reduceIte,Nat.reduceEqDiff];refine hK9 _ _ ?_;refine b6 [0,8,11,12,56,57,58] (Or.inr (by simp)) ?_;simp only[zP,Nat.reduceEqDiff,reduceIte];refine gR fun K hK=>?_;simp -dsimp [wq];apply hK;clear hK K;simp only[zT,reduceIte,Nat.reduceEqDiff];refine⟨q+1,by omega,by omega,o1 (a4y (F':=[a5d (a5E p 0),some (.els 1 (Q0 3 k k)),some (.els 1 ((rgt us p).map j0))]) [some 0,some 1,some 2] (Lf (onW (g.Wires.take (q+1)) (s.Wires.take (q+1))) p) k k 3 (by simp[C7]) (fun i hi=>by simp) ?_ (by simp) ?_) (by simp)⟩
     ·intro i hi;show m6 (q9 _ k k++_) i=_;rw[z7 hi];rw[←y7 (m:=k) hi,←y7 (m:=k) hi,hfe]
     ·have hro:=Y5 (g:=some 0::some 1::some 2::(List.range k).map fun i=>some (i+3)) (c:=3) (c':=3) (m:=k) (n:=k) (fun i hi=>H7 (gf:=[some 0,some 1,some 2]) hi (by simp));simp[hro]
    ·have hap:a∈p∧bAt s.Wires q=true:=by simpa using hc3
     have hmem:(⟨a,b,wS⟩:Wn)∈onW g.Wires s.Wires:=a1M (k:=q+1) (by rw[hsn,hap.2];simp);have hbp:b∈p:=(hcl _ hmem).1 hap.1;rw[if_pos hap.1]at hia;obtain⟨ib,hib⟩:∃ib:Nat,ib=p.idxOf b:=⟨_,rfl⟩;have hB1:(t5 (a5E p 0) (ik (b:Int))).getD (.int .i64 0)= .int .i64 (ib:Int):=by rw[a0d hbp,hib];rfl
     have hik:ia<k:=by rw[hia,←hpn];exact List.idxOf_lt_length_of_mem hap.1
     have hjk:ib<k:=by rw[hib,←hpn];exact List.idxOf_lt_length_of_mem hbp
     have gA:p[ia]?=some a:=by rw[hia];exact E3 hap.1
     have gB:p[ib]?=some b:=by rw[hib];exact E3 hbp
     have lia:ia≤k+1:=by omega
     have lib:ib≤k+1:=by omega
     have hij:ia≠ib:=by rintro rfl;rw[gA]at gB;simp only[Option.some.injEq]at gB;exact hab gB
     have hji:ib≠ia:=fun e=>hij e.symm;have hfe:∀i,i<k→∀j,j<k→Lf (onW (g.Wires.take (q+1)) (s.Wires.take (q+1))) p i j=a3q (a3q (a3q (a3q (Lf (onW (g.Wires.take q) (s.Wires.take q)) p) ia ia (Lf (onW (g.Wires.take q) (s.Wires.take q)) p ia ia+wS)) ib ib (Lf (onW (g.Wires.take q) (s.Wires.take q)) p ib ib+wS)) ia ib (Lf (onW (g.Wires.take q) (s.Wires.take q)) p ia ib-wS)) ib ia (Lf (onW (g.Wires.take q) (s.Wires.take q)) p ib ia-wS) i j:=by
      intro i hi j hj;have hE:∀i,i<k→ew ⟨a,b,wS⟩ (p.getD i 0)=(if i=ia then 1 else 0)-(if i=ib then 1 else 0):=by
       intro i hi;have hgi:p[i]?=some (p.getD i 0):=by rw[List.getD_eq_getElem?_getD,List.getElem?_eq_getElem (by omega)];rfl
       have q1:(p.getD i 0=a)↔i=ia:=by
        constructor
        ·intro e;rw[e]at hgi;exact(List.getElem?_inj (by omega) hnd).1 (hgi.trans gA.symm)
        ·rintro rfl;rw[gA]at hgi;simp only[Option.some.injEq]at hgi;exact hgi.symm
       have q2:(p.getD i 0=b)↔i=ib:=by
        constructor
        ·intro e;rw[e]at hgi;exact(List.getElem?_inj (by omega) hnd).1 (hgi.trans gB.symm)
        ·rintro rfl;rw[gB]at hgi;simp only[Option.some.injEq]at hgi;exact hgi.symm
       unfold ew;simp only[q1,q2]
      rw[hsn,hap.2];have hL:Lf (onW (g.Wires.take q) (s.Wires.take q)++[⟨a,b,wS⟩]) p i j=Lf (onW (g.Wires.take q) (s.Wires.take q)) p i j+wS*(((if i=ia then 1 else 0)-(if i=ib then 1 else 0))*((if j=ia then 1 else 0)-(if j=ib then 1 else 0))):=by
       unfold Lf;rw[a2r,←hE i hi,←hE j hj];simp[lw]
      rw[if_pos rfl,hL];unfold a3q
      by_cases e1:i=ia
      ·subst e1
       by_cases e2:j=i
       ·subst e2;simp[hij,hji]
       ·by_cases e3:j=ib
        ·subst e3;simp[hij,hji,e2];omega
        ·simp[hij,hji,e2,e3]
      ·by_cases e2:i=ib
       ·subst e2
        by_cases e3:j=i
        ·subst e3;simp[hij,hji]
        ·by_cases e4:j=ia
         ·subst e4;simp[hij,hji,e3];omega
         ·simp[hij,hji,e3,e4]
       ·simp[e1,e2]
     generalize Lf (onW (g.Wires.take q) (s.Wires.take q)) p=f at hfe hfb ⊢;have w1:IntKind.i64.wrap (f ia ia+wS)=f ia ia+wS:=f7 (by have:=hfb ia ia;omega) (by have:=hfb ia ia;omega);have w2:IntKind.i64.wrap (f ib ib+wS)=f ib ib+wS:=f7 (by have:=hfb ib ib;omega) (by have:=hfb ib ib;omega);have w3:IntKind.i64.wrap (f ia ib-wS)=f ia ib-wS:=f7 (by have:=hfb ia ib;omega) (by have:=hfb ia ib;omega);have w4:IntKind.i64.wrap (f ib ia-wS)=f ib ia-wS:=f7 (by have:=hfb ib ia;omega) (by have:=hfb ib ia;omega);have e2:a3q f ia ia (f ia ia+wS) ib ib=f ib ib:=by simp[a3q,hji]
     have e3:a3q (a3q f ia ia (f ia ia+wS)) ib ib (f ib ib+wS) ia ib=f ia ib:=by simp[a3q,hij,hji]
     have e4:a3q (a3q (a3q f ia ia (f ia ia+wS)) ib ib (f ib ib+wS)) ia ib (f ia ib-wS) ib ia=f ib ia:=by simp[a3q,hij,hji]
     refine f6 ?_;simp only[zT,reduceIte,Nat.reduceEqDiff];refine hK10 _ _ ?_;refine b6 [0,8,11,12,16,17,56,57,58] (Or.inr (by simp)) ?_;simp only[zP,Nat.reduceEqDiff,reduceIte];refine gS fun K hK=>?_;simp -dsimp [hB1,Nat.add_assoc];refine o4 (_) (fun hm=>rfl) ?_;simp -dsimp [hB1,Nat.add_assoc];apply hK;clear hK K;refine w9 l9 rfl (by decide) rfl rfl fun K hK=>?_;simp -dsimp [lia,lib,Nat.add_assoc,G2 hik,hik,z7 hik,a3r,a0c hik,M1 hik,w1];refine hK _ _ _ (by exact E7 [(0,1),(0,4),(1,4),(2,4),(3,4),(0,7),(1,7),(2,7),(3,7),(4,7),(5,7),(6,7),(0,8),(1,8),(2,8),(3,8),(4,8),(5,8),(6,8)] (by decide+kernel) (by decide+kernel) (by simp[a0l]<;>omega)) ?_;clear hK K;refine w9 l9 rfl (by decide) rfl rfl fun K hK=>?_;simp -dsimp [lia,lib,Nat.add_assoc,G2 hjk,hjk,z7 hjk,a3r,a0c hjk,M1 hjk,e2,w2];refine hK _ _ _ (by exact E7 [(0,1),(0,4),(1,4),(2,4),(3,4),(0,7),(1,7),(2,7),(3,7),(4,7),(5,7),(6,7),(0,8),(1,8),(2,8),(3,8),(4,8),(5,8),(6,8)] (by decide+kernel) (by decide+kernel) (by simp[a0l]<;>omega)) ?_;clear hK K;refine w9 l9 rfl (by decide) rfl rfl fun K hK=>?_;simp -dsimp [lia,lib,Nat.add_assoc,G2 hik,hik,z7 hik,a3r,hjk,a0c hjk,M1 hik,e3,w3];refine hK _ _ _ (by exact E7 [(0,1),(0,4),(1,4),(2,4),(3,4),(0,7),(1,7),(2,7),(3,7),(4,7),(5,7),(6,7),(0,8),(1,8),(2,8),(3,8),(4,8),(5,8),(6,8)] (by decide+kernel) (by decide+kernel) (by simp[a0l]<;>omega)) ?_;clear hK K;refine o8 l9 rfl (by decide) rfl rfl fun K hK=>?_;simp -dsimp [lia,lib,Nat.add_assoc,G2 hjk,hjk,z7 hjk,a3r,hik,a0c hik,M1 hjk,e4,w4];refine hK _ _ _ (by exact E7 [(0,1),(0,4),(1,4),(2,4),(3,4),(0,7),(1,7),(2,7),(3,7),(4,7),(5,7),(6,7),(0,8),(1,8),(2,8),(3,8),(4,8),(5,8),(6,8)] (by decide+kernel) (by decide+kernel) (by simp[a0l]<;>omega)) ?_;clear hK K;simp only[zT,reduceIte,Nat.reduceEqDiff];refine hK9 _ _ ?_;refine b6 [0,8,11,12,56,57,58] (Or.inr (by simp)) ?_;simp only[zP,Nat.reduceEqDiff,reduceIte];refine gR fun K hK=>?_;simp -dsimp [wq];apply hK;clear hK K;simp only[zT,reduceIte,Nat.reduceEqDiff];refine⟨q+1,by omega,by omega,o1 (a4y (F':=[a5d (a5E p 0),some (.els 1 (Q0 3 k k)),some (.els 1 ((rgt us p).map j0))]) [some 0,some 1,some 2] (Lf (onW (g.Wires.take (q+1)) (s.Wires.take (q+1))) p) k k 3 (by simp[C7]) (fun i hi=>by simp) ?_ (by simp) ?_) (by simp)⟩
     ·intro i hi;show m6 (q9 _ k k++_) i=_;rw[z7 hi];rw[←y7 (m:=k) hi,←y7 (m:=k) hi,N4 hfe]
     ·have hro:=Y5 (g:=some 0::some 1::some 2::(List.range k).map fun i=>some (i+3)) (c:=3) (c':=3) (m:=k) (n:=k) (fun i hi=>H7 (gf:=[some 0,some 1,some 2]) hi (by simp));simp[hro]
   ·skip
    try simp at hc2
    have hqe:q=g.Wires.length:=by omega
    have ht1:g.Wires.take q=g.Wires:=List.take_of_length_le (by omega);have ht2:s.Wires.take q=s.Wires:=List.take_of_length_le (by omega);rw[ht1,ht2];refine i6 ?_;simp only[zT,reduceIte,Nat.reduceEqDiff];refine hK7 _ _ ?_;refine b6 [11,12] (Or.inr (by simp)) ?_;simp only[zP,Nat.reduceEqDiff,reduceIte];refine gS fun K hK=>?_;simp -dsimp;apply hK;clear hK K;have hout:∀i,i<k→some (i+3)∉ [some 1,some 2]:=fun i hi=>by simp
    have hro:=Y5 (g:=some 1::some 2::(List.range k).map fun i=>some (i+3)) (c:=3) (c':=2) (m:=k) (n:=k) (fun i hi=>H7 (gf:=[some 1,some 2]) hi (hout i hi));refine j6 ⟨[some 1,some 2]++(List.range k).map fun i=>some (i+3),a7V rfl hout,by simp,?_,by simp,by simp[C2,n6]⟩;refine a9o (F':=[some (.els 1 (Q0 2 k k)),some (.els 1 ((rgt us p).map j0))]) [some 1,some 2] _ k k 3 (fun i hi=>?_) ?_
    ·show m6 (q9 _ k k) i=_;exact y7 hi
    ·simp[hro]
end Go.Cur
end
section
namespace Go.Cur
open Go.AM Go.Proofs
theorem T7 {p:List Nat} {i:Nat} (h:i<p.length):p[i]?=some (p.getD i 0):=by
 rw[List.getD_eq_getElem?_getD,List.getElem?_eq_getElem h];rfl
theorem R0 (f:Nat→Nat→Int) (n:Nat):Sq (b9C f n n) n:=by
 refine⟨by simp[b9C],fun r hr=>?_⟩;obtain⟨i,_,rfl⟩:=List.mem_map.1 hr;simp
theorem b2A {f:Nat→Nat→Int} {n i j:Nat} (hi:i<n) (hj:j<n):mAt (b9C f n n) i j=f i j:=by
 unfold mAt;rw[a9M (a1I hi)];exact J4 (by rw[List.getElem?_map,List.getElem?_range hj];rfl)
theorem a2I {α:Type} (p:List Nat) (f:Nat→α):p.map f=(List.range p.length).map fun i=>f (p.getD i 0):=by
 conv=>lhs;rw[M2 (p:=p)]
 rw[List.map_map];rfl
abbrev eqM (A:Nat→Nat→Int) (p:List Nat):List (List Int):=b9C (fun i j=>A (p.getD i 0) (p.getD j 0)) p.length p.length
theorem b3K (A:Nat→Nat→Int) (p:List Nat):b2I (eqM A p)=D A p:=by
 unfold b2I;rw[(R0 _ _).len,b2X];exact W6 fun i hi k hk=>b2A (List.mem_range.1 hi) (List.mem_range.1 hk)
theorem b1r (A:Nat→Nat→Int) (b:Nat→Int) (p:List Nat) (hp:p.Nodup):b1b (eqM A p) (p.map b)=p.map fun k=>wr (num A b p k):=by
 unfold b1b;rw[(R0 _ _).len,a2I p (fun k=>wr (num A b p k))];refine List.map_congr_left fun k hk=>?_;rw[List.mem_range]at hk;have h1:(b0o (eqM A p) (p.map b) k).length=p.length:=by rw[a1R,(R0 _ _).len]
 have h2:b2I (b0o (eqM A p) (p.map b) k)=num A b p (p.getD k 0):=by
  unfold b2I;rw[h1,a6M hp hk];refine W6 fun i hi j hj=>?_;rw[List.mem_range]at hi hj;rw[b7I (R0 _ _) hi hj,b2A hi hj];have:at0 (p.map b) i=b (p.getD i 0):=J4 (by rw[List.getElem?_map,T7 hi];rfl);rw[this]
 rw[h2]
def a0Z (g:Gr) (fs:List Int) (b:Nat):Fd:=fdI g (at0 fs b)
def Pt (g:Gr) (W:List Wn) (us:Kvs) (p:List Nat) (fs:List Int) (t:Nat):o5:=
 ⟨p,lw W,fun x=>igt us x,List.range t,fun b=>(a0Z g fs b).At.toNat,fun b=>(a0Z g fs b).Siem,fun b=>(a0Z g fs b).Volts⟩
def D7 (a:Nat):Nat→Bool:=fun b=>a.testBit b
section
variable (g:Gr) (W:List Wn) (us:Kvs) (p:List Nat) (fs:List Int)
theorem a4z (t a:Nat) (c:Nat→Int) (i:Nat):(Pt g W us p fs (t+1)).at_ (D7 a) c i=(Pt g W us p fs t).at_ (D7 a) c i+if a.testBit t=true∧(a0Z g fs t).At.toNat=i then c t else 0:=by
 unfold o5.at_;show sm _ (List.range (t+1))=sm _ (List.range t)+_;rw[List.range_succ,G6];show _+((if D7 a t=true∧(Pt g W us p fs (t+1)).p t=i then c t else 0)+0)=_;rw[Int.add_zero];rfl
def Af (t a:Nat):Nat→Nat→Int:=fun i j=>(Pt g W us p fs t).A (D7 a) (p.getD i 0) (p.getD j 0)
def Rf (t a:Nat):Nat→Int:=fun i=>(Pt g W us p fs t).b (D7 a) (p.getD i 0)
def RfL (t a:Nat):List Int:=(List.range p.length).map (Rf g W us p fs t a)
theorem b9w (t a:Nat):(RfL g W us p fs t a).length=p.length:=by simp[RfL]
theorem b9u {t a k:Nat} (h:k<p.length):(RfL g W us p fs t a)[k]?=some (Rf g W us p fs t a k):=by
 unfold RfL;rw[List.getElem?_map,List.getElem?_range h];rfl
theorem c1z (t a:Nat):RfL g W us p fs t a=p.map ((Pt g W us p fs t).b (D7 a)):=by
 rw[a2I p];rfl
theorem b9n (a:Nat):Af g W us p fs 0 a=Lf W p:=by
 funext i j
 unfold Af o5.A Lf;have:(Pt g W us p fs 0).at_ (D7 a) (Pt g W us p fs 0).s (p.getD i 0)=0:=rfl;rw[this];show lw W _ _+_=_
 split<;>omega
theorem b9t (a:Nat):RfL g W us p fs 0 a=rgt us p:=by
 unfold RfL rgt;rw[a2I p fun(k:Nat)=>-igt us k];refine List.map_congr_left fun i _=>?_;unfold Rf o5.b;have:(Pt g W us p fs 0).at_ (D7 a) (fun b=>(Pt g W us p fs 0).s b*(Pt g W us p fs 0).V b) (p.getD i 0)=0:=rfl;rw[this];show-igt us _+0=_;omega
theorem c0H {t a:Nat} (h:a.testBit t=false):Af g W us p fs (t+1) a=Af g W us p fs t a:=by
 funext i j
 unfold Af o5.A;rw[show(Pt g W us p fs (t+1)).s=(Pt g W us p fs t).s from rfl,a4z];simp[h];rfl
theorem c0R {t a:Nat} (h:a.testBit t=false):RfL g W us p fs (t+1) a=RfL g W us p fs t a:=by
 unfold RfL
 congr 1
 funext i
 unfold Rf o5.b;rw[show(fun b=>(Pt g W us p fs (t+1)).s b*(Pt g W us p fs (t+1)).V b)=fun b=>(Pt g W us p fs t).s b*(Pt g W us p fs t).V b from rfl,a4z];simp[h];rfl
theorem c2r {t a k:Nat} (hp:p.Nodup) (h:a.testBit t=true) (hk:k<p.length) (hat:p.getD k 0=(a0Z g fs t).At.toNat):∀i,i<p.length→∀j,j<p.length→a3q (Af g W us p fs t a) k k (Af g W us p fs t a k k+(a0Z g fs t).Siem) i j=Af g W us p fs (t+1) a i j:=by
 intro i hi j hj;unfold a3q;have e:∀i j,(Pt g W us p fs (t+1)).A (D7 a) i j=(Pt g W us p fs t).A (D7 a) i j+if i=j∧(a0Z g fs t).At.toNat=i then(a0Z g fs t).Siem else 0:=by
  intro i j;unfold o5.A;rw[show(Pt g W us p fs (t+1)).s=(Pt g W us p fs t).s from rfl,a4z];show lw W i j+_=lw W i j+_+_
  by_cases hij:i=j
  ·subst hij
   by_cases hx:(a0Z g fs t).At.toNat=i
   ·simp[h,hx];rw[Int.add_assoc];rfl
   ·simp[h,hx]
  ·simp[hij]
 show _=(Pt g W us p fs (t+1)).A (D7 a) (p.getD i 0) (p.getD j 0);rw[e];show(if i=k∧j=k then(Pt g W us p fs t).A (D7 a) (p.getD k 0) (p.getD k 0)+_ else(Pt g W us p fs t).A (D7 a) (p.getD i 0) (p.getD j 0))=_
 by_cases h1:i=k
 ·subst h1
  by_cases h2:j=i
  ·subst h2;rw[if_pos ⟨rfl,rfl⟩,if_pos ⟨rfl,hat.symm⟩]
  ·rw[if_neg (fun e=>h2 e.2),if_neg (fun e=>h2 (O6 hp hj hi e.1.symm)),Int.add_zero]
 ·rw[if_neg (fun e=>h1 e.1),if_neg (fun e=>h1 (O6 hp hi hk (by rw[←e.2,hat]))),Int.add_zero]
theorem c2G {t a k:Nat} (hp:p.Nodup) (h:a.testBit t=true) (hk:k<p.length) (hat:p.getD k 0=(a0Z g fs t).At.toNat):(RfL g W us p fs t a).set k (Rf g W us p fs t a k+(a0Z g fs t).Siem*(a0Z g fs t).Volts)=RfL g W us p fs (t+1) a:=by
 unfold RfL;refine List.ext_getElem? fun i=>?_;have e:∀i,(Pt g W us p fs (t+1)).b (D7 a) i=(Pt g W us p fs t).b (D7 a) i+if (a0Z g fs t).At.toNat=i then(a0Z g fs t).Siem*(a0Z g fs t).Volts else 0:=by
  intro i;unfold o5.b;rw[show(fun b=>(Pt g W us p fs (t+1)).s b*(Pt g W us p fs (t+1)).V b)=fun b=>(Pt g W us p fs t).s b*(Pt g W us p fs t).V b from rfl,a4z];simp only[h,true_and];rw[←Int.add_assoc];rfl
 by_cases hi:i<p.length
 ·rw[List.getElem?_map,List.getElem?_range hi]
  by_cases h1:i=k
  ·subst h1;rw[List.getElem?_set_self (by simpa using hi)];show some (_+_)=some ((Pt g W us p fs (t+1)).b (D7 a) (p.getD i 0));rw[e,if_pos hat.symm];rfl
  ·rw[List.getElem?_set_ne (fun e=>h1 e.symm),List.getElem?_map,List.getElem?_range hi];show some _=some ((Pt g W us p fs (t+1)).b (D7 a) (p.getD i 0));rw[e,if_neg (fun e=>h1 (O6 hp hi hk (by rw[←e,hat]))),Int.add_zero];rfl
 ·rw[List.getElem?_eq_none (by simp;omega),List.getElem?_eq_none (by simp;omega)]
end
end Go.Cur
end
section
namespace Go.Cur
open Go.AM Go.Proofs
theorem b8o (p:List Nat) (k:Nat) (x:Int) (h0:0≤x):((upN p).take k).any (fun y=>decide (x=y))=(p.take k).any fun y=>decide (x.toNat=y):=by
 unfold upN;rw[←List.map_take,List.any_map]
 congr 1
 funext y
 exact decide_eq_decide.2 (by simp;omega)
theorem a3P {p:List Nat} {x:Int} (h0:0≤x) (hx:x.toNat∈p):P1 (upN p) (fun y=>decide (x=y))=((p.idxOf x.toNat:Nat):Int):=by
 have hg:=E3 hx;refine a0q (x:=x) (by have:=E9 hg;rwa [Int.toNat_of_nonneg h0]at this) (by simp) ?_;rw[b8o _ _ _ h0];rw[List.any_eq_false];intro y hy;obtain⟨j,hj⟩:=List.getElem?_of_mem hy;have hjl:=(List.getElem?_eq_some_iff.1 hj).1;rw[List.length_take]at hjl;rw[List.getElem?_take,if_pos (by omega)]at hj;have hlt:j<p.idxOf x.toNat:=by omega
 have hn:=List.not_of_lt_findIdx (p:=(· ==x.toNat)) (xs:=p) hlt
 have hy2:p[j]'(by omega)=y:=(List.getElem?_eq_some_iff.1 hj).2;simp only[decide_eq_true_eq];rintro e;rw[hy2,←e]at hn;simp at hn
theorem b3L (g:Gr) (s:Sta) (p:List Nat) (f:Int) (hp:p.length≤1000) (h0:0≤f) (h1:f<g.Feeds.length) (hA:0≤(fdI g f).At) (hm:(fdI g f).At.toNat∈p):
  d6 Try.prog 86 [I f, .iptr [iL (upN p)], .iptr [net g s]] (I ((p.idxOf (fdI g f).At.toNat:Nat):Int)):=by
 have gf:=a0B h0 h1;have hi:=a4t (upN p) (fdI g f).At (by rw[o9];omega);rw[a3P hA hm]at hi;refine d6.of_body Try.func86 rfl (by decide) (by simp[Try.ntmps86]) ?_;simp only[Try.ntmps86,Try.results86];refine aS fun K hK=>?_;simp -dsimp;apply hK;clear hK K;refine s9 l9 rfl fun K hK=>?_;simp -dsimp [gf,h0];refine d5 _ (hi) (by simp) ?_;simp -dsimp [gf,h0];refine hK _ _ _ (by decide+kernel) ?_;clear hK K;exact g7 (by simp)
def b0X (P:o5) (m a:Nat):Bool:=(List.range m).all fun b=>if a.testBit b then decide (0≤P.V b*P.den (D7 a)-P.num (D7 a) (P.p b))else decide (P.V b*P.den (D7 a)-P.num (D7 a) (P.p b)≤0)
def c2s (V:Nat→Int) (q:Nat→Nat) (nu:Nat→Int) (de:Int) (a b:Nat):Bool:=if a.testBit b then decide (0≤V b*de-nu (q b))else decide (V b*de-nu (q b)≤0)
theorem b8w (P:o5) (m a:Nat):b0X P m a=(List.range m).all (c2s P.V P.p (P.num (D7 a)) (P.den (D7 a)) a):=rfl
theorem b4R (f:Nat→Bool) (b:Nat):(List.range (b+1)).all f=((List.range b).all f&&f b):=by rw[List.range_succ,List.all_append];simp
def a3V (n:Nat):List Int:=List.replicate n 0
def A5 (us:Kvs) (p:List Nat):Int:=sm (fun x=>igt us x) p
def O8 (us:Kvs) (p:List Nat):Bool:=p.all fun(x:Nat)=>igt us x==0
theorem a2P {us:Kvs} {p:List Nat} {k x:Nat} (h:p[k]?=some x):A5 us (p.take (k+1))=A5 us (p.take k)+igt us x:=by
 unfold A5;rw[List.take_add_one,h,G6];show _+(igt us x+0)=_;omega
theorem b0u {us:Kvs} {p:List Nat} {k x:Nat} (h:p[k]?=some x):O8 us (p.take (k+1))=(O8 us (p.take k)&&(igt us x==0)):=by
 unfold O8;rw[List.take_add_one,h,List.all_append];simp
theorem a2O {us:Kvs} (hus:∀x,-40≤igt us x∧igt us x≤40):∀p:List Nat,-40*(p.length:Int)≤A5 us p∧A5 us p≤40*(p.length:Int)
 |[]=>by simp[A5,sm]
 |x::p=>by
  have h1:=hus x;have h2:=a2O hus p;unfold A5 at h2 ⊢;rw[sm,List.length_cons];omega
def D6 (x0:Int) (xs:List Int):Int:=xs.foldl a4E x0
structure o7 (g:Gr) (s:Sta):Prop where
 gr:grB g=true
 sf:s.Feeds.length=g.Feeds.length
 sw:s.Wires.length=g.Wires.length
structure b6E (g:Gr) (s:Sta) (p:List Nat):Prop where
 n1:1≤p.length
 n10:p.length≤10
 nd:p.Nodup
 cl:∀w∈onW g.Wires s.Wires,w.a∈p↔w.b∈p
theorem o7.wires {g:Gr} {s:Sta} (h:o7 g s):∀w∈g.Wires,wrB g w=true:=by
 have h1:=h.gr;simp only[grB,Bool.and_eq_true]at h1;have key:∀k,a7D g k=true→∀i,i<k→∀w,g.Wires[i]?=some w→wrB g w=true:=by
  intro k
  induction k with
  |zero=>intro _ i hi;omega
  |succ k ih=>
   intro hk i hi w hw;simp only[a7D,Bool.and_eq_true]at hk
   rcases Nat.lt_succ_iff_lt_or_eq.1 hi with h|h
   ·exact ih hk.1 i h w hw
   ·subst h;have:=hk.2;rw[hw]at this;simp only[Bool.and_eq_true]at this;exact this.1
 intro w hw;obtain⟨i,hi⟩:=List.getElem?_of_mem hw;exact key _ h1.1.2 i (List.getElem?_eq_some_iff.1 hi).1 w hi
theorem o7.feeds {g:Gr} {s:Sta} (h:o7 g s):∀f∈g.Feeds,0≤f.At∧f.At<g.Nodes∧1≤f.Volts∧f.Volts≤1000∧1≤f.Siem∧f.Siem≤4∧0≤f.Limit∧f.Limit≤2000:=by
 have h1:=h.gr;simp only[grB,Bool.and_eq_true]at h1;have key:∀k,a7C g k=true→∀i,i<k→∀f,g.Feeds[i]?=some f→inr f.At 0 (g.Nodes-1)=true∧inr f.Volts 1 1000=true∧inr f.Siem 1 4=true∧inr f.Limit 0 2000=true:=by
  intro k
  induction k with
  |zero=>intro _ i hi;omega
  |succ k ih=>
   intro hk i hi w hw;simp only[a7C,Bool.and_eq_true]at hk
   rcases Nat.lt_succ_iff_lt_or_eq.1 hi with h|h
   ·exact ih hk.1 i h w hw
   ·subst h;have:=hk.2;rw[hw]at this;simp only[fdB,Bool.and_eq_true]at this;exact⟨this.1.1.1.1,this.1.1.1.2,this.1.1.2,this.1.2⟩
 intro f hf;obtain⟨i,hi⟩:=List.getElem?_of_mem hf;have:=key _ h1.2 i (List.getElem?_eq_some_iff.1 hi).1 f hi;simp only[t4]at this;omega
theorem H6 {g:Gr} {s:Sta} {p:List Nat} {f:Int} (h:f∈k8 g s (upN p)):0≤f∧f<g.Feeds.length∧(fdI g f).At.toNat∈p∧bAt s.Feeds f.toNat=true:=by
 unfold k8 at h;rw[List.mem_filter,a8D]at h;obtain⟨⟨h0,h1⟩,h2⟩:=h;simp only[a3e,Bool.and_eq_true,decide_eq_true_eq]at h2;exact⟨h0,h1,(V5.1 h2.2).2,h2.1⟩
theorem C9 {g:Gr} {s:Sta} {p:List Nat} {fs:List Int} (hnt:o7 g s) (hfs:fs=k8 g s (upN p)) {b:Nat} (hb:b<fs.length):
  fs[b]?=some (at0 fs b)∧0≤at0 fs b∧at0 fs b<g.Feeds.length∧g.Feeds[(at0 fs b).toNat]?=some (fdI g (at0 fs b))∧0≤(fdI g (at0 fs b)).At∧(fdI g (at0 fs b)).At.toNat∈p∧1≤(fdI g (at0 fs b)).Volts∧(fdI g (at0 fs b)).Volts≤1000∧1≤(fdI g (at0 fs b)).Siem∧(fdI g (at0 fs b)).Siem≤4:=by
 have h1:=C3 hb;have hm:=H6 (by rw[←hfs];exact List.mem_of_getElem? h1);have h2:=a0B hm.1 hm.2.1;have h3:=hnt.feeds _ (List.mem_of_getElem? h2);exact⟨h1,hm.1,hm.2.1,h2,h3.1,hm.2.2.1,h3.2.2.1,h3.2.2.2.1,h3.2.2.2.2.1,h3.2.2.2.2.2.1⟩
theorem a7u {x0:Int} {xs:List Int} {b:Nat} {x:Int} (h:xs[b]?=some x):D6 x0 (xs.take (b+1))=a4E (D6 x0 (xs.take b)) x:=by
 unfold D6;rw[List.take_add_one,h,List.foldl_append];rfl
theorem b9I {x y B:Int} (h1:-B≤x∧x≤B) (h2:-B≤y∧y≤B):-B≤a4E x y∧a4E x y≤B:=by
 unfold a4E;split<;>omega
theorem a0h {B:Int}:∀(xs:List Int) (x0:Int),(-B≤x0∧x0≤B)→(∀x∈xs,-B≤x∧x≤B)→ -B≤D6 x0 xs∧D6 x0 xs≤B
 |[],x0,h,_=>h
 |x::xs,x0,h,hx=>by
  unfold D6;rw[List.foldl_cons];exact a0h xs _ (b9I h (hx x (by simp))) fun y hy=>hx y (by simp[hy])
def shl (nl:List Int) (sh:Int) (i:Nat):List Int:=(nl.take i).map (fun x=>x+sh)++nl.drop i
theorem b9l (nl:List Int) (sh:Int) (i:Nat):(shl nl sh i).length=nl.length:=by
 unfold shl;simp only[List.length_append,List.length_map,List.length_take,List.length_drop];omega
theorem b9p {nl:List Int} {sh:Int} {i:Nat} {x:Int} (h:nl[i]?=some x):(shl nl sh i)[i]?=some x:=by
 have hi:=(List.getElem?_eq_some_iff.1 h).1;unfold shl;rw[List.getElem?_append_right (by simp;omega)];simp only[List.length_map,List.length_take,Nat.min_eq_left (Nat.le_of_lt hi),Nat.sub_self,List.getElem?_drop,Nat.add_zero];exact h
theorem b8Z {nl:List Int} {sh:Int} {i:Nat} {x:Int} (h:nl[i]?=some x):(shl nl sh i).set i (x+sh)=shl nl sh (i+1):=by
 obtain⟨hi,hx⟩:=List.getElem?_eq_some_iff.1 h;have hl:((nl.take i).map fun x=>x+sh).length=i:=by simp;omega
 have hd:nl.drop i=x::nl.drop (i+1):=by rw[List.drop_eq_getElem_cons hi,hx]
 unfold shl;rw[List.set_append,if_neg (by omega),hl,Nat.sub_self,hd,List.set_cons_zero,List.take_add_one,h];simp
theorem b5Q (nl:List Int) (sh:Int):shl nl sh 0=nl:=by simp[shl]
theorem b7P {nl:List Int} {sh:Int} {n:Nat} (h:nl.length=n):shl nl sh n=nl.map fun x=>x+sh:=by
 unfold shl;rw[List.take_of_length_le (by omega),List.drop_of_length_le (by omega),List.append_nil]
def Sml (P:o5) (S:Nat→Bool):Prop:=(∀k,-1000000000000000≤P.num S k∧P.num S k≤1000000000000000)∧0<P.den S∧P.den S≤100000000000000
def c1U (P:o5) (i0:Nat):Prop:=(∀k,-1000000000000000≤P.num0 i0 k∧P.num0 i0 k≤1000000000000000)∧0<P.den0 i0∧P.den0 i0≤100000000000000
theorem a8m (H:Nat→Option l7) {r:Nat} (hr:2≤r):Hxn H [some 0,some 1] r=H r:=by
 unfold Hxn;have:l4 [some 0,some 1] r=none:=by
  unfold l4;rw[List.findIdx?_eq_none_iff];intro x hx;simp only[List.mem_cons,List.not_mem_nil,or_false]at hx
  rcases hx with rfl|rfl<;>simp<;>omega
 rw[this]
theorem b3N {H:Nat→Option l7} {r n:Nat} {l:List Int} (hr:H r=some (.els 1 (l.map j0))) (hl:l.length=n) (h1:1≤n):frz H 3 (.row r 0 n)=iL l:=by
 have hp:y6 (l.map j0)=true:=by simp
 simp only[frz,hr];rw[if_pos (by simp;omega),if_pos hp,List.drop_zero,List.take_of_length_le (by simp;omega)]
theorem c0X (x y z:Option l7) (M:Hp) (l bl:List Int) {n:Nat} (h:l.set 0 0=bl) (hl:bl.length=n) (h1:1≤n):frz (Hxn (m6 (x::y::z::some (.els 1 ((l.map j0).set 0 [I 0]))::M)) [some 0,some 1]) 3 (.row 3 0 n)=iL bl:=by
 refine b3N (l:=bl) ?_ hl h1;rw[a8m _ (by omega)];show some (l7.els 1 ((l.map j0).set 0 [I 0]))=_;rw[←h,List.map_set];rfl
theorem b9x (W:List Wn) (u:Nat→Int) (p:List Nat) (fs:List Nat) (q:Nat→Nat) (s V:Nat→Int) (x y R:Option l7) (i0:Nat) (hi0:p.getD 0 0=i0) (h1:1≤p.length) (hnd:p.Nodup):
  frz (Hxn (m6 (x::y::some (.els 1 ((Q0 4 p.length p.length).set 0 [.row (p.length+4) 0 p.length]))::R::(q9 (Lf W p) p.length p.length++[some (.els 1 ((List.replicate p.length [I 0]).set 0 [I 1]))]))) [some 0,some 1]) 3 (.row 2 0 p.length)
   =mL (eqM ((⟨p,lw W,u,fs,q,s,V⟩:o5).A0 i0) p):=by
 refine a8R (es:=(Q0 4 p.length p.length).set 0 [.row (p.length+4) 0 p.length]) h1 ?_ (by simp) (R0 _ _).len fun i hi=>?_
 ·rw[a8m _ (by omega)];rfl
 ·by_cases h0:i=0
  ·subst h0;refine⟨p.length+4,_,by rw[List.getElem?_set_self (by simpa using hi)],a1I hi,?_,by simp⟩;rw[a8m _ (by omega)];show m6 (q9 (Lf W p) p.length p.length++_) p.length=_;rw[a1Z];show some (l7.els 1 _)=some (l7.els 1 _)
   congr 2
   refine List.ext_getElem? fun j=>?_
   by_cases hj:j<p.length
   ·rw[List.getElem?_map,List.getElem?_map,List.getElem?_range hj]
    by_cases hj0:j=0
    ·subst hj0;rw[List.getElem?_set_self (by simpa using hj)];have hA:(⟨p,lw W,u,fs,q,s,V⟩:o5).A0 i0 (p.getD 0 0) (p.getD 0 0)=1:=by
      unfold o5.A0;rw[if_pos hi0,if_pos hi0]
     simp only[Option.map_some,hA]
    ·have hne:p.getD j 0≠p.getD 0 0:=fun e=>hj0 (O6 hnd hj hi e);have hA:(⟨p,lw W,u,fs,q,s,V⟩:o5).A0 i0 (p.getD 0 0) (p.getD j 0)=0:=by
      unfold o5.A0;rw[if_pos hi0,if_neg (by rw[←hi0];exact hne)]
     rw[List.getElem?_set_ne (fun e=>hj0 e.symm),List.getElem?_replicate,if_pos hj];simp only[Option.map_some,hA]
   ·rw[List.getElem?_eq_none (by simp;omega),List.getElem?_eq_none (by simp;omega)]
  ·refine⟨i+4,_,by rw[List.getElem?_set_ne (fun e=>h0 e.symm),G2 hi],a1I hi,?_,by simp⟩;rw[a8m _ (by omega)];show m6 (q9 (Lf W p) p.length p.length++_) i=_;rw[z7 hi];unfold a3r;rw[List.map_map]
   congr 2
   refine List.map_congr_left fun j _=>?_;have hne:p.getD i 0≠i0:=fun e=>h0 (O6 hnd hi (by omega) (e.trans hi0.symm));show [I (lw W (p.getD i 0) (p.getD j 0))]=[I _];have hA:(⟨p,lw W,u,fs,q,s,V⟩:o5).A0 i0 (p.getD i 0) (p.getD j 0)=lw W (p.getD i 0) (p.getD j 0):=by
    unfold o5.A0;rw[if_neg hne]
   simp only[hA]
theorem c0k (us:Kvs) (p:List Nat) (L:Nat→Nat→Int) (fs:List Nat) (q:Nat→Nat) (s V:Nat→Int) (i0:Nat) (hi0:p.getD 0 0=i0) (h1:1≤p.length) (hnd:p.Nodup):
  (rgt us p).set 0 0=p.map ((⟨p,L,fun x=>igt us x,fs,q,s,V⟩:o5).b0 i0):=by
 refine List.ext_getElem? fun i=>?_
 by_cases hi:i<p.length
 ·rw[List.getElem?_map,T7 hi]
  by_cases h0:i=0
  ·subst h0;rw[List.getElem?_set_self (by simpa [rgt]using hi)];simp only[Option.map_some];unfold o5.b0;rw[if_pos hi0]
  ·have hne:p.getD i 0≠i0:=fun e=>h0 (O6 hnd hi (by omega) (e.trans hi0.symm));rw[List.getElem?_set_ne (fun e=>h0 e.symm)];unfold rgt;rw[List.getElem?_map,T7 hi];simp only[Option.map_some];unfold o5.b0;rw[if_neg hne]
 ·rw[List.getElem?_eq_none (by simp[rgt];omega),List.getElem?_eq_none (by simp;omega)]
theorem b9J {P:o5} {S:Nat→Bool} {c:Nat→Int} {C:Int} {i:Nat} (hC:0≤C) (h:∀b∈P.fs,0≤c b∧c b≤C):0≤P.at_ S c i∧P.at_ S c i≤C*P.fs.length:=by
 unfold o5.at_;generalize P.fs=l at h ⊢
 induction l with
 |nil=>simp[sm]
 |cons b l ih=>
  have h1:=h b (by simp);have h2:=ih fun b hb=>h b (by simp[hb]);rw[sm,List.length_cons,Int.natCast_add,Int.mul_add]
  split<;>omega
theorem c1r (f:Nat→Nat→Int) (x y R:Option l7) {n:Nat} (h1:1≤n):frz (Hxn (m6 (x::y::some (.els 1 (Q0 4 n n))::R::q9 f n n)) [some 0,some 1]) 3 (.row 2 0 n)=mL (b9C f n n):=by
 refine a8R (es:=Q0 4 n n) h1 ?_ (by simp) (R0 _ _).len fun i hi=>?_
 ·rw[a8m _ (by omega)];rfl
 ·refine⟨i+4,_,G2 hi,a1I hi,?_,by simp⟩;rw[a8m _ (by omega)];show m6 (q9 f n n) i=_;rw[y7 hi];unfold a3r;rw[List.map_map];rfl
theorem c2Q (x y z:Option l7) (M:Hp) (bl:List Int) {n:Nat} (hl:bl.length=n) (h1:1≤n):frz (Hxn (m6 (x::y::z::some (.els 1 (bl.map j0))::M)) [some 0,some 1]) 3 (.row 3 0 n)=iL bl:=by
 refine b3N (l:=bl) ?_ hl h1;rw[a8m _ (by omega)];rfl
theorem b8M (g:Gr) (s:Sta) (p:List Nat) (us:Kvs) (fs:List Int) (hfs:fs=k8 g s (upN p)) (hnt:o7 g s) (hpt:b6E g s p) (hI:a1i us) (hus:∀x,-40≤igt us x∧igt us x≤40) (v:List Int) (d:Int) (ok:Bool) (i0:Nat) (hi0:p.getD 0 0=i0)
  (q0:fs=[]→v=a3V p.length∧d=1∧ok=O8 us p)
  (q1:fs≠[]→A5 us p<0→v=[]∧d=0∧ok=false)
  (q2:fs≠[]→A5 us p=0→c1U (Pt g (onW g.Wires s.Wires) us p fs fs.length) i0∧d=(Pt g (onW g.Wires s.Wires) us p fs fs.length).den0 i0∧ok=true∧
   v=p.map fun k=>(Pt g (onW g.Wires s.Wires) us p fs fs.length).num0 i0 k+D6 ((Pt g (onW g.Wires s.Wires) us p fs fs.length).V 0*(Pt g (onW g.Wires s.Wires) us p fs fs.length).den0 i0-(Pt g (onW g.Wires s.Wires) us p fs fs.length).num0 i0 ((Pt g (onW g.Wires s.Wires) us p fs fs.length).p 0)) ((List.range fs.length).map fun b=>(Pt g (onW g.Wires s.Wires) us p fs fs.length).V b*(Pt g (onW g.Wires s.Wires) us p fs fs.length).den0 i0-(Pt g (onW g.Wires s.Wires) us p fs fs.length).num0 i0 ((Pt g (onW g.Wires s.Wires) us p fs fs.length).p b)))
  (q3:fs≠[]→0<A5 us p→(∀a,1≤a→a<2^fs.length→Sml (Pt g (onW g.Wires s.Wires) us p fs fs.length) (D7 a))∧ok=true∧∃a0,1≤a0∧a0<2^fs.length∧b0X (Pt g (onW g.Wires s.Wires) us p fs fs.length) fs.length a0=true∧(∀a,1≤a→a<a0→b0X (Pt g (onW g.Wires s.Wires) us p fs fs.length) fs.length a=false)∧
   d=(Pt g (onW g.Wires s.Wires) us p fs fs.length).den (D7 a0)∧v=p.map fun k=>(Pt g (onW g.Wires s.Wires) us p fs fs.length).num (D7 a0) k):
  d6 Try.prog 69 [net g s,iL (upN p), .mpc false [.i .i64] us] (.tup [iL v,I d,Bo ok]):=by
 have hpl:=o9 p;have hb:=t9 hnt.gr;have hn10:=hpt.n10;have hfd:=a4V g s (upN p) hnt.sf (by omega) (by omega);rw[←hfs]at hfd;have hfm:∀f∈fs,0≤f∧f<g.Feeds.length∧(fdI g f).At.toNat∈p∧bAt s.Feeds f.toNat=true:=fun f hf=>H6 (by rw[←hfs];exact hf);have hfl:fs.length≤12:=by
  have:=List.length_filter_le (a3e g s (upN p)) (upI g.Feeds.length);rw[M9]at this;rw[hfs];unfold k8;omega
 have heq:=a7m g s p us p.length rfl hpt.n1 hpt.n10 hpt.nd hI hus hnt.sw hb.2.2.1 hnt.wires hpt.cl;refine d6.of_bodyG Try.func69 rfl (by decide) (by simp[Try.ntmps69]) ?_;intro J hJ;simp only[Try.ntmps69,Try.results69];refine gS fun K hK=>?_;simp -dsimp;apply hK;clear hK K;refine gS fun K hK=>?_;simp -dsimp;apply hK;clear hK K;refine b9 fun K1 hK1=>?_;refine gS fun K hK=>?_;simp -dsimp;apply hK;clear hK K;refine d7 ?_;refine b6 [2,3,4,9,10,36,37,38] (Or.inr (by simp)) ?_;simp only[zP,Nat.reduceEqDiff,reduceIte];refine g9 [2,3,4,36,37] (α:=Nat) (fun k=>[(9,I (A5 us (p.take k))),(10,Bo (O8 us (p.take k))),(38,I k)]) (fun k=>[some (.els 1 [[net g s]]),some (.els 1 [[iL (upN p)]])]) (fun k=>k≤p.length) (fun k=>p.length-k) 0 ?_ ?_ ?_
 ·exact Nat.zero_le _
 ·exact o1 (j9 (by simp[A5,O8,sm])) (by simp)
 rintro k k1;simp only[zP,Nat.reduceEqDiff,reduceIte];refine gS fun K hK=>?_;simp -dsimp;apply hK;clear hK K;refine b9 fun K2 hK2=>?_;refine d9 rfl (fun hc0=>?_) (fun hc0=>?_)
 ·skip
  try simp at hc0
  have hkn:k<p.length:=by rw[←hpl];simpa using hc0
  obtain⟨x,hx⟩:∃x,p[k]?=some x:=⟨_,List.getElem?_eq_getElem hkn⟩;have gx:=E9 hx;have wk:=zW k (by omega);have hbd:=a2O hus (p.take k);have htl:(p.take k).length=k:=by rw[List.length_take];omega
  rw[htl]at hbd;have ws:IntKind.i64.wrap (A5 us (p.take k)+igt us x)=A5 us (p.take k)+igt us x:=f7 (by have:=hus x;omega) (by have:=hus x;omega);refine f6 ?_;simp only[zT,reduceIte,Nat.reduceEqDiff];refine hK2 _ _ ?_;refine b6 [2,3,4,9,10,36,37,38] (Or.inr (by simp)) ?_;simp only[zP,Nat.reduceEqDiff,reduceIte];refine b9 fun K3 hK3=>?_;refine d7 ?_;refine gS fun K hK=>?_;simp -dsimp [gx];apply hK;clear hK K;refine gS fun K hK=>?_;simp -dsimp [p7 hI,ws];refine o4 (_) (fun hm=>rfl) ?_;simp -dsimp [p7 hI,ws];apply hK;clear hK K;refine gR fun K hK=>?_;simp -dsimp [p7 hI];refine o4 (_) (fun hm=>rfl) ?_;simp -dsimp [p7 hI];apply hK;clear hK K;simp only[zT,reduceIte,Nat.reduceEqDiff];refine hK3 _ _ ?_;refine b6 [2,3,4,9,10,36,37,38] (Or.inr (by simp)) ?_;simp only[zP,Nat.reduceEqDiff,reduceIte];refine gR fun K hK=>?_;simp -dsimp [wk];apply hK;clear hK K;simp only[zT,reduceIte,Nat.reduceEqDiff];exact⟨k+1,by omega,by omega,o1 (e9 [some 0,some 1] rfl (by simp[a2P hx,b0u hx]) (by simp)) (by simp)⟩
 ·skip
  try simp at hc0
  have hkp:¬k<p.length:=by rw[←hpl];simpa using hc0
  have htp:p.take k=p:=List.take_of_length_le (by omega);rw[htp];refine i6 ?_;simp only[zT,reduceIte,Nat.reduceEqDiff];refine hK1 _ _ ?_;refine b6 [2,3,4,9,10] (Or.inr (by simp)) ?_;simp only[zP,Nat.reduceEqDiff,reduceIte];refine gS fun K hK=>?_;simp -dsimp;refine b0n _ (fun hm=>hfd) ?_;simp -dsimp;apply hK;clear hK K;refine gS fun K hK=>?_;simp -dsimp;apply hK;clear hK K;refine b9 fun K4 hK4=>?_;refine d7 ?_;refine gS fun K hK=>?_;simp -dsimp;apply hK;clear hK K;refine d9 rfl (fun hc1=>?_) (fun hc1=>?_)
  ·skip
   try simp at hc1
   have hf0:fs=[]:=hc1;have f9:I9 (upN p).length 9:=m8 (by omega) (by omega);obtain⟨e1,e2,e3⟩:=q0 hf0;refine gS fun K hK=>?_;simp -dsimp [f9];apply hK;clear hK K;exact j6 (by simp[e1,e2,e3,a3V,hpl,C2,n6])
  ·skip
   try simp at hc1
   have hf0:fs≠[]:=by rintro rfl;simp at hc1
   have hml:1≤fs.length:=by cases fs with|nil=>exact absurd rfl hf0|cons a l=>simp
   refine gS fun K hK=>?_;simp -dsimp;apply hK;clear hK K;refine d9 rfl (fun hc2=>?_) (fun hc2=>?_)
   ·skip
    try simp at hc2
    obtain⟨e1,e2,e3⟩:=q1 hf0 hc2;refine gS fun K hK=>?_;simp -dsimp;apply hK;clear hK K;refine p9 (o1 (H4 6 1 (by simp)) (by simp)) ?_;exact j6 (by simp[e1,e2,e3,C2,n6])
   ·skip
    try simp at hc2
    refine gS fun K hK=>?_;simp -dsimp;apply hK;clear hK K;refine d9 rfl (fun hc3=>?_) (fun hc3=>?_)
    ·skip
     try simp at hc3
     obtain⟨⟨z1,z2,z3⟩,e2,e3,e1⟩:=q2 hf0 (by simpa using hc3);have hp0:0<p.length:=by have:=hpt.n1;omega
     have f9:I9 p.length 9:=m8 (by omega) (by omega);have gr0:(rgt us p)[0]?=some (-igt us (p.getD 0 0)):=by unfold rgt;rw[List.getElem?_map,T7 hp0];rfl
     have hsol:=a9x (eqM ((Pt g (onW g.Wires s.Wires) us p fs fs.length).A0 i0) p) (p.map ((Pt g (onW g.Wires s.Wires) us p fs fs.length).b0 i0)) p.length (R0 _ _) hpt.n1 hpt.n10 (by simp);have hv0:(p.map fun k=>wr (num ((Pt g (onW g.Wires s.Wires) us p fs fs.length).A0 i0) ((Pt g (onW g.Wires s.Wires) us p fs fs.length).b0 i0) p k))=p.map fun k=>(Pt g (onW g.Wires s.Wires) us p fs fs.length).num0 i0 k:=List.map_congr_left fun k _=>b6i (by have:=z1 k;unfold o5.num0 at this;show _≤Cur.num _ _ (Pt g (onW g.Wires s.Wires) us p fs fs.length).ns k;omega) (by have:=z1 k;unfold o5.num0 at this;show Cur.num _ _ (Pt g (onW g.Wires s.Wires) us p fs fs.length).ns k≤_;omega);have hd0:wr (D ((Pt g (onW g.Wires s.Wires) us p fs fs.length).A0 i0) p)=(Pt g (onW g.Wires s.Wires) us p fs fs.length).den0 i0:=b6i (by unfold o5.den0 at z2;show _≤D _ (Pt g (onW g.Wires s.Wires) us p fs fs.length).ns;omega) (by unfold o5.den0 at z3;show D _ (Pt g (onW g.Wires s.Wires) us p fs fs.length).ns≤_;omega);rw[b1r _ _ _ hpt.nd,b3K,hv0,hd0]at hsol;have hbl:=c0k us p (lw (onW g.Wires s.Wires)) (List.range fs.length) (fun b=>(a0Z g fs b).At.toNat) (fun b=>(a0Z g fs b).Siem) (fun b=>(a0Z g fs b).Volts) i0 hi0 hpt.n1 hpt.nd;obtain⟨bl,hbl2⟩:∃bl,bl=p.map ((Pt g (onW g.Wires s.Wires) us p fs fs.length).b0 i0):=⟨_,rfl⟩;obtain⟨M,hM⟩:∃M,M=eqM ((Pt g (onW g.Wires s.Wires) us p fs fs.length).A0 i0) p:=⟨_,rfl⟩;have hbl3:(rgt us p).set 0 0=bl:=by rw[hbl2];exact hbl
     rw[←hbl2,←hM]at hsol;have hzl:∀k x,p[k]?=some x→(p.map fun k=>(Pt g (onW g.Wires s.Wires) us p fs fs.length).num0 i0 k)[k]?=some ((Pt g (onW g.Wires s.Wires) us p fs fs.length).num0 i0 x):=fun k x h=>by rw[List.getElem?_map,h];rfl
     obtain⟨nu,hnu⟩:∃nu,nu=fun k=>(Pt g (onW g.Wires s.Wires) us p fs fs.length).num0 i0 k:=⟨_,rfl⟩;rw[←hnu]at hsol hzl;obtain⟨nl,hnl⟩:∃nl,nl=p.map nu:=⟨_,rfl⟩;rw[←hnl]at hsol hzl;have hfa:=fun b (hb:b<fs.length)=>C9 hnt hfs hb;obtain⟨d0,hd00⟩:∃d0,d0=(Pt g (onW g.Wires s.Wires) us p fs fs.length).den0 i0:=⟨_,rfl⟩;rw[←hd00]at hsol z2 z3 e2 e1;have hnk:∀k,(Pt g (onW g.Wires s.Wires) us p fs fs.length).num0 i0 k=nu k:=fun k=>by rw[hnu]
     simp only[hnk]at e1 z1 hzl;have hnb:∀k,-1000000000000000≤nu k∧nu k≤1000000000000000:=z1;have hPV:∀(b:Nat),(Pt g (onW g.Wires s.Wires) us p fs fs.length).V b=(fdI g (at0 fs b)).Volts:=fun b=>rfl;have hPp:∀(b:Nat),(Pt g (onW g.Wires s.Wires) us p fs fs.length).p b=(fdI g (at0 fs b)).At.toNat:=fun b=>rfl;simp only[hPV,hPp]at e1;have hvd:∀(b:Nat),b<fs.length→ -100000000000000000≤(fdI g (at0 fs b)).Volts*d0∧(fdI g (at0 fs b)).Volts*d0≤100000000000000000:=fun b hb=>by
      have h:=hfa b hb;have h1:=Int.mul_nonneg (show 0≤(fdI g (at0 fs b)).Volts by omega) (show 0≤d0 by omega);have h2:=Int.mul_le_mul h.2.2.2.2.2.2.2.1 z3 (by omega) (by omega);omega
     have hw1:∀(b:Nat),b<fs.length→IntKind.i64.wrap ((fdI g (at0 fs b)).Volts*d0)=(fdI g (at0 fs b)).Volts*d0:=fun b hb=>f7 (by have:=hvd b hb;omega) (by have:=hvd b hb;omega);have hw2:∀(b:Nat),b<fs.length→IntKind.i64.wrap ((fdI g (at0 fs b)).Volts*d0-nu (fdI g (at0 fs b)).At.toNat)=(fdI g (at0 fs b)).Volts*d0-nu (fdI g (at0 fs b)).At.toNat:=fun b hb=>f7 (by have:=hvd b hb;have:=hnb (fdI g (at0 fs b)).At.toNat;omega) (by have:=hvd b hb;have:=hnb (fdI g (at0 fs b)).At.toNat;omega);have hwh:=fun b (hb:b<fs.length)=>b3L g s p (at0 fs b) (by omega) (hfa b hb).2.1 (hfa b hb).2.2.1 (hfa b hb).2.2.2.2.1 (hfa b hb).2.2.2.2.2.1;have hzp:=fun b (hb:b<fs.length)=>hzl _ _ (E3 (hfa b hb).2.2.2.2.2.1);have hpi:=fun b (hb:b<fs.length)=>List.idxOf_lt_length_of_mem (hfa b hb).2.2.2.2.2.1;have hnll:nl.length=p.length:=by rw[hnl];simp
     clear hnk hnu hd00;have a0:=hfa 0 hml;have a1:=hw1 0 hml;have a2:=hw2 0 hml;have a3:=hpi 0 hml;have a4:=hzp 0 hml;have a5:=hwh 0 hml;simp only[Int.natCast_zero]at a0 a1 a2 a3 a4 a5;obtain⟨xs,hxs⟩:∃xs:List Int,xs=(List.range fs.length).map fun(b:Nat)=>(fdI g (at0 fs b)).Volts*d0-nu (fdI g (at0 fs b)).At.toNat:=⟨_,rfl⟩;obtain⟨x0,hx0⟩:∃x0,x0=(fdI g (at0 fs 0)).Volts*d0-nu (fdI g (at0 fs 0)).At.toNat:=⟨_,rfl⟩;rw[←hxs]at e1;have hx0':(fdI g (at0 fs ((0:Nat):Int))).Volts*d0-nu (fdI g (at0 fs ((0:Nat):Int))).At.toNat=x0:=hx0.symm;have hxg:∀(b:Nat),b<fs.length→xs[b]?=some ((fdI g (at0 fs b)).Volts*d0-nu (fdI g (at0 fs b)).At.toNat):=fun b hb=>by rw[hxs,List.getElem?_map,List.getElem?_range hb];rfl
     have hxb:∀x∈xs,-200000000000000000≤x∧x≤200000000000000000:=fun x hx=>by
      rw[hxs]at hx;obtain⟨b,hb,rfl⟩:=List.mem_map.1 hx;have:=hvd b (List.mem_range.1 hb);have:=hnb (fdI g (at0 fs b)).At.toNat;omega
     have hx0b:-200000000000000000≤x0∧x0≤200000000000000000:=by rw[hx0];have:=hvd 0 hml;have:=hnb (fdI g (at0 fs 0)).At.toNat;simp only[Int.natCast_zero]at*;omega
     have hxl:xs.length=fs.length:=by rw[hxs];simp
     refine gS fun K hK=>?_;simp -dsimp;refine a6A heq (by simp) (fun g=>by simp) ?_;simp -dsimp;apply hK;clear hK K;refine gS fun K hK=>?_;simp -dsimp [f9,hp0,G2 hp0,gr0,hpl,Nat.add_assoc];apply hK;clear hK K;refine gS fun K hK=>?_;simp -dsimp [hp0,G2 hp0,gr0,hpl,Nat.add_assoc];apply hK;clear hK K;refine p9 (o1 (D5 (T':=[(3, .ptr 0 0 0),(4, .ptr 1 0 0),(13,iL fs),(14, .clo 86 [.ptr 1 0 0, .ptr 0 0 0]),(15,mL M),(16,iL bl)]) (H':=[some (.els 1 [[net g s]]),some (.els 1 [[iL (upN p)]])]) [some 0,some 1] rfl ⟨.inr (by simp), .inr (by simp), .inr (by simp), .inr (by simp), .inr ?_, .inr ?_,trivial⟩ (by simp)) (by simp)) ?_
     ·rw[hM];exact b9x _ _ p _ _ _ _ _ _ _ i0 hi0 hpt.n1 hpt.nd
     ·exact c0X _ _ _ _ (rgt us p) bl hbl3 (by rw[←hbl3];simp[rgt]) hpt.n1
     ·refine gS fun K hK=>?_;simp -dsimp;refine k9 [] [] [none,none,some 0] (hsol) (by decide) rfl (by simp) (by simp) rfl (by simp) ?_;simp -dsimp;apply hK;clear hK K;refine w9 l9 rfl (by decide) rfl rfl fun K hK=>?_;simp -dsimp [a0.1,a0.2.1,a0.2.2.2.1,a1,a2,a3,a4];refine d5 _ (a5) (by simp) ?_;simp -dsimp [a0.1,a0.2.1,a0.2.2.2.1,a1,a2,a3,a4];refine hK _ _ _ (by decide+kernel) ?_;clear hK K;refine b9 fun K5 hK5=>?_;refine gS fun K hK=>?_;simp -dsimp;apply hK;clear hK K;refine d7 ?_;refine b6 [3,14,17,18,19,119,120,121] (Or.inr (by simp)) ?_;simp only[zP,Nat.reduceEqDiff,reduceIte];refine g9 [3,14,17,18,119,120] (α:=Nat) (fun b=>[(19,I (D6 x0 (xs.take b))),(121,I b)]) (fun b=>[some (.els 1 [[net g s]]),some (.els 1 [[iL (upN p)]]),some (.els 1 (nl.map j0))]) (fun b=>b≤fs.length) (fun b=>fs.length-b) 0 ?_ ?_ ?_
      ·exact Nat.zero_le _
      ·refine o1 (e9 [some 0,some 1,some 2] rfl ?_ (by simp)) (by simp);simp[D6,hx0]
      rintro b b1;simp only[zP,Nat.reduceEqDiff,reduceIte];refine gS fun K hK=>?_;simp -dsimp;apply hK;clear hK K;refine b9 fun K6 hK6=>?_;refine d9 rfl (fun hc4=>?_) (fun hc4=>?_)
      ·have hbl:b<fs.length:=by simpa using hc4
       have wb:=zW b (by omega);refine f6 ?_;simp only[zT,reduceIte,Nat.reduceEqDiff];refine hK6 _ _ ?_;refine b6 [3,14,17,18,19,119,120,121] (Or.inr (by simp)) ?_;simp only[zP,Nat.reduceEqDiff,reduceIte];refine b9 fun K7 hK7=>?_;refine d7 ?_;refine gS fun K hK=>?_;simp -dsimp [(hfa b hbl).1];apply hK;clear hK K;refine o8 l9 rfl (by decide) rfl rfl fun K hK=>?_;simp -dsimp [(hfa b hbl).1,(hfa b hbl).2.1,(hfa b hbl).2.2.2.1,hw1 b hbl,hw2 b hbl,hpi b hbl,hzp b hbl];refine d5 _ (hwh b hbl) (by simp) ?_;simp -dsimp [(hfa b hbl).1,(hfa b hbl).2.1,(hfa b hbl).2.2.2.1,hw1 b hbl,hw2 b hbl,hpi b hbl,hzp b hbl];refine hK _ _ _ (by decide+kernel) ?_;clear hK K;simp only[zT,reduceIte,Nat.reduceEqDiff];refine hK7 _ _ ?_;refine b6 [3,14,17,18,19,119,120,121] (Or.inr (by simp)) ?_;simp only[zP,Nat.reduceEqDiff,reduceIte];refine gR fun K hK=>?_;simp -dsimp [wb];apply hK;clear hK K;simp only[zT,reduceIte,Nat.reduceEqDiff];exact⟨b+1,by omega,by omega,o1 (e9 [some 0,some 1,some 2] rfl (by simp[a7u (hxg b hbl),a4E]) (by simp)) (by simp)⟩
      ·have hbl:¬b<fs.length:=by simpa using hc4
       have htx:xs.take b=xs:=List.take_of_length_le (by omega);rw[htx];have hsb:=a0h xs x0 hx0b hxb;generalize hsh:D6 x0 xs=sh at hsb ⊢;refine i6 ?_;simp only[zT,reduceIte,Nat.reduceEqDiff];refine hK5 _ _ ?_;refine b6 [17,18,19] (Or.inr (by simp)) ?_;simp only[zP,Nat.reduceEqDiff,reduceIte];refine b9 fun K8 hK8=>?_;refine gS fun K hK=>?_;simp -dsimp;apply hK;clear hK K;refine d7 ?_;refine b6 [17,18,19,147,148] (Or.inr (by simp)) ?_;simp only[zP,Nat.reduceEqDiff,reduceIte];refine g9 [17,18,19,147] (α:=Nat) (fun i=>[(148,I i)]) (fun i=>[some (.els 1 [[net g s]]),some (.els 1 [[iL (upN p)]]),some (.els 1 ((shl nl sh i).map j0))]) (fun i=>i≤p.length) (fun i=>p.length-i) 0 ?_ ?_ ?_
       ·exact Nat.zero_le _
       ·refine o1 (e9 [some 0,some 1,some 2] rfl (by simp) (by simp[b5Q])) (by simp)
       rintro i i1;simp only[zP,Nat.reduceEqDiff,reduceIte];refine gS fun K hK=>?_;simp -dsimp;apply hK;clear hK K;refine b9 fun K9 hK9=>?_;refine d9 rfl (fun hc5=>?_) (fun hc5=>?_)
       ·have hin:i<p.length:=by simpa using hc5
        have wi:=zW i (by omega);obtain⟨x,hx⟩:∃x,nl[i]?=some x:=⟨_,List.getElem?_eq_getElem (by omega)⟩;have hxn:-1000000000000000≤x∧x≤1000000000000000:=by
         rw[hnl,List.getElem?_map]at hx;obtain⟨y,_,rfl⟩:=Option.map_eq_some_iff.1 hx;exact hnb y
        have gsh:=b9p (sh:=sh) hx;have wx:IntKind.i64.wrap (x+sh)=x+sh:=f7 (by omega) (by omega);have hst:=b8Z (sh:=sh) hx;refine f6 ?_;simp only[zT,reduceIte,Nat.reduceEqDiff];refine hK9 _ _ ?_;refine b6 [17,18,19,147,148] (Or.inr (by simp)) ?_;simp only[zP,Nat.reduceEqDiff,reduceIte];refine b9 fun K10 hK10=>?_;refine d7 ?_;refine gS fun K hK=>?_;simp -dsimp;apply hK;clear hK K;refine gR fun K hK=>?_;simp -dsimp [hin,gsh,wx];apply hK;clear hK K;simp only[zT,reduceIte,Nat.reduceEqDiff];refine hK10 _ _ ?_;refine b6 [17,18,19,147,148] (Or.inr (by simp)) ?_;simp only[zP,Nat.reduceEqDiff,reduceIte];refine gR fun K hK=>?_;simp -dsimp [wi];apply hK;clear hK K;simp only[zT,reduceIte,Nat.reduceEqDiff];exact⟨i+1,by omega,by omega,o1 (e9 [some 0,some 1,some 2] rfl (by simp) (by simp[←hst,List.map_set])) (by simp)⟩
       ·have hin0:¬i<p.length:=by simpa using hc5
        have hin:i=p.length:=by omega
        refine i6 ?_;simp only[zT,reduceIte,Nat.reduceEqDiff];refine hK8 _ _ ?_;refine b6 [17,18] (Or.inr (by simp)) ?_;simp only[zP,Nat.reduceEqDiff,reduceIte];refine gS fun K hK=>?_;simp -dsimp;apply hK;clear hK K;have hsl:shl nl sh p.length=v:=by
         rw[b7P hnll,e1,hnl,List.map_map,hx0',hsh];rfl
        have hvl:v.length=p.length:=by rw[←hsl,b9l,hnll]
        rw[hin,hsl];exact j6 (by simp[e2,e3,C2,n6,←hvl])
    ·skip
     try simp at hc3
     have hsp:0<A5 us p:=by omega
     obtain⟨hsm,e3,a0,ha1,ha2,haf,hal,e2,e1⟩:=q3 hf0 hsp;have hfa:=fun b (hb:b<fs.length)=>C9 hnt hfs hb;have hwh:=fun b (hb:b<fs.length)=>b3L g s p (at0 fs b) (by omega) (hfa b hb).2.1 (hfa b hb).2.2.1 (hfa b hb).2.2.2.2.1 (hfa b hb).2.2.2.2.2.1;have hpi:=fun b (hb:b<fs.length)=>List.idxOf_lt_length_of_mem (hfa b hb).2.2.2.2.2.1;have hm64:fs.length≤IntKind.i64.bits:=Nat.le_trans (show fs.length≤12 by omega) (by decide);have hsh:IntKind.i64.wrap (2^fs.length)=2^fs.length:=by have:=c2H fs.length (by omega);rw[Int.toNat_natCast,Int.one_mul,Int.natCast_pow]at this;exact this
     have hpow:2^fs.length≤2^12:=Nat.pow_le_pow_right (by omega) hfl;refine f6 ?_;simp only[zT,reduceIte,Nat.reduceEqDiff];refine hK4 _ _ ?_;refine b6 [2,3,4,13,14] (Or.inr (by simp)) ?_;simp only[zP,Nat.reduceEqDiff,reduceIte];refine b9 fun K11 hK11=>?_;refine gS fun K hK=>?_;simp -dsimp [hm64,hsh];apply hK;clear hK K;refine d7 ?_;refine b6 [2,3,4,13,14,163,164] (Or.inr (by simp)) ?_;simp only[zP,Nat.reduceEqDiff,reduceIte];refine g9 [2,3,4,13,14,163] (α:=Nat) (fun a=>[(164,I a)]) (fun a=>[some (.els 1 [[net g s]]),some (.els 1 [[iL (upN p)]])]) (fun a=>a≤a0) (fun a=>2^fs.length-a) 0 ?_ ?_ ?_
     ·exact Nat.zero_le _
     ·exact o1 (j9 (by simp)) (by simp)
     rintro a a1;simp only[zP,Nat.reduceEqDiff,reduceIte];refine gS fun K hK=>?_;simp -dsimp;apply hK;clear hK K;refine b9 fun K12 hK12=>?_;refine d9 rfl (fun hc6=>?_) (fun hc6=>?_)
     ·have hal2:a<2^fs.length:=by omega
      have wa:=zW a (by omega);refine f6 ?_;simp only[zT,reduceIte,Nat.reduceEqDiff];refine hK12 _ _ ?_;refine b6 [2,3,4,13,14,163,164] (Or.inr (by simp)) ?_;simp only[zP,Nat.reduceEqDiff,reduceIte];refine b9 fun K13 hK13=>?_;refine d7 ?_;refine gS fun K hK=>?_;simp -dsimp;apply hK;clear hK K;refine b9 fun K14 hK14=>?_;refine gS fun K hK=>?_;simp -dsimp;apply hK;clear hK K;refine d9 rfl (fun hc7=>?_) (fun hc7=>?_)
      ·skip
       try simp at hc7
       refine i6 ?_;simp only[zT,reduceIte,Nat.reduceEqDiff];refine hK13 _ _ ?_;refine b6 [2,3,4,13,14,163,164] (Or.inr (by simp)) ?_;simp only[zP,Nat.reduceEqDiff,reduceIte];refine gR fun K hK=>?_;simp -dsimp [wa];apply hK;clear hK K;simp only[zT,reduceIte,Nat.reduceEqDiff];exact⟨a+1,by omega,by omega,o1 (e9 [some 0,some 1] rfl (by simp) (by simp)) (by simp)⟩
      ·skip
       try simp at hc7
       refine f6 ?_;simp only[zT,reduceIte,Nat.reduceEqDiff];refine hK14 _ _ ?_;refine b6 [2,3,4,13,14,23,163,164] (Or.inr (by simp)) ?_;simp only[zP,Nat.reduceEqDiff,reduceIte];refine gS fun K hK=>?_;simp -dsimp;refine a6A heq (by simp) (fun g=>by simp) ?_;simp -dsimp;apply hK;clear hK K;refine b9 fun K15 hK15=>?_;refine gS fun K hK=>?_;simp -dsimp;apply hK;clear hK K;refine d7 ?_;refine b6 [2,3,4,13,14,23,24,25,163,164,176,177,178] (Or.inr (by simp)) ?_;simp only[zP,Nat.reduceEqDiff,reduceIte];refine g9 [2,3,4,13,14,23,24,25,163,164,176,177] (α:=Nat) (fun t=>[(178,I t)]) (fun t=>[some (.els 1 [[net g s]]),some (.els 1 [[iL (upN p)]]),some (.els 1 (Q0 4 p.length p.length)),some (.els 1 ((RfL g (onW g.Wires s.Wires) us p fs t a).map j0))]++q9 (Af g (onW g.Wires s.Wires) us p fs t a) p.length p.length) (fun t=>t≤fs.length) (fun t=>fs.length-t) 0 ?_ ?_ ?_
       ·exact Nat.zero_le _
       ·rw[b9n,b9t];exact o1 (j9 (by simp)) (by simp)
       rintro t t1;simp only[zP,Nat.reduceEqDiff,reduceIte];refine gS fun K hK=>?_;simp -dsimp;apply hK;clear hK K;refine b9 fun K16 hK16=>?_;refine d9 rfl (fun hc8=>?_) (fun hc8=>?_)
       ·have htl:t<fs.length:=by simpa using hc8
        have wt:=zW t (by omega);have hbit:bits .and .i64 ((a:Int)/2^t) 1=if a.testBit t then 1 else 0:=by have:=a8c a t (by omega);rwa [Int.toNat_natCast]at this
        have ht64:t≤IntKind.i64.bits:=Nat.le_trans (show t≤12 by omega) (by decide);refine f6 ?_;simp only[zT,reduceIte,Nat.reduceEqDiff];refine hK16 _ _ ?_;refine b6 [2,3,4,13,14,23,24,25,163,164,176,177,178] (Or.inr (by simp)) ?_;simp only[zP,Nat.reduceEqDiff,reduceIte];refine b9 fun K17 hK17=>?_;refine d7 ?_;refine gS fun K hK=>?_;simp -dsimp [(hfa t htl).1];apply hK;clear hK K;refine gS fun K hK=>?_;simp -dsimp [hbit,ht64];apply hK;clear hK K;refine d9 rfl (fun hc9=>?_) (fun hc9=>?_)
        ·have hbt:a.testBit t=true:=by cases h:a.testBit t with|true=>rfl|false=>rw[h]at hc9;simp at hc9
         obtain⟨k,hk⟩:∃k,k=p.idxOf (fdI g (at0 fs t)).At.toNat:=⟨_,rfl⟩;have hkl:k<p.length:=by rw[hk];exact hpi t htl
         have hkl1:k≤p.length+1:=by omega
         have hkg:p[k]?=some (fdI g (at0 fs t)).At.toNat:=by rw[hk];exact E3 (hfa t htl).2.2.2.2.2.1
         have hat:p.getD k 0=(a0Z g fs t).At.toNat:=by rw[T7 hkl]at hkg;exact Option.some.inj hkg
         have hAe:=c2r g (onW g.Wires s.Wires) us p fs hpt.nd hbt hkl hat;have hRe:=c2G g (onW g.Wires s.Wires) us p fs hpt.nd hbt hkl hat;have hfdo:a0Z g fs t=fdI g (at0 fs t):=rfl;rw[hfdo]at hAe hRe;have hab:(Af g (onW g.Wires s.Wires) us p fs t a k k).natAbs≤400:=by
          have hb1:=b9J (P:=Pt g (onW g.Wires s.Wires) us p fs t) (S:=D7 a) (c:=(Pt g (onW g.Wires s.Wires) us p fs t).s) (C:=4) (i:=p.getD k 0) (by omega) (fun b hb=>by
           have:=hfa b (by have:=List.mem_range.1 hb;omega);show 0≤(fdI g (at0 fs b)).Siem∧(fdI g (at0 fs b)).Siem≤4;omega)
          have hb2:(Pt g (onW g.Wires s.Wires) us p fs t).fs.length=t:=List.length_range;rw[hb2]at hb1;have hb3:(lw (onW g.Wires s.Wires) (p.getD k 0) (p.getD k 0)).natAbs≤320:=Nat.le_trans (b3R fun x hx=>by
           obtain⟨w',hw',e⟩:=V6 hx;have:=hnt.wires w' hw';simp only[wrB,Bool.and_eq_true,t4]at this;rw[e];simp only;omega) (by have:=b4k g.Wires s.Wires;omega)
          unfold Af o5.A;rw[if_pos rfl];show(lw _ _ _+_).natAbs≤400;omega
         have hrb:(Rf g (onW g.Wires s.Wires) us p fs t a k).natAbs≤50000:=by
          have hb1:=b9J (P:=Pt g (onW g.Wires s.Wires) us p fs t) (S:=D7 a) (c:=fun b=>(Pt g (onW g.Wires s.Wires) us p fs t).s b*(Pt g (onW g.Wires s.Wires) us p fs t).V b) (C:=4000) (i:=p.getD k 0) (by omega) (fun b hb=>by
           have h:=hfa b (by have:=List.mem_range.1 hb;omega);show 0≤(fdI g (at0 fs b)).Siem*(fdI g (at0 fs b)).Volts∧(fdI g (at0 fs b)).Siem*(fdI g (at0 fs b)).Volts≤4000;exact⟨Int.mul_nonneg (by omega) (by omega),Int.mul_le_mul h.2.2.2.2.2.2.2.2.2 h.2.2.2.2.2.2.2.1 (by omega) (by omega)⟩)
          have hb2:(Pt g (onW g.Wires s.Wires) us p fs t).fs.length=t:=List.length_range;rw[hb2]at hb1;have hb3:=hus (p.getD k 0);unfold Rf o5.b;show(-igt us _+_).natAbs≤50000;omega
         have hsv:0≤(fdI g (at0 fs t)).Siem*(fdI g (at0 fs t)).Volts∧(fdI g (at0 fs t)).Siem*(fdI g (at0 fs t)).Volts≤4000:=by
          have h:=hfa t htl;exact⟨Int.mul_nonneg (by omega) (by omega),Int.mul_le_mul h.2.2.2.2.2.2.2.2.2 h.2.2.2.2.2.2.2.1 (by omega) (by omega)⟩
         have w1:IntKind.i64.wrap (Af g (onW g.Wires s.Wires) us p fs t a k k+(fdI g (at0 fs t)).Siem)=Af g (onW g.Wires s.Wires) us p fs t a k k+(fdI g (at0 fs t)).Siem:=f7 (by have:=hfa t htl;omega) (by have:=hfa t htl;omega);have w2:IntKind.i64.wrap ((fdI g (at0 fs t)).Siem*(fdI g (at0 fs t)).Volts)=(fdI g (at0 fs t)).Siem*(fdI g (at0 fs t)).Volts:=f7 (by omega) (by omega);have w3:IntKind.i64.wrap (Rf g (onW g.Wires s.Wires) us p fs t a k+(fdI g (at0 fs t)).Siem*(fdI g (at0 fs t)).Volts)=Rf g (onW g.Wires s.Wires) us p fs t a k+(fdI g (at0 fs t)).Siem*(fdI g (at0 fs t)).Volts:=f7 (by omega) (by omega);have grk:=b9u g (onW g.Wires s.Wires) us p fs (t:=t) (a:=a) hkl;have hwk:=hwh t htl;rw[←hk]at hwk;generalize Af g (onW g.Wires s.Wires) us p fs t a=f at w1 hAe ⊢;generalize Rf g (onW g.Wires s.Wires) us p fs t a k=rk at w3 grk hRe;generalize RfL g (onW g.Wires s.Wires) us p fs t a=rl at grk hRe ⊢;refine w9 l9 rfl (by decide) rfl rfl fun K hK=>?_;simp -dsimp [(hfa t htl).1,(hfa t htl).2.1,(hfa t htl).2.2.2.1,Nat.add_assoc];refine d5 _ (hwk) (by simp) ?_;simp -dsimp [(hfa t htl).1,(hfa t htl).2.1,(hfa t htl).2.2.2.1,Nat.add_assoc];refine hK _ _ _ (by exact E7 [(0,5),(1,5),(2,5),(3,5),(4,5),(0,8),(1,8),(2,8),(3,8),(4,8),(5,8),(6,8),(7,8),(0,9),(1,9),(2,9),(3,9),(4,9),(5,9),(6,9),(7,9),(8,9),(0,10),(1,10),(2,10),(3,10),(4,10),(5,10),(6,10),(7,10),(0,11),(1,11),(2,11),(3,11),(4,11),(5,11),(6,11),(7,11),(8,11),(9,11),(10,11)] (by decide+kernel) (by decide+kernel) (by simp[a0l]<;>omega)) ?_;clear hK K;refine w9 l9 rfl (by decide) rfl rfl fun K hK=>?_;simp -dsimp [hkl1,Nat.add_assoc,G2 hkl,hkl,z7 hkl,a3r,a0c hkl,M1 hkl,w1];refine hK _ _ _ (by exact E7 [(0,1),(0,4),(1,4),(2,4),(3,4),(0,7),(1,7),(2,7),(3,7),(4,7),(5,7),(6,7),(0,8),(1,8),(2,8),(3,8),(4,8),(5,8),(6,8)] (by decide+kernel) (by decide+kernel) (by simp[a0l]<;>omega)) ?_;clear hK K;refine o8 l9 rfl (by decide) rfl rfl fun K hK=>?_;simp -dsimp [hkl1,Nat.add_assoc,grk,hkl,w2,w3];refine hK _ _ _ (by exact E7 [(0,1),(0,4),(1,4),(2,4),(3,4),(0,5),(1,5),(2,5),(3,5),(0,6),(1,6),(2,6),(3,6),(4,6),(5,6),(0,7),(1,7),(2,7),(3,7),(4,7),(5,7),(0,8),(1,8),(2,8),(3,8)] (by decide+kernel) (by decide+kernel) (by simp[a0l]<;>omega)) ?_;clear hK K;simp only[zT,reduceIte,Nat.reduceEqDiff];refine hK17 _ _ ?_;refine b6 [2,3,4,13,14,23,24,25,163,164,176,177,178] (Or.inr (by simp)) ?_;simp only[zP,Nat.reduceEqDiff,reduceIte];refine gR fun K hK=>?_;simp -dsimp [wt];apply hK;clear hK K;simp only[zT,reduceIte,Nat.reduceEqDiff];refine⟨t+1,by omega,by omega,o1 (a4y (F':=[some (.els 1 [[net g s]]),some (.els 1 [[iL (upN p)]]),some (.els 1 (Q0 4 p.length p.length)),some (.els 1 ((RfL g (onW g.Wires s.Wires) us p fs (t+1) a).map j0))]) [some 0,some 1,some 2,some 3] (Af g (onW g.Wires s.Wires) us p fs (t+1) a) p.length p.length 4 (by simp[C7]) (fun i hi=>by simp) ?_ (by simp) ?_) (by simp)⟩
         ·intro i hi;show m6 (q9 _ p.length p.length++_) i=_;rw[z7 hi];rw[←y7 (m:=p.length) hi,←y7 (m:=p.length) hi,N4 hAe]
         ·have hro:=Y5 (g:=some 0::some 1::some 2::some 3::(List.range p.length).map fun i=>some (i+4)) (c:=4) (c':=4) (m:=p.length) (n:=p.length) (fun i hi=>H7 (gf:=[some 0,some 1,some 2,some 3]) hi (by simp));rw[←hRe,List.map_set];simp[hro]
        ·refine f6 ?_;simp only[zT,reduceIte,Nat.reduceEqDiff];refine hK17 _ _ ?_;refine b6 [2,3,4,13,14,23,24,25,163,164,176,177,178] (Or.inr (by simp)) ?_;simp only[zP,Nat.reduceEqDiff,reduceIte];refine gR fun K hK=>?_;simp -dsimp [wt];apply hK;clear hK K;simp only[zT,reduceIte,Nat.reduceEqDiff];have hbt:a.testBit t=false:=by cases h:a.testBit t with|false=>rfl|true=>rw[h]at hc9;simp at hc9
         refine⟨t+1,by omega,by omega,?_⟩;rw[c0H _ _ _ _ _ hbt,c0R _ _ _ _ _ hbt];exact o1 (j9 (by simp)) (by simp)
       ·have htl:¬t<fs.length:=by simpa using hc8
        have hte:t=fs.length:=by omega
        rw[hte];have hsol:=a9x (eqM ((Pt g (onW g.Wires s.Wires) us p fs fs.length).A (D7 a)) p) (p.map ((Pt g (onW g.Wires s.Wires) us p fs fs.length).b (D7 a))) p.length (R0 _ _) hpt.n1 hpt.n10 (by simp);obtain⟨z1,z2,z3⟩:=hsm a (by omega) hal2;have hv0:(p.map fun k=>wr (Cur.num ((Pt g (onW g.Wires s.Wires) us p fs fs.length).A (D7 a)) ((Pt g (onW g.Wires s.Wires) us p fs fs.length).b (D7 a)) p k))=p.map fun k=>(Pt g (onW g.Wires s.Wires) us p fs fs.length).num (D7 a) k:=List.map_congr_left fun k _=>b6i (by have:=z1 k;unfold o5.num at this;show _≤Cur.num _ _ (Pt g (onW g.Wires s.Wires) us p fs fs.length).ns k;omega) (by have:=z1 k;unfold o5.num at this;show Cur.num _ _ (Pt g (onW g.Wires s.Wires) us p fs fs.length).ns k≤_;omega);have hd0:wr (D ((Pt g (onW g.Wires s.Wires) us p fs fs.length).A (D7 a)) p)=(Pt g (onW g.Wires s.Wires) us p fs fs.length).den (D7 a):=b6i (by unfold o5.den at z2;show _≤D _ (Pt g (onW g.Wires s.Wires) us p fs fs.length).ns;omega) (by unfold o5.den at z3;show D _ (Pt g (onW g.Wires s.Wires) us p fs fs.length).ns≤_;omega);rw[b1r _ _ _ hpt.nd,b3K,hv0,hd0,←c1z]at hsol;have hfit:=b8w (Pt g (onW g.Wires s.Wires) us p fs fs.length) fs.length a;obtain⟨nl,hnl⟩:∃nl,nl=p.map fun k=>(Pt g (onW g.Wires s.Wires) us p fs fs.length).num (D7 a) k:=⟨_,rfl⟩;have hzl:∀k x,p[k]?=some x→nl[k]?=some ((Pt g (onW g.Wires s.Wires) us p fs fs.length).num (D7 a) x):=fun k x h=>by rw[hnl,List.getElem?_map,h];rfl
        have hnle:∀a',a'=a→(p.map fun k=>(Pt g (onW g.Wires s.Wires) us p fs fs.length).num (D7 a') k)=nl∧(Pt g (onW g.Wires s.Wires) us p fs fs.length).den (D7 a')=(Pt g (onW g.Wires s.Wires) us p fs fs.length).den (D7 a):=by rintro a' rfl;exact⟨hnl.symm,rfl⟩
        rw[←hnl]at hsol;obtain⟨M,hM⟩:∃M,M=eqM ((Pt g (onW g.Wires s.Wires) us p fs fs.length).A (D7 a)) p:=⟨_,rfl⟩;rw[←hM]at hsol;obtain⟨de,hde⟩:∃de,de=(Pt g (onW g.Wires s.Wires) us p fs fs.length).den (D7 a):=⟨_,rfl⟩;rw[←hde]at hsol z2 z3 hnle hfit;obtain⟨nu,hnu⟩:∃nu,nu=(Pt g (onW g.Wires s.Wires) us p fs fs.length).num (D7 a):=⟨_,rfl⟩;rw[←hnu]at z1 hzl hfit;have hnll:nl.length=p.length:=by rw[hnl];simp
        have hVe:(Pt g (onW g.Wires s.Wires) us p fs fs.length).V=fun(b:Nat)=>(fdI g (at0 fs b)).Volts:=rfl;have hpe:(Pt g (onW g.Wires s.Wires) us p fs fs.length).p=fun(b:Nat)=>(fdI g (at0 fs b)).At.toNat:=rfl;rw[hVe,hpe]at hfit;clear hnu hde hVe hpe;refine i6 ?_;simp only[zT,reduceIte,Nat.reduceEqDiff];refine hK15 _ _ ?_;refine b6 [2,3,4,13,14,23,24,25,163,164] (Or.inr (by simp)) ?_;simp only[zP,Nat.reduceEqDiff,reduceIte];refine p9 (o1 (D5 (T':=[(2, .mpc false [.i .i64] us),(3, .ptr 0 0 0),(4, .ptr 1 0 0),(13,iL fs),(14, .clo 86 [.ptr 1 0 0, .ptr 0 0 0]),(23,I a),(24,mL M),(25,iL (RfL g (onW g.Wires s.Wires) us p fs fs.length a)),(163,I (2^fs.length)),(164,I a)]) (H':=[some (.els 1 [[net g s]]),some (.els 1 [[iL (upN p)]])]) [some 0,some 1] rfl ⟨.inr (by simp), .inr (by simp), .inr (by simp), .inr (by simp), .inr (by simp), .inr (by simp), .inr ?_, .inr ?_, .inr (by simp), .inr (by simp),trivial⟩ (by simp)) (by simp)) ?_
        ·rw[hM];exact c1r _ _ _ _ hpt.n1
        ·exact c2Q _ _ _ _ _ (b9w _ _ _ _ _ _ _) hpt.n1
        ·refine gS fun K hK=>?_;simp -dsimp;refine k9 [] [] [none,none,some 0] (hsol) (by decide) rfl (by simp) (by simp) rfl (by simp) ?_;simp -dsimp;apply hK;clear hK K;refine gS fun K hK=>?_;simp -dsimp;apply hK;clear hK K;refine b9 fun K18 hK18=>?_;refine gS fun K hK=>?_;simp -dsimp;apply hK;clear hK K;refine d7 ?_;refine b6 [2,3,4,13,14,23,30,31,32,163,164,228,229,230] (Or.inr (by simp)) ?_;simp only[zP,Nat.reduceEqDiff,reduceIte];refine g9 [2,3,4,13,14,23,30,31,163,164,228,229] (α:=Nat) (fun b=>[(32,Bo ((List.range b).all (c2s (fun(b:Nat)=>(fdI g (at0 fs b)).Volts) (fun(b:Nat)=>(fdI g (at0 fs b)).At.toNat) nu de a))),(230,I b)]) (fun b=>[some (.els 1 [[net g s]]),some (.els 1 [[iL (upN p)]]),some (.els 1 (nl.map j0))]) (fun b=>b≤fs.length) (fun b=>fs.length-b) 0 ?_ ?_ ?_
         ·exact Nat.zero_le _
         ·exact o1 (e9 [some 0,some 1,some 2] rfl (by simp) (by simp)) (by simp)
         rintro b b1;simp only[zP,Nat.reduceEqDiff,reduceIte];refine gS fun K hK=>?_;simp -dsimp;apply hK;clear hK K;refine b9 fun K19 hK19=>?_;refine d9 rfl (fun hc10=>?_) (fun hc10=>?_)
         ·have hbl:b<fs.length:=by simpa using hc10
          have wb:=zW b (by omega);have hbit:bits .and .i64 ((a:Int)/2^b) 1=if a.testBit b then 1 else 0:=by have:=a8c a b (by omega);rwa [Int.toNat_natCast]at this
          have hb64:b≤IntKind.i64.bits:=Nat.le_trans (show b≤12 by omega) (by decide);have hvd:-100000000000000000≤(fdI g (at0 fs b)).Volts*de∧(fdI g (at0 fs b)).Volts*de≤100000000000000000:=by
           have h:=hfa b hbl;have h1:=Int.mul_nonneg (show 0≤(fdI g (at0 fs b)).Volts by omega) (show 0≤de by omega);have h2:=Int.mul_le_mul h.2.2.2.2.2.2.2.1 z3 (by omega) (by omega);omega
          have w1:IntKind.i64.wrap ((fdI g (at0 fs b)).Volts*de)=(fdI g (at0 fs b)).Volts*de:=f7 (by omega) (by omega);have w2:IntKind.i64.wrap ((fdI g (at0 fs b)).Volts*de-nu (fdI g (at0 fs b)).At.toNat)=(fdI g (at0 fs b)).Volts*de-nu (fdI g (at0 fs b)).At.toNat:=f7 (by have:=z1 (fdI g (at0 fs b)).At.toNat;omega) (by have:=z1 (fdI g (at0 fs b)).At.toNat;omega);have hzp:=hzl _ _ (E3 (hfa b hbl).2.2.2.2.2.1);refine f6 ?_;simp only[zT,reduceIte,Nat.reduceEqDiff];refine hK19 _ _ ?_;refine b6 [2,3,4,13,14,23,30,31,32,163,164,228,229,230] (Or.inr (by simp)) ?_;simp only[zP,Nat.reduceEqDiff,reduceIte];refine b9 fun K20 hK20=>?_;refine d7 ?_;refine gS fun K hK=>?_;simp -dsimp [(hfa b hbl).1];apply hK;clear hK K;refine w9 l9 rfl (by decide) rfl rfl fun K hK=>?_;simp -dsimp [(hfa b hbl).1,(hfa b hbl).2.1,(hfa b hbl).2.2.2.1,w1,w2,hpi b hbl,hzp];refine d5 _ (hwh b hbl) (by simp) ?_;simp -dsimp [(hfa b hbl).1,(hfa b hbl).2.1,(hfa b hbl).2.2.2.1,w1,w2,hpi b hbl,hzp];refine hK _ _ _ (by decide+kernel) ?_;clear hK K;refine gR fun K hK=>?_;simp -dsimp [hbit,hb64];apply hK;clear hK K;simp only[zT,reduceIte,Nat.reduceEqDiff];refine hK20 _ _ ?_;refine b6 [2,3,4,13,14,23,30,31,32,163,164,228,229,230] (Or.inr (by simp)) ?_;simp only[zP,Nat.reduceEqDiff,reduceIte];refine gR fun K hK=>?_;simp -dsimp [wb];apply hK;clear hK K;simp only[zT,reduceIte,Nat.reduceEqDiff];refine⟨b+1,by omega,by omega,o1 (e9 [some 0,some 1,some 2] rfl ?_ (by simp)) (by simp)⟩;rw[b4R];unfold c2s
          cases hbb:a.testBit b<;>simp[hbb]
         ·have hbl:¬b<fs.length:=by simpa using hc10
          have hbe:b=fs.length:=by omega
          rw[hbe,←hfit];refine i6 ?_;simp only[zT,reduceIte,Nat.reduceEqDiff];refine hK18 _ _ ?_;refine b6 [2,3,4,13,14,30,31,32,163,164] (Or.inr (by simp)) ?_;simp only[zP,Nat.reduceEqDiff,reduceIte];refine gS fun K hK=>?_;simp -dsimp;apply hK;clear hK K;refine d9 rfl (fun hc11=>?_) (fun hc11=>?_)
          ·refine gS fun K hK=>?_;simp -dsimp;apply hK;clear hK K;have hae:a0=a:=by
            rcases Nat.lt_or_ge a a0 with h|h
            ·have:=hal a (by omega) h;rw[this]at hc11;cases hc11
            ·omega
           obtain⟨g1,g2⟩:=hnle a0 hae;have htk:List.take p.length (nl.map j0)=nl.map j0:=List.take_of_length_le (by simp;omega);exact j6 (by simp[e1,e2,e3,g1,g2,hnll,htk,C2,n6])
          ·refine f6 ?_;simp only[zT,reduceIte,Nat.reduceEqDiff];refine hK13 _ _ ?_;refine b6 [2,3,4,13,14,163,164] (Or.inr (by simp)) ?_;simp only[zP,Nat.reduceEqDiff,reduceIte];refine gR fun K hK=>?_;simp -dsimp [wa];apply hK;clear hK K;simp only[zT,reduceIte,Nat.reduceEqDiff];have hae:a0≠a:=by
            rintro rfl;rw[haf]at hc11;cases hc11
           exact⟨a+1,by omega,by omega,o1 (e9 [some 0,some 1] rfl (by simp) (by simp)) (by simp)⟩
     ·exfalso;have h:((a:Nat):Int)<2^fs.length:=by have:=Int.ofNat_lt.2 (show a<2^fs.length by omega);rwa [Int.natCast_pow]at this
      exact absurd h (of_decide_eq_false hc6)
end Go.Cur
end
section
namespace Go.Cur
open Go.AM Go.Proofs
theorem b0c (x:Int):∀l,(ins x l).Perm (x::l)
 |[]=>List.Perm.refl _
 |y::l=>by
  simp only[ins]
  split
  ·exact List.Perm.refl _
  ·exact((b0c x l).cons y).trans (List.Perm.swap x y l)
theorem b5u (l:List Int):(srt l).Perm l:=by
 have gen:∀(l s:List Int),(l.foldl (fun s x=>ins x s) s).Perm (s++l):=by
  intro l
  induction l with
  |nil=>intro s;simp
  |cons x l ih=>
   intro s;rw[List.foldl_cons];refine(ih (ins x s)).trans ?_;refine((b0c x s).append_right l).trans ?_;exact(List.perm_middle (l₁:=s) (l₂:=l) (a:=x)).symm
 have:=gen l [];simpa [srt]using this
theorem c1A {l m:List Int} (hm:m.Pairwise (· ≤ ·)) (h:l.Perm m):srt l=m:=
 List.Perm.eq_of_pairwise (fun a b _ _ h1 h2=>Int.le_antisymm h1 h2) (a3L l) hm ((b5u l).trans h)
abbrev a7E (g:Gr) (s:Sta):List (Nat×Nat):=U3 (onW g.Wires s.Wires)
def j7 (g:Gr) (s:Sta):List (List Nat):=b7v (a7E g s) g.Nodes.toNat
def pAV (p:List Nat):List AV:=[iL (upN p)]
theorem a2i (l:List (List Nat)):∀z∈l.map pAV,z.length=1:=by
 intro z hz;obtain⟨q,_,rfl⟩:=List.mem_map.1 hz
 rfl
theorem b2Q {g:Gr} {s:Sta} (h:o7 g s):OkW (onW g.Wires s.Wires) g.Nodes.toNat:=fun w hw=>by
 obtain⟨w',hw',rfl⟩:=V6 hw;have:=h.wires w' hw';simp only[wrB,Bool.and_eq_true,t4,Bool.not_eq_true',decide_eq_false_iff_not]at this;have hn:=(t9 h.gr).1;refine⟨?_,?_,?_,?_⟩<;>simp only<;>omega
theorem a2a {g:Gr} {s:Sta} (h:o7 g s):∀e∈a7E g s,e.1<g.Nodes.toNat∧e.2<g.Nodes.toNat:=a1C (b2Q h)
def b4B (E:List (Nat×Nat)) (n k:Nat) (part:List Nat) (j:Nat):Bool:=decide (nm E n j<k)||decide (j∈part)
def a1w (E:List (Nat×Nat)) (n k:Nat) (part:List Nat):List Bool:=(List.range n).map (b4B E n k part)
theorem a4r (E:List (Nat×Nat)) (n k:Nat) (part:List Nat):(a1w E n k part).length=n:=by simp[a1w]
theorem Z3 {E:List (Nat×Nat)} {n k j:Nat} {part:List Nat} (h:j<n):(a1w E n k part)[j]?=some (b4B E n k part j):=by
 unfold a1w;rw[List.getElem?_map,List.getElem?_range h];rfl
theorem a9A {E:List (Nat×Nat)} {n k j:Nat} {part:List Nat}:(a1w E n k part).set j true=a1w E n k (part++[j]):=by
 refine List.ext_getElem? fun i=>?_
 by_cases hi:i<n
 ·rw[Z3 hi]
  by_cases h:i=j
  ·subst h;rw[List.getElem?_set_self (by rw[a4r];exact hi)];simp[b4B]
  ·rw[List.getElem?_set_ne (fun e=>h e.symm),Z3 hi];simp[b4B,h]
 ·rw[List.getElem?_eq_none (by simp[a1w];omega),List.getElem?_eq_none (by simp[a1w];omega)]
theorem b3Z (E:List (Nat×Nat)) (n:Nat):a1w E n 0 []=List.replicate n false:=by
 refine List.ext_getElem? fun i=>?_
 by_cases hi:i<n
 ·rw[Z3 hi,List.getElem?_replicate,if_pos hi];simp[b4B]
 ·rw[List.getElem?_eq_none (by simp[a1w];omega),List.getElem?_eq_none (by simp;omega)]
theorem a6g {E:List (Nat×Nat)} {n k:Nat} {part:List Nat} (h:∀j,j<n→(j∈part↔nm E n j=k)):a1w E n k part=a1w E n (k+1) []:=by
 unfold a1w;refine List.map_congr_left fun j hj=>?_;have:=h j (List.mem_range.1 hj);unfold b4B;simp only[this,List.not_mem_nil,decide_false,Bool.or_false];rw[Bool.eq_iff_iff];simp only[Bool.or_eq_true,decide_eq_true_eq];omega
def A8 (E:List (Nat×Nat)) (n k:Nat):Nat:=((List.range k).filter fun i=>decide (nm E n i=i)).length
theorem a1b (E:List (Nat×Nat)) (n k:Nat):A8 E n (k+1)=A8 E n k+if nm E n k=k then 1 else 0:=by
 unfold A8;rw[List.range_succ,List.filter_append,List.length_append]
 by_cases h:nm E n k=k<;>simp[h]
theorem b4O {E:List (Nat×Nat)} {n k:Nat} (hk:k<n) (h:nm E n k=k):(W9 E n)[A8 E n k]?=some k:=by
 have:∀d,∃v,(List.range (k+1+d)).filter (fun i=>decide (nm E n i=i))=(List.range k).filter (fun i=>decide (nm E n i=i))++k::v:=by
  intro d
  induction d with
  |zero=>exact⟨[],by rw[Nat.add_zero,List.range_succ,List.filter_append];simp[h]⟩
  |succ d ih=>
   obtain⟨v,hv⟩:=ih;refine⟨v++if nm E n (k+1+d)=k+1+d then [k+1+d]else [],?_⟩;rw[←Nat.add_assoc,List.range_succ,List.filter_append,hv,List.append_assoc]
   by_cases hx:nm E n (k+1+d)=k+1+d<;>simp[hx]
 obtain⟨v,hv⟩:=this (n-(k+1));rw[show k+1+(n-(k+1))=n by omega]at hv;unfold W9 A8;rw[hv,List.getElem?_append_right (Nat.le_refl _),Nat.sub_self];rfl
structure b2y (E:List (Nat×Nat)) (n k:Nat) (part:List Nat) (i:Nat):Prop where
 nd:part.Nodup
 sub:∀x∈part,x∈cp E n k
 first:k∈part
 done:∀j x,j<i→part[j]?=some x→∀e∈E,(e.1=x→e.2∈part)∧(e.2=x→e.1∈part)
theorem b2y.all {E:List (Nat×Nat)} {n k:Nat} {part:List Nat} (h:b2y E n k part part.length) (hk:k∈W9 E n):∀x,x∈part↔x∈cp E n k:=by
 refine fun x=>⟨h.sub x,fun hx=>b5M hk h.first (fun e he=>?_) hx⟩;constructor
 ·intro h1;obtain⟨j,hj⟩:=List.getElem?_of_mem h1;exact(h.done j _ (List.getElem?_eq_some_iff.1 hj).1 hj e he).1 rfl
 ·intro h1;obtain⟨j,hj⟩:=List.getElem?_of_mem h1;exact(h.done j _ (List.getElem?_eq_some_iff.1 hj).1 hj e he).2 rfl
theorem b2y.more {E:List (Nat×Nat)} {n k i x:Nat} {part:List Nat} (h:b2y E n k part i) (hi:i≤part.length) (hx:x∈cp E n k) (hn:x∉part):b2y E n k (part++[x]) i:=by
 refine⟨?_,fun y hy=>?_,by simp[h.first],fun j y hj hy e he=>?_⟩
 ·rw[List.nodup_append];exact⟨h.nd,by simp,fun a ha b hb=>by simp at hb;subst hb;rintro rfl;exact hn ha⟩
 ·rcases List.mem_append.1 hy with hy|hy
  ·exact h.sub y hy
  ·simp at hy;subst hy;exact hx
 ·rw[List.getElem?_append_left (by omega)]at hy;obtain⟨h1,h2⟩:=h.done j y hj hy e he;exact⟨fun e=>by simp[h1 e],fun e=>by simp[h2 e]⟩
theorem b2y.len {E:List (Nat×Nat)} {n k i:Nat} {part:List Nat} (h:b2y E n k part i):part.length≤(cp E n k).length:=h.nd.length_le_of_subset h.sub
theorem b9v {E:List (Nat×Nat)} {n k:Nat}:(cp E n k).length≤n:=by
 have:=List.length_filter_le (fun j=>decide (nm E n j=k)) (List.range n);simpa [cp]using this
theorem b0W {p:List Nat} (h:p.Pairwise (· < ·)):(upN p).Pairwise (· ≤ ·):=by
 unfold upN;rw[List.pairwise_map];exact h.imp fun h=>by omega
theorem b2y.sorted {E:List (Nat×Nat)} {n k:Nat} {part:List Nat} (h:b2y E n k part part.length) (hk:k∈W9 E n):srt (upN part)=upN (cp E n k):=by
 refine c1A (b0W b2H) ?_;unfold upN;exact((List.perm_ext_iff_of_nodup h.nd I8).2 (h.all hk)).map _
theorem a9C (p:List Nat):List.take p.length ((upN p).map j0)=(upN p).map j0:=List.take_of_length_le (by simp[o9])
theorem a2H (cs:List AV):d6 Try.prog 66 [.iptr cs] (.clo 84 [.iptr [.iptr cs]]):=by
 refine d6.of_body Try.func66 rfl (by decide) (by simp[Try.ntmps66]) ?_;simp only[Try.ntmps66,Try.results66];refine aS fun K hK=>?_;simp -dsimp;apply hK;clear hK K;refine aS fun K hK=>?_;simp -dsimp;apply hK;clear hK K;exact g7 (by simp)
theorem b6l (g:Gr) (s:Sta) (hnt:o7 g s) (n:Nat) (hn:g.Nodes=n) (E:List (Nat×Nat)) (hE:E=a7E g s) (h12:∀k∈W9 E n,(cp E n k).length≤12) (xs:List (List AV)) (hx0:xs=((W9 E n).map (cp E n)).map pAV):N2 Try.prog 84 [.iptr [net g s]] xs:=by
 have hb:=t9 hnt.gr;have hEo:∀e∈E,e.1<n∧e.2<n:=by
  have:=a2a hnt;rw[←hE]at this;intro e he;have:=this e he;omega
 have f0:I9 n 2:=m8 (by omega) (by omega);have f1:I9 n 9:=m8 (by omega) (by omega);have hhl:xs.length=A8 E n n:=by rw[hx0,List.length_map,List.length_map];rfl
 refine N2.of_body Try.func84 rfl (by decide) (by simp[Try.ntmps84]) (by simp[Try.ntmps84]) (by simp[Try.results84]) ?_;intro J l hmk hY;simp only[Try.ntmps84,Try.results84];refine gS fun K hK=>?_;simp -dsimp [hn,f0];apply hK;clear hK K;refine gS fun K hK=>?_;simp -dsimp [hn];apply hK;clear hK K;refine d7 ?_;refine b6 [0,1,3,20,21,999999] (Or.inl (by decide)) ?_;simp only[zP,Nat.reduceEqDiff,reduceIte];refine g9 [0,1,3,20] (α:=Nat) (fun k=>[(21,I k),(999999,U7 (A8 E n k))]) (fun k=>[some (.els 1 ((a1w E n k []).map i9))]) (fun k=>k≤n) (fun k=>n-k) 0 ?_ ?_ ?_
 ·exact Nat.zero_le _
 ·exact o1 (e9 [some 0] rfl (by simp[A8]) (by simp[b3Z])) (by simp[A8])
 rintro k k1;simp only[zP,Nat.reduceEqDiff,reduceIte];refine gS fun K hK=>?_;simp -dsimp;apply hK;clear hK K;refine b9 fun K1 hK1=>?_;refine d9 rfl (fun hc0=>?_) (fun hc0=>?_)
 ·skip
  try simp at hc0
  have wk:=zW k (by omega);have gm:=Z3 (E:=E) (n:=n) (k:=k) (part:=[]) hc0;have hms:a1w E n k [k]=(a1w E n k []).set k true:=(a9A (E:=E) (n:=n) (k:=k) (j:=k) (part:=[])).symm;have hml:=a4r E n k [];have hmb:b4B E n k [] k=decide (nm E n k<k):=by simp[b4B]
  refine f6 ?_;simp only[zT,reduceIte,Nat.reduceEqDiff];refine hK1 _ _ ?_;refine b6 [0,1,3,20,21,999999] (Or.inl (by decide)) ?_;simp only[zP,Nat.reduceEqDiff,reduceIte];refine b9 fun K2 hK2=>?_;refine d7 ?_;refine gS fun K hK=>?_;simp -dsimp;apply hK;clear hK K;refine b9 fun K3 hK3=>?_;refine gS fun K hK=>?_;simp -dsimp [gm,hc0,hmb];apply hK;clear hK K;refine d9 rfl (fun hc1=>?_) (fun hc1=>?_)
  ·skip
   try simp at hc1
   refine i6 ?_;simp only[zT,reduceIte,Nat.reduceEqDiff];refine hK2 _ _ ?_;refine b6 [0,1,3,20,21,999999] (Or.inl (by decide)) ?_;simp only[zP,Nat.reduceEqDiff,reduceIte];refine gR fun K hK=>?_;simp -dsimp [wk];apply hK;clear hK K;simp only[zT,reduceIte,Nat.reduceEqDiff];have hh:A8 E n (k+1)=A8 E n k:=by rw[a1b,if_neg (by omega)];rfl
   have hme:a1w E n k []=a1w E n (k+1) []:=a6g fun j hj=>by
    simp only[List.not_mem_nil,false_iff];intro e;have h2:=c0C hEo j;rw[e]at h2;omega
   exact⟨k+1,by omega,by omega,o1 (e9 [some 0] rfl (by simp[hh]) (by simp[hme])) (by simp[hh])⟩
  ·skip
   try simp at hc1
   have hnk:nm E n k=k:=by have:=b8P (E:=E) (n:=n) (k:=k);omega
   have hkh:k∈W9 E n:=a2w.2 ⟨hc0,hnk⟩;refine f6 ?_;simp only[zT,reduceIte,Nat.reduceEqDiff];refine hK3 _ _ ?_;refine b6 [0,1,3,4,20,21,999999] (Or.inl (by decide)) ?_;simp only[zP,Nat.reduceEqDiff,reduceIte];refine gS fun K hK=>?_;simp -dsimp [hc0,hml];apply hK;clear hK K;refine Y8 (by decide) ?_;refine gS fun K hK=>?_;simp -dsimp;apply hK;clear hK K;refine b9 fun K4 hK4=>?_;refine gS fun K hK=>?_;simp -dsimp;apply hK;clear hK K;refine d7 ?_;refine b6 [0,1,3,5,6,20,21,999999] (Or.inl (by decide)) ?_;simp only[zP,Nat.reduceEqDiff,reduceIte];refine g9 [0,1,3,20,21] (α:=Nat×List Nat) (fun x=>[(5, .row 1 0 x.2.length),(6,I x.1),(999999,U7 (A8 E n k))]) (fun x=>[some (.els 1 ((a1w E n k x.2).map i9)),some (.els 1 ((upN x.2).map j0))]) (fun x=>x.1≤x.2.length∧b2y E n k x.2 x.1) (fun x=>n-x.1) (0,[k]) ?_ ?_ ?_
   ·exact⟨Nat.zero_le _,⟨by simp,by simpa using a4I hkh,by simp,fun j x hj=>by omega⟩⟩
   ·refine o1 (e9 [some 0,some 1] rfl (by simp) ?_) (by simp);simp[hms,List.map_set,upN]
   rintro⟨i,part⟩ ⟨i1,i2⟩;simp only at i1 i2 ⊢;simp only[zP,Nat.reduceEqDiff,reduceIte];refine b9 fun K5 hK5=>?_;refine gS fun K hK=>?_;simp -dsimp;apply hK;clear hK K;refine d9 rfl (fun hc2=>?_) (fun hc2=>?_)
   ·have hil:i<part.length:=by simpa using hc2
    obtain⟨x,hx⟩:∃x,part[i]?=some x:=⟨_,List.getElem?_eq_getElem hil⟩;have hpn:part.length≤n:=Nat.le_trans i2.len b9v;have hxc:=i2.sub x (List.mem_of_getElem? hx);have hxn:x<n:=(E4.1 hxc).1;have wi:=zW i (by omega);refine f6 ?_;simp only[zT,reduceIte,Nat.reduceEqDiff];refine hK5 _ _ ?_;refine b6 [0,1,3,5,6,20,21,999999] (Or.inl (by decide)) ?_;simp only[zP,Nat.reduceEqDiff,reduceIte];refine b9 fun K6 hK6=>?_;refine d7 ?_;refine gS fun K hK=>?_;simp -dsimp;apply hK;clear hK K;refine d7 ?_;refine b6 [0,1,3,5,6,20,21,43,44,45,999999] (Or.inl (by decide)) ?_;simp only[zP,Nat.reduceEqDiff,reduceIte];refine g9 [0,1,3,6,20,21,43,44] (α:=Nat×List Nat) (fun y=>[(5, .row 1 0 y.2.length),(45,I y.1),(999999,U7 (A8 E n k))]) (fun y=>[some (.els 1 ((a1w E n k y.2).map i9)),some (.els 1 ((upN y.2).map j0))]) (fun y=>y.1≤g.Wires.length∧i<y.2.length∧b2y E n k y.2 i∧y.2[i]?=some x∧∀w∈onW (g.Wires.take y.1) (s.Wires.take y.1),(w.a=x→w.b∈y.2)∧(w.b=x→w.a∈y.2)) (fun y=>g.Wires.length-y.1) (0,part) ?_ ?_ ?_
    ·exact⟨Nat.zero_le _,hil,i2,hx,fun w hw=>by simp[onW]at hw⟩
    ·exact o1 (e9 [some 0,some 1] rfl (by simp) (by simp)) (by simp)
    rintro⟨q,pt⟩ ⟨j1,j2,j3,j4,j5⟩;simp only at j1 j2 j3 j4 j5 ⊢;simp only[zP,Nat.reduceEqDiff,reduceIte];refine gS fun K hK=>?_;simp -dsimp;apply hK;clear hK K;refine b9 fun K7 hK7=>?_;refine d9 rfl (fun hc3=>?_) (fun hc3=>?_)
    ·have hql:q<g.Wires.length:=by simpa using hc3
     obtain⟨w,hq⟩:∃w,g.Wires[q]?=some w:=⟨_,List.getElem?_eq_getElem hql⟩;have wq:=zW q (by omega);have hwb:=hnt.wires w (List.mem_of_getElem? hq);simp only[wrB,Bool.and_eq_true,t4,Bool.not_eq_true',decide_eq_false_iff_not]at hwb;obtain⟨⟨⟨hwA,hwB⟩,hAB⟩,hwS⟩:=hwb;have hsw:=hnt.sw;have gsw:=v9 (l:=s.Wires) (k:=q) (by omega);have hsn:=b0b hq gsw;obtain⟨a,ha⟩:∃a:Nat,w.A=a:=⟨w.A.toNat,by omega⟩;obtain⟨b,hb⟩:∃b:Nat,w.B=b:=⟨w.B.toNat,by omega⟩;obtain⟨wA,wB,wS,wSw⟩:=w;simp only at ha hb hwS hsn hwA hwB hAB;subst ha hb;simp only[Int.toNat_natCast]at hsn;have gx:=E9 j4;have hptn:pt.length≤n:=Nat.le_trans j3.len b9v;refine f6 ?_;simp only[zT,reduceIte,Nat.reduceEqDiff];refine hK7 _ _ ?_;refine b6 [0,1,3,5,6,20,21,43,44,45,999999] (Or.inl (by decide)) ?_;simp only[zP,Nat.reduceEqDiff,reduceIte];refine b9 fun K8 hK8=>?_;refine d7 ?_;refine gS fun K hK=>?_;simp -dsimp [hq];apply hK;clear hK K;refine b9 fun K9 hK9=>?_;refine w9 l9 rfl (by decide) rfl rfl fun K hK=>?_;simp -dsimp [gsw,gx,j2];refine hK _ _ _ (by decide+kernel) ?_;clear hK K;refine d9 rfl (fun hc4=>?_) (fun hc4=>?_)
     ·refine i6 ?_;simp only[zT,reduceIte,Nat.reduceEqDiff];refine hK8 _ _ ?_;refine b6 [0,1,3,5,6,20,21,43,44,45,999999] (Or.inl (by decide)) ?_;simp only[zP,Nat.reduceEqDiff,reduceIte];refine gR fun K hK=>?_;simp -dsimp [wq];apply hK;clear hK K;simp only[zT,reduceIte,Nat.reduceEqDiff];refine⟨(q+1,pt),⟨by simp only;omega,j2,j3,j4,fun w hw=>?_⟩,by simp only;omega,o1 (e9 [some 0,some 1] rfl (by simp) (by simp)) (by simp)⟩;rw[hsn]at hw
      rcases List.mem_append.1 hw with hw|hw
      ·exact j5 w hw
      ·cases hon:bAt s.Wires q with
       |false=>rw[hon]at hw;simp at hw
       |true=>
        rw[hon]at hw;simp only[if_true,List.mem_singleton]at hw;subst hw;simp[hon,bne,a4n]at hc4;simp only;exact⟨fun e=>absurd e (by omega),fun e=>absurd e (by omega)⟩
     ·have hon:bAt s.Wires q=true:=by cases h:bAt s.Wires q with|true=>rfl|false=>rw[h]at hc4;simp at hc4
      have hax:a=x∨b=x:=by
       rw[hon]at hc4;simp only[bne,a4n,Bool.not_true,Bool.false_or]at hc4
       rcases Decidable.em ((a:Int)=x)with h|h
       ·exact Or.inl (by omega)
       ·rcases Decidable.em ((b:Int)=x)with h2|h2
        ·exact Or.inr (by omega)
        ·simp[h,h2]at hc4
      obtain⟨o,ho⟩:∃o:Nat,o=if a=x then b else a:=⟨_,rfl⟩;have hmem:(⟨a,b,wS⟩:Wn)∈onW g.Wires s.Wires:=a1M (k:=q+1) (by rw[hsn,hon];simp);have hed:(a,b)∈E:=by rw[hE];exact List.mem_map.2 ⟨_,hmem,rfl⟩
      have hnab:=b4w hEo hed;have hbds:=hEo _ hed;simp only at hnab hbds;have hxk:nm E n x=k:=(E4.1 hxc).2;have hoc:o<n∧nm E n o=k:=by
       rcases hax with h|h
       ·subst h;rw[ho,if_pos rfl];exact⟨hbds.2,by rw[←hnab];exact hxk⟩
       ·by_cases h2:a=x
        ·rw[ho,if_pos h2,h];exact⟨hxn,hxk⟩
        ·subst h;rw[ho,if_neg h2];exact⟨hbds.1,by rw[hnab];exact hxk⟩
      have hoe:(a:Int)+b-x=o:=by
       rw[ho]
       split<;>omega
      have wab:IntKind.i64.wrap ((a:Int)+b)=(a:Int)+b:=f7 (by omega) (by omega);have wabx:IntKind.i64.wrap ((a:Int)+b-x)=o:=by rw[hoe];exact f7 (by omega) (by omega)
      have gmo:=Z3 (E:=E) (n:=n) (k:=k) (part:=pt) hoc.1;have hmo:b4B E n k pt o=decide (o∈pt):=by unfold b4B;rw[decide_eq_false (by omega),Bool.false_or]
      have hj5:∀pt':List Nat,(∀y∈pt,y∈pt')→o∈pt'→∀w∈onW (g.Wires.take (q+1)) (s.Wires.take (q+1)),(w.a=x→w.b∈pt')∧(w.b=x→w.a∈pt'):=by
       intro pt' hsub hop w hw;rw[hsn,hon]at hw
       rcases List.mem_append.1 hw with hw|hw
       ·exact⟨fun e=>hsub _ ((j5 w hw).1 e),fun e=>hsub _ ((j5 w hw).2 e)⟩
       ·simp only[if_true,List.mem_singleton]at hw;subst hw;simp only;refine⟨fun e=>?_,fun e=>?_⟩
        ·rw[if_pos e]at ho;rw[←ho];exact hop
        ·rw[if_neg (by omega)]at ho;rw[←ho];exact hop
      have hmsl:=a4r E n k pt;have hms2:a1w E n k (pt++[o])=(a1w E n k pt).set o true:=a9A.symm;have hul:=o9 pt;have fpt:I9 (pt.length+1) 9:=m8 (by omega) (by omega);refine f6 ?_;simp only[zT,reduceIte,Nat.reduceEqDiff];refine hK9 _ _ ?_;refine b6 [0,1,3,5,6,8,20,21,43,44,45,999999] (Or.inl (by decide)) ?_;simp only[zP,Nat.reduceEqDiff,reduceIte];refine w9 l9 rfl (by decide) rfl rfl fun K hK=>?_;simp -dsimp [gx,j2,wab,wabx];refine hK _ _ _ (by decide+kernel) ?_;clear hK K;refine gS fun K hK=>?_;simp -dsimp [gmo,hmo,hoc.1];apply hK;clear hK K;refine d9 rfl (fun hc5=>?_) (fun hc5=>?_)
      ·refine gS fun K hK=>?_;simp -dsimp [hoc.1,hmsl,gmo];apply hK;clear hK K;refine gR fun K hK=>?_;simp -dsimp [fpt,hul];apply hK;clear hK K;simp only[zT,reduceIte,Nat.reduceEqDiff];refine hK8 _ _ ?_;refine b6 [0,1,3,5,6,20,21,43,44,45,999999] (Or.inl (by decide)) ?_;simp only[zP,Nat.reduceEqDiff,reduceIte];refine gR fun K hK=>?_;simp -dsimp [wq];apply hK;clear hK K;simp only[zT,reduceIte,Nat.reduceEqDiff];have hno:o∉pt:=by simpa using hc5
       have hup:upN (pt++[o])=upN pt++[(o:Int)]:=by simp[upN]
       refine⟨(q+1,pt++[o]),⟨by simp only;omega,by simp;omega,j3.more (by omega) (E4.2 hoc) hno,?_,hj5 _ (fun y hy=>by simp[hy]) (by simp)⟩,by simp only;omega,o1 (e9 [some 0,some 3] rfl (by simp) (by simp[hms2,hup,List.map_set,a9C])) (by simp)⟩;simp only;rw[List.getElem?_append_left j2];exact j4
      ·refine f6 ?_;simp only[zT,reduceIte,Nat.reduceEqDiff];refine hK8 _ _ ?_;refine b6 [0,1,3,5,6,20,21,43,44,45,999999] (Or.inl (by decide)) ?_;simp only[zP,Nat.reduceEqDiff,reduceIte];refine gR fun K hK=>?_;simp -dsimp [wq];apply hK;clear hK K;simp only[zT,reduceIte,Nat.reduceEqDiff];have hno:o∈pt:=by simpa using hc5
       exact⟨(q+1,pt),⟨by simp only;omega,j2,j3,j4,hj5 _ (fun y hy=>hy) hno⟩,by simp only;omega,o1 (e9 [some 0,some 1] rfl (by simp) (by simp)) (by simp)⟩
    ·have hqe:¬q<g.Wires.length:=by simpa using hc3
     have hsw:=hnt.sw;have ht1:g.Wires.take q=g.Wires:=List.take_of_length_le (by omega);have ht2:s.Wires.take q=s.Wires:=List.take_of_length_le (by omega);rw[ht1,ht2]at j5;refine i6 ?_;simp only[zT,reduceIte,Nat.reduceEqDiff];refine hK6 _ _ ?_;refine b6 [0,1,3,5,6,20,21,999999] (Or.inl (by decide)) ?_;simp only[zP,Nat.reduceEqDiff,reduceIte];refine gR fun K hK=>?_;simp -dsimp [wi];apply hK;clear hK K;simp only[zT,reduceIte,Nat.reduceEqDiff];have hptn:pt.length≤n:=Nat.le_trans j3.len b9v;refine⟨(i+1,pt),⟨by simp only;omega,j3.nd,j3.sub,j3.first,fun j y hj hy e he=>?_⟩,by simp only;omega,o1 (e9 [some 0,some 1] rfl (by simp) (by simp)) (by simp)⟩
     rcases Nat.lt_succ_iff_lt_or_eq.1 hj with h|h
     ·exact j3.done j y h hy e he
     ·subst h;rw[j4]at hy;simp only[Option.some.injEq]at hy;subst hy;rw[hE]at he;obtain⟨w,hw,rfl⟩:=List.mem_map.1 he;exact j5 w hw
   ·have hil:¬i<part.length:=by simpa using hc2
    have hie:i=part.length:=by omega
    rw[hie]at i2;have hpl12:part.length≤12:=Nat.le_trans i2.len (h12 k hkh);have hp1:1≤part.length:=List.length_pos_of_mem i2.first
    have hsort:=c1w (upN part) (by rw[o9];exact hp1) (by rw[o9];exact hpl12);rw[i2.sorted hkh,o9]at hsort;have hcl:(cp E n k).length=part.length:=((List.perm_ext_iff_of_nodup i2.nd I8).2 (i2.all hkh)).length_eq.symm;have hmn:a1w E n k part=a1w E n (k+1) []:=a6g fun j hj=>by rw[i2.all hkh];exact⟨fun h=>(E4.1 h).2,fun h=>E4.2 ⟨hj,h⟩⟩
    rw[hmn];have hxs:xs[A8 E n k]?=some [iL (upN (cp E n k))]:=by rw[hx0,List.getElem?_map,List.getElem?_map,b4O hc0 hnk];rfl
    refine i6 ?_;simp only[zT,reduceIte,Nat.reduceEqDiff];refine hK4 _ _ ?_;refine b6 [0,1,3,5,20,21,999999] (Or.inl (by decide)) ?_;simp only[zP,Nat.reduceEqDiff,reduceIte];refine gS fun K hK=>?_;simp -dsimp;refine k9 [1] [] [none,some 0] (hsort) (by decide) rfl (by simp) (by simp) rfl (by simp) ?_;simp -dsimp;apply hK;clear hK K;refine p9 (o1 (D5 (T':=[(0, .v (.func (.yield l) #[] #[])),(1, .iptr [net g s]),(3, .row 0 0 n),(5,iL (upN (cp E n k))),(20,I n),(21,I k),(999999,U7 (A8 E n k))]) (H':=[some (.els 1 ((a1w E n (k+1) []).map i9))]) [some 0] rfl ⟨.inr (by simp), .inr (by simp), .inr (by simp), .inr ?_, .inr (by simp), .inr (by simp), .inr (by simp[U7]),trivial⟩ (by simp)) (by simp)) ?_
    ·simp[←hcl,a9C,o9]
    ·refine c0W hmk hY rfl (by decide) rfl rfl fun K hK=>?_;simp -dsimp;refine b6b hxs ?_ ?_
     ·apply hK;clear hK K;refine d9 rfl (fun hc6=>?_) (fun hc6=>?_)
      ·simp at hc6
      ·refine f6 ?_;simp only[zT,reduceIte,Nat.reduceEqDiff];refine hK2 _ _ ?_;refine b6 [0,1,3,20,21,999999] (Or.inl (by decide)) ?_;simp only[zP,Nat.reduceEqDiff,reduceIte];refine gR fun K hK=>?_;simp -dsimp [wk];apply hK;clear hK K;simp only[zT,reduceIte,Nat.reduceEqDiff];have hh:A8 E n (k+1)=A8 E n k+1:=by rw[a1b,if_pos hnk]
       exact⟨k+1,by omega,by omega,o1 (e9 [some 0] rfl (by simp[hh]) (by simp)) (by simp[hh])⟩
     ·apply hK;clear hK K;refine d9 rfl (fun hc6=>?_) (fun hc6=>?_)
      ·exact j6 (by simp)
      ·simp at hc6
 ·skip
  try simp at hc0
  have hke:k=n:=by omega
  subst hke;refine i6 ?_
  try simp only[zT,reduceIte,Nat.reduceEqDiff]
  simp[hhl]
end Go.Cur
end
